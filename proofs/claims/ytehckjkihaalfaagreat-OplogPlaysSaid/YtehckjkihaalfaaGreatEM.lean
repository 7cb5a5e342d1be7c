/- Take, walked. -/
import Derived.Test.YtehckjkihaalfaaGreatEI
import Derived.Test.YtehckjkihaalfaaGreatEZ
import Derived.Test.YtehckjkihaalfaaGreatCN
import Derived.Handy
namespace Go.Proofs.YtehckjkihaalfaaGreat
open Go.RowKit Go.Maps

def takeR (st : List Int) (l : List R) : List R := delL (fun r => hasI st r.stamp) l
theorem takeR_len (st : List Int) (l : List R) : (takeR st l).length ≤ l.length := List.length_filter_le _ _
theorem takeR_mem {st : List Int} {l : List R} {r : R} (h : r ∈ takeR st l) : r ∈ l := (List.mem_filter.1 h).1
theorem takeR_twice (st : List Int) (l : List R) : takeR st (takeR st l) = takeR st l := by
  unfold takeR delL
  rw [List.filter_filter]
  simp
theorem PLog.eq_ {x y : PLog} (h1 : x.cores = y.cores) (h2 : x.most = y.most) (h3 : ∀ k, x.rows k = y.rows k) (h4 : x.last = y.last) : x = y := by
  obtain ⟨_, _, f, _⟩ := x
  obtain ⟨_, _, g, _⟩ := y
  simp only at h1 h2 h3 h4
  subst h1
  subst h2
  subst h4
  rw [show f = g from funext h3]
/-- The first i rows have been taken from. -/
def takenTo (x : PLog) (st : List Int) (i : Nat) : PLog := { x with rows := fun k => if k < i then takeR st (x.rows k) else x.rows k }
def takeP (x : PLog) (st : List Int) : PLog := { x with rows := fun k => takeR st (x.rows k) }
def takeN (x : PLog) (st : List Int) : Nat → Nat
  | 0 => 0
  | i + 1 => takeN x st i + ((x.rows i).length - (takeR st (x.rows i)).length)
theorem takenTo_zero (x : PLog) (st : List Int) : takenTo x st 0 = x := by
  unfold takenTo
  simp
theorem takenTo_succ (x : PLog) (st : List Int) (i : Nat) : { takenTo x st i with rows := setF (takenTo x st i).rows i (takeR st (x.rows i)) } = takenTo x st (i + 1) := by
  refine PLog.eq_ rfl rfl (fun k => ?_) rfl
  show (if k = i then takeR st (x.rows i) else if k < i then _ else _) = if k < i + 1 then _ else _
  by_cases h : k = i
  · subst h
    simp
  · rw [if_neg h]
    by_cases h2 : k < i
    · rw [if_pos h2, if_pos (by omega)]
    · rw [if_neg h2, if_neg (by omega)]
theorem takenTo_all {x : PLog} (hx : LogOk x) (st : List Int) : takenTo x st x.cores = takeP x st := by
  refine PLog.eq_ rfl rfl (fun k => ?_) rfl
  show (if k < x.cores then takeR st (x.rows k) else x.rows k) = takeR st (x.rows k)
  by_cases h : k < x.cores
  · rw [if_pos h]
  · rw [if_neg h, hx.out k (by omega)]
    rfl
theorem takeN_le {x : PLog} (st : List Int) (hl : ∀ k, k < 8 → (x.rows k).length ≤ 256) : ∀ i, i ≤ 8 → takeN x st i ≤ 256 * i
  | 0, _ => Nat.zero_le _
  | i + 1, h => by
    have h1 := takeN_le st hl i (by omega)
    have h2 := hl i (by omega)
    unfold takeN
    omega
theorem U64At.turn {w w' : World} {F F' : Nat → Prop} {A : Option Addr} {l : List Int} (h : U64At w A l) (ht : Turn w w' F F') (hF : l ≠ [] → ∀ b o, A = some ⟨b, o, none⟩ → ¬ F b) : U64At w' A l := fun hn => by
  obtain ⟨b, o, h1, h2, h3⟩ := h hn
  exact ⟨b, o, h1, Nat.lt_of_lt_of_le h2 ht.size, fun k x hk => (World.cell?_of_block (a := ⟨b, _, none⟩) (ht.block b h2 (hF hn b o h1))).trans (h3 k x hk)⟩
theorem grown_below {w w' : World} {q : Option Nat} (h : Below w.heap.size w w') : w.grownBy w' q := ⟨h.os, h.tape, h.output, h.size, fun b hb _ => h.block b hb⟩
theorem LogOk.take {x : PLog} (hx : LogOk x) (st : List Int) : LogOk (takeP x st) :=
  ⟨fun k hk => (hx.rising k hk).filter _, fun k hk r hr => hx.last k hk r (takeR_mem hr), fun k hk => by show takeR st (x.rows k) = []; rw [hx.out k hk]; rfl⟩
set_option maxRecDepth 100000 in
set_option maxHeartbeats 8000000 in
theorem t_takeLog (P : Nat) (ls : Nat → Value) (x : PLog) (w : World) (h : LogAt w P ls x) (hx : LogOk x) (As : Option Addr) (ns cs : Nat) (st : List Int) (hU : U64At w As st) (hns : st.length = ns) (hns2 : ns ≤ 9223372036854775807) (hF : st ≠ [] → ∀ b o, As = some ⟨b, o, none⟩ → ¬ Fl P ls b) :
    Calls Tryz.prog 16 #[.pointer (some ⟨P, 0, none⟩), .slice As ns cs] w fun e w' => e = .returned (.int .i64 (takeN x st x.cores : Nat)) ∧ ∃ ls', LogAt w' P ls' (takeP x st) ∧ Turn w w' (Fl P ls) (Fl P ls') := by
  have HNS := Lib.hid hns
  have HF := Lib.hid hF
  have hLa := h.below (below_a1' w (.cells #[.slice As ns cs] 23))
  have hUa := hU.below (below_a1' w (.cells #[.slice As ns cs] 23))
  have hbox : (w.alloc (.cells #[.slice As ns cs] 23)).heap[w.heap.size]? = some (.cells #[.slice As ns cs] 23 (0, 0)) := heap_alloc_new _ _
  have hBF : ¬ Fl P ls w.heap.size := fun hf => by have := (h.fl hf).2; omega
  have hT0 : Turn w (w.alloc (.cells #[.slice As ns cs] 23)) (Fl P ls) (Fl P ls) := Turn.of_below _ (below_a1' w _)
  have h8 := h.cores8
  have c0 := hLa.c0
  obtain ⟨wa, hwa⟩ : ∃ wa, wa = w.alloc (.cells #[.slice As ns cs] 23) := ⟨_, rfl⟩
  rw [← hwa] at hLa hUa hbox hT0
  have HLA := Lib.hid hLa
  have HUA := Lib.hid hUa
  have HBX := Lib.hid hbox
  have HBF := Lib.hid hBF
  have HT0 := Lib.hid hT0
  have HX := Lib.hid hx
  have HSZ : Hid (w.heap.size < wa.heap.size) := lt_heap hbox
  have HLEN := Lib.hid h.len
  clear hns hF hLa hUa hbox hBF hT0 hx h hU
  go_enter Tryz.func16, Tryz.ntmps16
  go_wp2
  rw [← hwa]
  clear hwa c0
  go_loopw [4, 13] (fun v y wr => ∃ i : Nat, v = .int .i64 (takeN x st i : Nat) ∧ y = .int .i64 (i : Int) ∧ i ≤ x.cores ∧ Hid (∃ ls2, LogAt wr P ls2 (takenTo x st i) ∧ Turn wa wr (Fl P ls) (Fl P ls2))) (fun _ y _ => x.cores - (intOf y).toNat)
  case atStart => exact ⟨0, rfl, rfl, Nat.zero_le _, ls, by rw [takenTo_zero]; exact HLA.out, Turn.refl _ _⟩
  case round =>
    obtain ⟨i, rfl, rfl, hi, HI⟩ := hrel
    obtain ⟨ls2, hL, hT⟩ := HI.out
    by_cases hic : i < x.cores
    · have hi8 : i < 8 := by omega
      have hi8' : ((i : Nat) : Int) < 8 := by omega
      have HUr := Lib.hid (HUA.out.turn hT (fun hn b o e => HF.out hn b o e))
      have HBr : Hid (wr.heap[w.heap.size]? = some (.cells #[.slice As ns cs] 23 (0, 0))) := (hT.block _ HSZ.out HBF.out).trans HBX.out
      obtain ⟨l, hl⟩ : ∃ l, l = x.rows i := ⟨_, rfl⟩
      have hrow : (takenTo x st i).rows i = l := by show (if i < i then _ else x.rows i) = l; rw [if_neg (by omega), hl]
      have hOW := hL.own i hi8
      have hOK := hL.ok i hi8
      have hLE := hL.len i hi8
      obtain ⟨A, cap, hsl⟩ := hL.slice hi8
      rw [hrow] at hOW hOK hLE hsl
      obtain ⟨n, hn⟩ : ∃ n, n = l.length := ⟨_, rfl⟩
      rw [← hn] at hOW hLE hsl
      rw [hsl] at hOW
      have HN : Hid (l.length = n) := hn.symm
      have HSL := Lib.hid hsl
      have HOWr := Lib.hid hOW
      have HOK := Lib.hid hOK
      have HL := Lib.hid hL
      have HT := Lib.hid hT
      have HLl := Lib.hid hl
      have HBlt : Hid (w.heap.size < wr.heap.size) := Nat.lt_of_lt_of_le HSZ.out hT.size
      have HP : Hid (P + 1 ≤ wr.heap.size) := hL.lt
      have hn6 : n ≤ 60000 := by omega
      have ht : takeN x st i ≤ 2048 := by have := takeN_le st HLEN.out i (by omega); omega
      obtain ⟨m, hm⟩ : ∃ m, m = (takeR st l).length := ⟨_, rfl⟩
      have hmn : m ≤ n := by rw [hm, ← HN.out]; exact takeR_len _ _
      have HM := Lib.hid hm.symm
      have HTN : Hid (takeN x st (i + 1) = takeN x st i + (n - m)) := by
        show takeN x st i + ((x.rows i).length - (takeR st (x.rows i)).length) = _
        rw [← HLl.out, HN.out, ← hm]
      have crow := HL.out.row hi8
      rw [HSL.out] at crow
      obtain ⟨t, htt⟩ : ∃ t, t = takeN x st i := ⟨_, rfl⟩
      rw [← htt] at ht HTN ⊢
      clear HI hL hT hl hrow hOW hOK hsl hn hm htt
      go_wp2
      refine wp_region_midD 14 10 (fun j => j == 8) RelB (fun W W' => wr.heap.size ≤ W.heap.size → Below wr.heap.size W W') (fun W W' => wr.heap.size ≤ W.heap.size → Below wr.heap.size W W') (phi [isV (.pointer (some ⟨P, 0, none⟩)), isV (.int .i64 (i : Int)), isV (.pointer (some ⟨P, 0, none⟩)), isV (.int .i64 (i : Int)), isV (.pointer (some ⟨P, 0, none⟩)), isV (.pointer (some ⟨P, 2, none⟩)), isV (.pointer (some ⟨P, 2 + i, none⟩)), isV (.slice A n cap), (fun v W => ∃ A1 c1, v = .slice A1 n c1 ∧ W.ownsRow wr.heap.size 34 12 (.slice A1 n c1) n (flatR l)), isV (.func (.func 59) #[] #[.pointer (some ⟨w.heap.size, 0, none⟩)]), (fun v W => ∃ A2 c2, v = .slice A2 m c2 ∧ W.ownsRow wr.heap.size 34 12 (.slice A2 m c2) m (flatR (takeR st l))), isV (.pointer (some ⟨P, 0, none⟩)), isV (.pointer (some ⟨P, 2, none⟩)), isV (.pointer (some ⟨P, 2 + i, none⟩))]) (fun W => ∃ ls3, LogAt W P ls3 (takenTo x st (i + 1)) ∧ Turn wr W (Fl P ls2) (Fl P ls3)) (by kernel_rfl) (by kernel_rfl) (by kernel_rfl) (by decide) (RelB.of (below_drew _)) (fun _ _ _ a b => a.trans b) (fun _ _ h hs => Below.mono h hs) (fun _ _ h => h) (fun _ _ _ a b hs => (a hs).trans (b (Nat.le_trans hs (a hs).size))) ?_ ?_ ?_ ?_ ?_
      · refine stays_phiR ?_
        simp only [List.forall_mem_cons]
        exact ⟨fun _ _ _ h _ => h, fun _ _ _ h _ => h, fun _ _ _ h _ => h, fun _ _ _ h _ => h, fun _ _ _ h _ => h, fun _ _ _ h _ => h, fun _ _ _ h _ => h, fun _ _ _ h _ => h, fun _ _ _ h hb => by obtain ⟨A1, c1, h1, h2⟩ := h; exact ⟨A1, c1, h1, row_below h2 hb⟩, fun _ _ _ h _ => h, fun _ _ _ h hb => by obtain ⟨A1, c1, h1, h2⟩ := h; exact ⟨A1, c1, h1, row_below h2 hb⟩, fun _ _ _ h _ => h, fun _ _ _ h _ => h, fun _ _ _ h _ => h, fun _ h => absurd h (by simp)⟩
      · intro i v W W3 hne hD hph hPP
        rcases i with _ | _ | _ | _ | _ | _ | _ | _ | _ | _ | _ | _ | _ | _ | i
        · exact hph
        · exact hph
        · exact hph
        · exact hph
        · exact hph
        · exact hph
        · exact hph
        · exact hph
        · exact absurd hD (by decide)
        · exact hph
        · exact absurd rfl hne
        · exact hph
        · exact hph
        · exact hph
        · trivial
      · refine ⟨?_, ?_, ?_, ?_, ?_, ?_, ?_, ?_, ?_, ?_, ?_, ?_, ?_, ?_, trivial⟩
        · refine opA_mkD (by decide) rfl fun aa W2 hB hp hq K hK => ?_
          have e0 : aa.tmps[0]?.getD undef = .pointer (some ⟨P, 0, none⟩) := hp 0 (by kernel_rfl)
          clear hp hq
          go_simp
          exact hK _ _ (RelB.refl _) rfl
        · refine opA_mkD (by decide) rfl fun aa W2 hB hp hq K hK => ?_
          have e5 : aa.tmps[5]?.getD undef = .int .i64 (i : Int) := hp 5 (by kernel_rfl)
          clear hp hq
          go_simp
          exact hK _ _ (RelB.refl _) rfl
        · refine opA_mkD (by decide) rfl fun aa W2 hB hp hq K hK => ?_
          have e0 : aa.tmps[0]?.getD undef = .pointer (some ⟨P, 0, none⟩) := hp 0 (by kernel_rfl)
          clear hp hq
          go_simp
          exact hK _ _ (RelB.refl _) rfl
        · refine opA_mkD (by decide) rfl fun aa W2 hB hp hq K hK => ?_
          have e5 : aa.tmps[5]?.getD undef = .int .i64 (i : Int) := hp 5 (by kernel_rfl)
          clear hp hq
          go_simp
          exact hK _ _ (RelB.refl _) rfl
        · refine opA_mkD (by decide) rfl fun aa W2 hB hp hq K hK => ?_
          have e25 : aa.tmps[25]?.getD undef = .pointer (some ⟨P, 0, none⟩) := hq 2 _ (by kernel_rfl) rfl
          clear hp hq
          go_simp
          exact hK _ _ (RelB.refl _) rfl
        · refine opA_mkD (by decide) rfl fun aa W2 hB hp hq K hK => ?_
          have e27 : aa.tmps[27]?.getD undef = .pointer (some ⟨P, 0, none⟩) := hq 4 _ (by kernel_rfl) rfl
          clear hp hq
          go_simp
          exact hK _ _ (RelB.refl _) rfl
        · refine opA_mkD (by decide) rfl fun aa W2 hB hp hq K hK => ?_
          have e28 : aa.tmps[28]?.getD undef = .pointer (some ⟨P, 2, none⟩) := hq 5 _ (by kernel_rfl) rfl
          have e26 : aa.tmps[26]?.getD undef = .int .i64 (i : Int) := hq 3 _ (by kernel_rfl) rfl
          clear hp hq
          go_simp
          exact hK _ _ (RelB.refl _) rfl
        · refine opA_mkD (by decide) rfl fun aa W2 hB hp hq K hK => ?_
          have e29 : aa.tmps[29]?.getD undef = .pointer (some ⟨P, 2 + i, none⟩) := hq 6 _ (by kernel_rfl) rfl
          have hb := hB (Nat.le_refl _)
          have cr := (HL.out.below hb).row hi8
          rw [HSL.out] at cr
          clear hp hq
          go_simp
          exact hK _ _ (RelB.refl _) rfl
        · refine opA_mkD (by decide) rfl fun aa W2 hB hp hq K hK => ?_
          have e30 : aa.tmps[30]?.getD undef = .slice A n cap := hq 7 _ (by kernel_rfl) rfl
          have hb := hB (Nat.le_refl _)
          clear hp hq
          go_simp
          refine (t_cloneRec A n cap (P + 1) l W2 (row_below HOWr.out hb) HN.out hn6).mono ?_
          rintro e w3 ⟨A1, c1, rfl, h1, h2⟩
          exact hK _ _ (RelB.of h2) ⟨A1, c1, rfl, own_low h1 hb.size⟩
        · refine opA_mkD (by decide) rfl fun aa W2 hB hp hq K hK => ?_
          have e3 : aa.tmps[3]?.getD undef = .pointer (some ⟨w.heap.size, 0, none⟩) := hp 3 (by kernel_rfl)
          clear hp hq
          go_simp
          exact hK _ _ (RelB.refl _) rfl
        · refine opP_mkD rfl rfl fun aa W2 hB hp hq K hK => ?_
          have e32 : aa.tmps[32]?.getD undef = .func (.func 59) #[] #[.pointer (some ⟨w.heap.size, 0, none⟩)] := hq 9 _ (by kernel_rfl) rfl
          obtain ⟨A1, c1, e31, hrow⟩ := hq 8 _ (by kernel_rfl) rfl
          have e31 : aa.tmps[31]?.getD undef = .slice A1 n c1 := e31
          clear hp hq
          go_simp
          refine (t_deleteTake A1 n c1 wr.heap.size l W2 hrow HN.out hn6 HOK.out w.heap.size As ns cs st HNS.out hns2 (Below.size hB) (fun W hW => ⟨HUr.out.below (Below.trans hB hW), (Below.block (Below.trans hB hW) _ HBlt.out).trans HBr.out⟩)).mono ?_
          rintro e w3 ⟨A2, m2, c2, rfl, hm2, h1, h2⟩
          obtain rfl : m2 = m := hm2.trans HM.out
          exact hK _ _ (fun _ => h2) ⟨A2, c2, rfl, h1⟩
        · refine opA_mkD (by decide) rfl fun aa W2 hB hp hq K hK => ?_
          have e23 : aa.tmps[23]?.getD undef = .pointer (some ⟨P, 0, none⟩) := hq 0 _ (by kernel_rfl) rfl
          clear hp hq
          go_simp
          exact hK _ _ (RelB.refl _) rfl
        · refine opA_mkD (by decide) rfl fun aa W2 hB hp hq K hK => ?_
          have e34 : aa.tmps[34]?.getD undef = .pointer (some ⟨P, 0, none⟩) := hq 11 _ (by kernel_rfl) rfl
          clear hp hq
          go_simp
          exact hK _ _ (RelB.refl _) rfl
        · refine opA_mkD (by decide) rfl fun aa W2 hB hp hq K hK => ?_
          have e35 : aa.tmps[35]?.getD undef = .pointer (some ⟨P, 2, none⟩) := hq 12 _ (by kernel_rfl) rfl
          have e24 : aa.tmps[24]?.getD undef = .int .i64 (i : Int) := hq 1 _ (by kernel_rfl) rfl
          clear hp hq
          go_simp
          exact hK _ _ (RelB.refl _) rfl
      · intro oN hoN aa W2 hB hp hq K hK
        obtain rfl := Option.some.inj hoN
        have hb := hB (Nat.le_refl _)
        have e36 : aa.tmps[36]?.getD undef = .pointer (some ⟨P, 2 + i, none⟩) := hq 13 _ (by decide) (by decide) rfl
        obtain ⟨A2, c2, e33, hrow⟩ := hq 10 _ (by decide) (by decide) rfl
        have e33 : aa.tmps[33]?.getD undef = .slice A2 m c2 := e33
        have hL2 := HL.out.below hb
        have cl := hL2.row hi8
        have fl := hL2.frozen (2 + i)
        have hset := HL.out.setRow hi8 (W2 := W2) (grown_below hb) (.slice A2 m c2) (takeR st l) (by rw [HM.out]; exact own_low hrow HP.out) (fun q hq => .inr (hrow.lt q hq).1) (fun r hr => HOK.out r (takeR_mem hr)) (by rw [HM.out]; omega)
        rw [show { takenTo x st i with rows := setF (takenTo x st i).rows i (takeR st l) } = takenTo x st (i + 1) by rw [HLl.out]; exact takenTo_succ x st i] at hset
        have HSET := Lib.hid hset
        clear hp hq hset hrow
        go_simp
        exact hK _ ⟨_, HSET.out⟩
      · intro vs3 W3 hF hv
        obtain ⟨ls3, hL3, hT3⟩ := hF
        obtain ⟨A3, c3, hsl3⟩ := hL3.slice hi8
        have hrow3 : ((takenTo x st (i + 1)).rows i).length = m := by rw [← HM.out]; show (if i < i + 1 then takeR st (x.rows i) else _).length = _; rw [if_pos (by omega), HLl.out]
        rw [hrow3] at hsl3
        have crow3 := hL3.row hi8
        rw [hsl3] at crow3
        have HL3 := Lib.hid hL3
        have HT3 := Lib.hid hT3
        clear hL3 hT3 hsl3 hrow3 hv crow
        simp only [List.take_succ_cons, List.take_zero, putAll, Act.put, List.setIfInBounds_toArray, List.set_cons_succ, List.set_cons_zero, Nat.zero_add, Nat.reduceAdd]
        go_wp2
        go_roundw
        case rel =>
          refine ⟨i + 1, ?_, rfl, hic, ls3, HL3.out, HT.out.trans HT3.out⟩
          rw [HTN.out]
          congr 1
          omega
        case measure => simp only [intOf]; omega
    · obtain rfl : i = x.cores := by omega
      go_wp2
      go_ret
      exact ⟨rfl, ls2, takenTo_all HX.out st ▸ hL, HT0.out.trans hT⟩
end Go.Proofs.YtehckjkihaalfaaGreat

/- Len, List, Room, Last, walked. -/
namespace Go.Proofs.YtehckjkihaalfaaGreat
open Go.RowKit Go.Maps

def lenN (x : PLog) : Nat → Nat
  | 0 => 0
  | i + 1 => lenN x i + (x.rows i).length
theorem lenN_le {x : PLog} (hl : ∀ k, k < 8 → (x.rows k).length ≤ 256) : ∀ i, i ≤ 8 → lenN x i ≤ 256 * i
  | 0, _ => Nat.zero_le _
  | i + 1, h => by
    have h1 := lenN_le hl i (by omega)
    have h2 := hl i (by omega)
    unfold lenN
    omega
set_option maxRecDepth 100000 in
set_option maxHeartbeats 4000000 in
theorem t_lenLog (P : Nat) (ls : Nat → Value) (x : PLog) (w : World) (h : LogAt w P ls x) :
    Calls Tryz.prog 21 #[.pointer (some ⟨P, 0, none⟩)] w fun e w' => e = .returned (.int .i64 (lenN x x.cores : Nat)) ∧ w = w' := by
  have h8 := h.cores8
  have c0 := h.c0
  have HH := Lib.hid h
  clear h
  have hlen : ∀ i, i ≤ 8 → lenN x i ≤ 256 * i := lenN_le HH.out.len
  go_enter Tryz.func21, Tryz.ntmps21
  go_wp2
  go_loopw [2, 10] (fun v y wr => ∃ i : Nat, v = .int .i64 (lenN x i : Nat) ∧ y = .int .i64 (i : Int) ∧ i ≤ x.cores ∧ w = wr) (fun _ y _ => x.cores - (intOf y).toNat)
  case atStart => exact ⟨0, rfl, rfl, Nat.zero_le _, rfl⟩
  case round =>
    obtain ⟨i, rfl, rfl, hi, rfl⟩ := hrel
    by_cases hic : i < x.cores
    · have hi8 : i < 8 := by omega
      have hi8' : ((i : Nat) : Int) < 8 := by omega
      have crow := HH.out.row hi8
      obtain ⟨A, cap, hsl⟩ := HH.out.slice hi8
      obtain ⟨n, hn⟩ : ∃ n, n = (x.rows i).length := ⟨_, rfl⟩
      have hn2 := HH.out.len i hi8
      rw [← hn] at hsl hn2
      rw [hsl] at crow
      have HS : Hid (lenN x (i + 1) = lenN x i + n) := by show _ + _ = _; rw [hn]
      have ht := hlen i (by omega)
      obtain ⟨t, htt⟩ : ∃ t, t = lenN x i := ⟨_, rfl⟩
      rw [← htt] at ht HS ⊢
      clear hsl hn htt hlen
      go_wp2
      go_roundw
      case rel => exact ⟨i + 1, by rw [HS.out]; congr 1, rfl, hic, by first | rfl | trivial⟩
      case measure => simp only [intOf]; omega
    · obtain rfl : i = x.cores := by omega
      go_wp2
      go_ret
      exact ⟨rfl, rfl⟩
set_option maxRecDepth 100000 in
set_option maxHeartbeats 4000000 in
theorem t_listLog (P : Nat) (ls : Nat → Value) (x : PLog) (k : Nat) (w : World) (h : LogAt w P ls x) (hk : k < x.cores) :
    Calls Tryz.prog 19 #[.pointer (some ⟨P, 0, none⟩), .int .i64 (k : Int)] w fun e w' => ∃ A c, e = .returned (.slice A (x.rows k).length c) ∧ w'.ownsRow w.heap.size 34 12 (.slice A (x.rows k).length c) (x.rows k).length (flatR (x.rows k)) ∧ Below w.heap.size w w' := by
  have h8 := h.cores8
  have c0 := h.c0
  have hk8 : k < 8 := by omega
  have hk8' : (k : Int) < 8 := by omega
  have crow := h.row hk8
  have hown := h.own k hk8
  have hlen := h.len k hk8
  obtain ⟨A, cap, hsl⟩ := h.slice hk8
  obtain ⟨n, hn⟩ : ∃ n, n = (x.rows k).length := ⟨_, rfl⟩
  rw [← hn] at hsl hown hlen ⊢
  rw [hsl] at crow hown
  have hhas := t_has P (k : Int) (x.cores : Int) true (by simp; omega) w h.c0
  have HHAS := Lib.hid hhas
  have hcl := t_cloneRec A n cap (P + 1) (x.rows k) w hown hn.symm (by omega)
  have HCL := Lib.hid hcl
  clear h hown hhas hcl hsl hn
  go_enter Tryz.func19, Tryz.ntmps19
  go_wp2_with (go_at_call 53; (with_reducible refine HHAS.out.mono ?_); rintro e w' ⟨rfl, rfl⟩)
  go_wp2_with (go_at_call 58; (with_reducible refine HCL.out.mono ?_); rintro e w2 ⟨A1, c1, rfl, h1, h2⟩; have H2 := Lib.hid (And.intro h1 h2); clear h1 h2)
  go_ret
  exact ⟨A1, c1, rfl, H2.out.1, H2.out.2⟩
set_option maxRecDepth 100000 in
set_option maxHeartbeats 4000000 in
theorem t_roomLog (P : Nat) (ls : Nat → Value) (x : PLog) (k : Nat) (w : World) (h : LogAt w P ls x) (hk : k < x.cores) :
    Calls Tryz.prog 51 #[.pointer (some ⟨P, 0, none⟩), .int .i64 (k : Int)] w fun e w' => e = .returned (.int .i64 ((x.most : Int) - ((x.rows k).length : Nat))) ∧ Below w.heap.size w w' := by
  have h8 := h.cores8
  have h256 := h.most256
  have c1 := h.c1
  have hk8 : k < 8 := by omega
  have hk8' : (k : Int) < 8 := by omega
  have crow := h.row hk8
  have hlen := h.len k hk8
  obtain ⟨A, cap, hsl⟩ := h.slice hk8
  obtain ⟨n, hn⟩ : ∃ n, n = (x.rows k).length := ⟨_, rfl⟩
  rw [← hn] at hsl hlen ⊢
  rw [hsl] at crow
  have hhas := t_has P (k : Int) (x.cores : Int) true (by simp; omega) w h.c0
  have HHAS := Lib.hid hhas
  have hw1 : wrap64 ((x.most : Int) - (n : Int)) = (x.most : Int) - (n : Int) := by unfold wrap64; omega
  clear h hhas hsl hn
  go_enter Tryz.func51, Tryz.ntmps51
  go_wp2_with (go_at_call 53; (with_reducible refine HHAS.out.mono ?_); rintro e w' ⟨rfl, rfl⟩)
  go_quiet (fail)
  generalize hw2 : w.drewN _ = w2
  have HB2 : Hid (Below w.heap.size w w2) := by rw [← hw2]; exact pbelow_drewN (Below.refl _ _) _
  clear hw2
  go_wp2
  go_ret
  exact ⟨rfl, HB2.out⟩
set_option maxRecDepth 100000 in
set_option maxHeartbeats 4000000 in
theorem t_lastLog (P : Nat) (ls : Nat → Value) (x : PLog) (k : Nat) (w : World) (h : LogAt w P ls x) (hk : k < x.cores) :
    Calls Tryz.prog 52 #[.pointer (some ⟨P, 0, none⟩), .int .i64 (k : Int)] w fun e w' => e = .returned (.int .u64 (x.last k)) ∧ w = w' := by
  have h8 := h.cores8
  have hk8 : k < 8 := by omega
  have hk8' : (k : Int) < 8 := by omega
  have crow := h.lst hk8
  have hhas := t_has P (k : Int) (x.cores : Int) true (by simp; omega) w h.c0
  have HHAS := Lib.hid hhas
  clear h hhas
  go_enter Tryz.func52, Tryz.ntmps52
  go_wp2_with (go_at_call 53; (with_reducible refine HHAS.out.mono ?_); rintro e w' ⟨rfl, rfl⟩)
  go_ret
  exact ⟨rfl, rfl⟩
end Go.Proofs.YtehckjkihaalfaaGreat

/- Logs, in plain words: what is put, taken and merged. -/
namespace Go.Proofs.YtehckjkihaalfaaGreat
open Go.RowKit Go.Maps

def newP (cores most : Nat) : PLog := ⟨cores, most, fun _ => [], fun _ => 0⟩
theorem LogOk.new (cores most : Nat) : LogOk (newP cores most) := ⟨fun _ _ => List.Pairwise.nil, fun _ _ r hr => by simp [newP] at hr, fun _ _ => rfl⟩
theorem putL_cores (x : PLog) (k : Int) (r : R) : (putL x k r).cores = x.cores := by unfold putL; split <;> rfl
theorem putL_most (x : PLog) (k : Int) (r : R) : (putL x k r).most = x.most := by unfold putL; split <;> rfl
theorem putE_zero {x : PLog} {k : Int} {r : R} (h : putE x k r = 0) : 0 ≤ k ∧ k.toNat < x.cores ∧ checkB r = true ∧ x.last k.toNat < r.stamp := by
  unfold putE at h
  split at h
  · rename_i h1
    exact ⟨h1.1, by omega, h1.2.2.1, h1.2.2.2⟩
  · omega
theorem LogOk.put {x : PLog} (hx : LogOk x) (h8 : x.cores ≤ 8) (k : Int) (r : R) : LogOk (putL x k r) := by
  unfold putL
  split
  · rename_i h0
    obtain ⟨h1, h2, _, h4⟩ := putE_zero h0
    obtain ⟨j, hj⟩ : ∃ j, j = k.toNat := ⟨_, rfl⟩
    rw [← hj] at h2 h4 ⊢
    refine ⟨fun i hi => ?_, fun i hi s hs => ?_, fun i hi => ?_⟩
    · show Rising (setF x.rows j (x.rows j ++ [r]) i)
      by_cases e : i = j
      · subst e
        rw [setF_same]
        unfold Rising
        rw [List.pairwise_append]
        refine ⟨hx.rising i hi, List.pairwise_singleton _ _, fun a ha b hb => ?_⟩
        rw [List.mem_singleton] at hb
        subst hb
        have := hx.last i hi a ha
        omega
      · rw [setF_other _ _ e]
        exact hx.rising i hi
    · have hs' : s ∈ setF x.rows j (x.rows j ++ [r]) i := hs
      show s.stamp ≤ setF x.last j r.stamp i
      by_cases e : i = j
      · subst e
        rw [setF_same] at hs' ⊢
        rcases List.mem_append.1 hs' with hs' | hs'
        · have := hx.last i hi s hs'
          omega
        · rw [List.mem_singleton] at hs'
          subst hs'
          exact Int.le_refl _
      · rw [setF_other _ _ e] at hs' ⊢
        exact hx.last i hi s hs'
    · show setF x.rows j (x.rows j ++ [r]) i = []
      rw [setF_other _ _ (by have hi' : x.cores ≤ i := hi; omega)]
      exact hx.out i hi
  · exact hx
/-- Asked once, refused from then on. -/
def Seen (x : PLog) (a : Int × R) : Prop := putE x a.1 a.2 = 2
theorem putL_last (x : PLog) (k : Int) (r : R) (j : Nat) : x.last j ≤ (putL x k r).last j := by
  unfold putL
  split
  · rename_i h0
    obtain ⟨_, _, _, h4⟩ := putE_zero h0
    show x.last j ≤ setF x.last k.toNat r.stamp j
    by_cases e : j = k.toNat
    · subst e
      rw [setF_same]
      omega
    · rw [setF_other _ _ e]
      exact Int.le_refl _
  · exact Int.le_refl _
theorem seen_iff {x : PLog} {a : Int × R} : Seen x a ↔ ¬ (0 ≤ a.1 ∧ a.1 < x.cores ∧ checkB a.2 = true ∧ x.last a.1.toNat < a.2.stamp) := by
  unfold Seen putE
  constructor
  · intro h hh
    rw [if_pos hh] at h
    split at h <;> omega
  · intro h
    rw [if_neg h]
theorem Seen.mono {x y : PLog} {a : Int × R} (h : Seen x a) (hc : y.cores = x.cores) (hl : ∀ j, x.last j ≤ y.last j) : Seen y a := by
  rw [seen_iff] at h ⊢
  rintro ⟨h1, h2, h3, h4⟩
  exact h ⟨h1, by rw [← hc]; exact h2, h3, Int.lt_of_le_of_lt (hl _) h4⟩
/-- Behind so many puts. -/
structure PutsL (x : PLog) (l : List (Int × R)) (i : Nat) : Prop where
  cores : x.cores = 4
  most : x.most = 256
  ok : LogOk x
  len : ∀ k, (x.rows k).length ≤ i
  seen : ∀ j, j < i → ∀ a, l[j]? = some a → Seen x a
theorem PutsL.start (l : List (Int × R)) : PutsL (newP 4 256) l 0 := ⟨rfl, rfl, LogOk.new _ _, fun _ => Nat.le_refl _, fun j hj => by omega⟩
theorem PutsL.next {x : PLog} {l : List (Int × R)} {i : Nat} (h : PutsL x l i) (hi : i < 256) {k : Int} {r : R} (hl : l[i]? = some (k, r)) : PutsL (putL x k r) l (i + 1) := by
  refine ⟨(putL_cores x k r).trans h.cores, (putL_most x k r).trans h.most, h.ok.put (by rw [h.cores]; omega) k r, fun j => ?_, fun j hj a ha => ?_⟩
  · have := h.len j
    unfold putL
    split
    · show (setF x.rows k.toNat (x.rows k.toNat ++ [r]) j).length ≤ _
      by_cases e : j = k.toNat
      · subst e
        rw [setF_same, List.length_append, List.length_singleton]
        omega
      · rw [setF_other _ _ e]
        omega
    · omega
  · rcases (by omega : j < i ∨ j = i) with hj | rfl
    · exact (h.seen j hj a ha).mono (putL_cores x k r) (putL_last x k r)
    · rw [hl] at ha
      obtain rfl := Option.some.inj ha
      by_cases h0 : putE x k r = 0
      · rw [seen_iff]
        rintro ⟨_, _, _, h4⟩
        have h5 : (putL x k r).last k.toNat = r.stamp := by
          unfold putL
          rw [if_pos h0]
          exact setF_same _ _ _
        show False
        have h4' : (putL x k r).last k.toNat < r.stamp := h4
        omega
      · have h1 : putL x k r = x := by unfold putL; rw [if_neg h0]
        rw [h1]
        have h2 := h.len k.toNat
        have h3 := h.most
        unfold Seen
        show putE x k r = 2
        unfold putE at h0 ⊢
        split at h0
        · rename_i hc
          rw [if_pos (by omega)] at h0
          omega
        · rename_i hc
          rw [if_neg hc]
theorem Seen.stays {x : PLog} {a : Int × R} (h : Seen x a) : putL x a.1 a.2 = x := by
  unfold putL
  rw [if_neg (by unfold Seen at h; omega)]

/-- A merged row with the cores beside it. -/
def tLt (a b : Nat × R) : Prop := a.2.stamp < b.2.stamp ∨ (a.2.stamp = b.2.stamp ∧ a.1 < b.1)
structure IsTag (x : PLog) (L : List (Nat × R)) : Prop where
  sort : L.Pairwise tLt
  mem : ∀ a, a ∈ L ↔ a.1 < x.cores ∧ a.2 ∈ x.rows a.1
theorem IsTag.unique {x : PLog} {L M : List (Nat × R)} (h : IsTag x L) (k : IsTag x M) : L = M :=
  sorted_unique (fun _ => by unfold tLt; omega) (fun _ _ _ => by unfold tLt; omega) h.sort k.sort fun a => (h.mem a).trans (k.mem a).symm
def tagOf (x : PLog) (a : Nat × Nat) : Nat × R := (a.1, recAt x a)
theorem rAt_mem_iff {l : List R} {r : R} : r ∈ l ↔ ∃ i, i < l.length ∧ rAt l i = r := by
  constructor
  · intro h
    obtain ⟨i, hi, he⟩ := List.getElem_of_mem h
    exact ⟨i, hi, by unfold rAt; rw [List.getD_eq_getElem?_getD, List.getElem?_eq_getElem hi]; exact he⟩
  · rintro ⟨i, hi, rfl⟩
    exact rAt_mem hi
theorem IsMerge.tags {x : PLog} {done : List (Nat × Nat)} (h : IsMerge x done) : IsTag x (done.map (tagOf x)) := by
  refine ⟨?_, fun a => ?_⟩
  · rw [List.pairwise_map]
    exact h.sort
  · rw [List.mem_map]
    constructor
    · rintro ⟨p, hp, rfl⟩
      have hv := (h.mem p).1 hp
      exact ⟨hv.1, rAt_mem hv.2⟩
    · rintro ⟨h1, h2⟩
      obtain ⟨i, hi, he⟩ := rAt_mem_iff.1 h2
      exact ⟨(a.1, i), (h.mem _).2 ⟨h1, hi⟩, Prod.ext rfl he⟩
theorem IsTag.filter {x : PLog} {L : List (Nat × R)} (h : IsTag x L) (st : List Int) : IsTag (takeP x st) (L.filter fun a => !hasI st a.2.stamp) := by
  refine ⟨h.sort.filter _, fun a => ?_⟩
  rw [List.mem_filter, h.mem a]
  show _ ↔ a.1 < x.cores ∧ a.2 ∈ takeR st (x.rows a.1)
  unfold takeR delL
  rw [List.mem_filter, and_assoc]
/-- What is merged behind a Take is what was merged, without those taken. -/
theorem merge_take {x : PLog} {st : List Int} {d e : List (Nat × Nat)} (h : IsMerge x d) (k : IsMerge (takeP x st) e) : e.map (recAt (takeP x st)) = takeR st (d.map (recAt x)) := by
  have h1 := (h.tags.filter st).unique k.tags
  have h2 := congrArg (List.map Prod.snd) h1
  rw [List.map_map] at h2
  have h3 : (Prod.snd ∘ tagOf (takeP x st)) = recAt (takeP x st) := rfl
  rw [h3] at h2
  rw [← h2]
  unfold takeR delL
  rw [List.filter_map, List.filter_map, List.map_map]
  rfl
theorem merge_same {x : PLog} {d e : List (Nat × Nat)} (h : IsMerge x d) (k : IsMerge x e) : e.map (recAt x) = d.map (recAt x) := by rw [h.unique k]
/-- Every place, core by core. -/
def allPs (x : PLog) (i : Nat) : List (Nat × Nat) := (List.range i).flatMap fun c => (List.range (x.rows c).length).map fun p => (c, p)
theorem allPs_len (x : PLog) : ∀ i, (allPs x i).length = lenN x i
  | 0 => rfl
  | i + 1 => by
    unfold allPs lenN
    rw [List.range_succ, List.flatMap_append, List.length_append]
    have := allPs_len x i
    unfold allPs at this
    rw [this]
    simp
theorem allPs_mem {x : PLog} {i : Nat} {a : Nat × Nat} : a ∈ allPs x i ↔ a.1 < i ∧ a.2 < (x.rows a.1).length := by
  unfold allPs
  simp only [List.mem_flatMap, List.mem_range, List.mem_map]
  constructor
  · rintro ⟨c, h1, p, h2, rfl⟩
    exact ⟨h1, h2⟩
  · rintro ⟨h1, h2⟩
    exact ⟨a.1, h1, a.2, h2, rfl⟩
theorem allPs_nodup (x : PLog) : ∀ i, (allPs x i).Nodup
  | 0 => List.nodup_nil
  | i + 1 => by
    unfold allPs
    rw [List.range_succ, List.flatMap_append, List.nodup_append]
    refine ⟨allPs_nodup x i, ?_, fun a ha b hb => ?_⟩
    · simp only [List.flatMap_cons, List.flatMap_nil, List.append_nil]
      unfold List.Nodup
      rw [List.pairwise_map]
      exact List.nodup_range.imp fun hab e => hab (Prod.ext_iff.1 e).2
    · have h1 := (allPs_mem (x := x) (i := i)).1 ha
      simp only [List.flatMap_cons, List.flatMap_nil, List.append_nil, List.mem_map] at hb
      obtain ⟨p, _, rfl⟩ := hb
      intro e
      rw [e] at h1
      exact Nat.lt_irrefl _ h1.1
theorem IsMerge.len {x : PLog} {d : List (Nat × Nat)} (h : IsMerge x d) : d.length = lenN x x.cores := by
  rw [← allPs_len]
  have h1 : d.Nodup := Pairwise.nodup_of (fun _ => kLt_irrefl) h.sort
  have h2 := allPs_nodup x x.cores
  exact Nat.le_antisymm (nodup_le_of h1 fun a ha => allPs_mem.2 ((h.mem a).1 ha)) (nodup_le_of h2 fun a ha => (h.mem a).2 (allPs_mem.1 ha))
theorem takeN_len (x : PLog) (st : List Int) : ∀ i, takeN x st i + lenN (takeP x st) i = lenN x i
  | 0 => rfl
  | i + 1 => by
    have h1 := takeN_len x st i
    have h2 := takeR_len st (x.rows i)
    unfold takeN lenN
    show _ + (_ + (takeR st (x.rows i)).length) = _
    omega
theorem takeP_twice (x : PLog) (st : List Int) : takeP (takeP x st) st = takeP x st := by
  unfold takeP
  congr 1
  funext k
  exact takeR_twice st (x.rows k)
theorem takeN_twice (x : PLog) (st : List Int) : ∀ i, takeN (takeP x st) st i = 0
  | 0 => rfl
  | i + 1 => by
    unfold takeN
    rw [takeN_twice x st i]
    show 0 + ((takeR st (x.rows i)).length - (takeR st (takeR st (x.rows i))).length) = 0
    rw [takeR_twice]
    omega
/-- Every record, core by core. -/
def allTs (x : PLog) (i : Nat) : List (Nat × R) := (List.range i).flatMap fun c => (x.rows c).map fun r => (c, r)
theorem allTs_len (x : PLog) : ∀ i, (allTs x i).length = lenN x i
  | 0 => rfl
  | i + 1 => by
    unfold allTs lenN
    rw [List.range_succ, List.flatMap_append, List.length_append]
    have := allTs_len x i
    unfold allTs at this
    rw [this]
    simp
theorem allTs_mem {x : PLog} {i : Nat} {a : Nat × R} : a ∈ allTs x i ↔ a.1 < i ∧ a.2 ∈ x.rows a.1 := by
  unfold allTs
  simp only [List.mem_flatMap, List.mem_range, List.mem_map]
  constructor
  · rintro ⟨c, h1, p, h2, rfl⟩
    exact ⟨h1, h2⟩
  · rintro ⟨h1, h2⟩
    exact ⟨a.1, h1, a.2, h2, rfl⟩
theorem allTs_nodup {x : PLog} (hx : LogOk x) : ∀ i, i ≤ 8 → (allTs x i).Nodup
  | 0, _ => List.nodup_nil
  | i + 1, h8 => by
    unfold allTs
    rw [List.range_succ, List.flatMap_append, List.nodup_append]
    refine ⟨allTs_nodup hx i (by omega), ?_, fun a ha b hb => ?_⟩
    · simp only [List.flatMap_cons, List.flatMap_nil, List.append_nil]
      unfold List.Nodup
      rw [List.pairwise_map]
      exact (hx.rising i (by omega)).imp fun {a b} hab e => by
        have := (Prod.ext_iff.1 e).2
        simp only at this
        subst this
        omega
    · have h1 := (allTs_mem (x := x) (i := i)).1 ha
      simp only [List.flatMap_cons, List.flatMap_nil, List.append_nil, List.mem_map] at hb
      obtain ⟨p, _, rfl⟩ := hb
      intro e
      rw [e] at h1
      exact Nat.lt_irrefl _ h1.1
instance : DecidableEq R := fun a b => if h : eqR a b = true then .isTrue (eqR_iff.1 h) else .isFalse fun e => h (eqR_iff.2 e)
theorem IsTag.len {x : PLog} {L : List (Nat × R)} (h : IsTag x L) (hx : LogOk x) (h8 : x.cores ≤ 8) : L.length = lenN x x.cores := by
  rw [← allTs_len]
  have h1 : L.Nodup := Pairwise.nodup_of (r := tLt) (fun _ => by unfold tLt; omega) h.sort
  exact Nat.le_antisymm (nodup_le_of h1 fun a ha => allTs_mem.2 ((h.mem a).1 ha)) (nodup_le_of (allTs_nodup hx x.cores h8) fun a ha => (h.mem a).2 (allTs_mem.1 ha))
/-- What Take answers. -/
theorem take_count {x : PLog} {st : List Int} {d : List (Nat × Nat)} (hx : LogOk x) (h8 : x.cores ≤ 8) (h : IsMerge x d) : takeN x st x.cores + (takeR st (d.map (recAt x))).length = d.length := by
  have h1 := takeN_len x st x.cores
  have h2 := (h.tags.filter st).len (hx.take st) h8
  have h3 : (takeR st (d.map (recAt x))).length = ((d.map (tagOf x)).filter fun a => !hasI st a.2.stamp).length := by
    unfold takeR delL
    rw [List.filter_map, List.filter_map, List.length_map, List.length_map]
    rfl
  have h4 := h.tags.len hx h8
  rw [List.length_map] at h4
  rw [h3, h2, h4]
  exact h1
end Go.Proofs.YtehckjkihaalfaaGreat

/- Upto, walked. -/
namespace Go.Proofs.YtehckjkihaalfaaGreat
open Go.RowKit Go.Maps

/-- What is merged rises, though not strictly. -/
theorem merged_le {x : PLog} {d : List (Nat × Nat)} (h : IsMerge x d) {i j : Nat} (hij : i ≤ j) (hj : j < d.length) : (rAt (d.map (recAt x)) i).stamp ≤ (rAt (d.map (recAt x)) j).stamp := by
  have e : ∀ k, (hk : k < d.length) → rAt (d.map (recAt x)) k = recAt x d[k] := fun k hk => by
    unfold rAt
    rw [List.getD_eq_getElem?_getD, List.getElem?_map, List.getElem?_eq_getElem hk]
    rfl
  rw [e i (by omega), e j hj]
  rcases (by omega : i = j ∨ i < j) with rfl | hlt
  · exact Int.le_refl _
  · have := List.pairwise_iff_getElem.1 h.sort i j (by omega) hj hlt
    unfold kLt at this
    omega
/-- How many are up to a stamp: a beginning. -/
def UptoIs (l : List R) (s : Int) (m : Nat) : Prop := m ≤ l.length ∧ ∀ i, i < l.length → ((rAt l i).stamp ≤ s ↔ i < m)
theorem UptoIs.none {l : List R} {s : Int} (h : ∀ j, j < l.length → (fun r : R => decide (s < r.stamp)) (rAt l j) = false) : UptoIs l s l.length :=
  ⟨Nat.le_refl _, fun i hi => by
    have := h i hi
    simp only [decide_eq_false_iff_not] at this
    omega⟩
theorem UptoIs.some {x : PLog} {d : List (Nat × Nat)} (hm : IsMerge x d) {s : Int} {k : Nat} (hk : k < (d.map (recAt x)).length) (hp : (fun r : R => decide (s < r.stamp)) (rAt (d.map (recAt x)) k) = true) (h : ∀ j, j < k → (fun r : R => decide (s < r.stamp)) (rAt (d.map (recAt x)) j) = false) : UptoIs (d.map (recAt x)) s k := by
  refine ⟨Nat.le_of_lt hk, fun i hi => ?_⟩
  simp only [decide_eq_true_eq] at hp
  rw [List.length_map] at hi hk
  constructor
  · intro h1
    apply Classical.byContradiction
    intro h2
    have := merged_le hm (by omega : k ≤ i) hi
    omega
  · intro h1
    have := h i h1
    simp only [decide_eq_false_iff_not] at this
    omega
theorem merged_ok {w : World} {P : Nat} {ls : Nat → Value} {x : PLog} (h : LogAt w P ls x) {d : List (Nat × Nat)} (hm : IsMerge x d) : ∀ r ∈ d.map (recAt x), RecOk r := fun r hr => by
  obtain ⟨a, ha, rfl⟩ := List.mem_map.1 hr
  obtain ⟨h1, h2⟩ := (hm.mem a).1 ha
  exact h.ok a.1 (by have := h.cores8; omega) _ (rAt_mem h2)
set_option maxRecDepth 100000 in
set_option maxHeartbeats 4000000 in
theorem t_uptoLog (P : Nat) (ls : Nat → Value) (x : PLog) (s : Int) (w : World) (h : LogAt w P ls x) (hx : LogOk x) :
    Calls Tryz.prog 18 #[.pointer (some ⟨P, 0, none⟩), .int .u64 s] w fun e w' => ∃ A m c done, e = .returned (.slice A m c) ∧ IsMerge x done ∧ UptoIs (done.map (recAt x)) s m ∧ w'.ownsRow w.heap.size 34 12 (.slice A m c) m (flatR ((done.map (recAt x)).take m)) ∧ Below w.heap.size w w' := by
  have HL := Lib.hid (h.below (below_a1' w (.cells #[.int .u64 s] 31)))
  have HBX : Hid ((w.alloc (.cells #[.int .u64 s] 31)).heap[w.heap.size]? = some (.cells #[.int .u64 s] 31 (0, 0))) := heap_alloc_new _ _
  have HX := Lib.hid hx
  have HB0 : Hid (Below w.heap.size w (w.alloc (.cells #[.int .u64 s] 31))) := below_a1' w _
  have hlen := h.len
  have h8 := h.cores8
  have HLEN : Hid (∀ d, IsMerge x d → d.length ≤ 2048) := fun d hd => valid_len h8.2 hlen hd.sort fun a ha => (hd.mem a).1 ha
  clear h hx hlen
  have hsz : (w.alloc (.cells #[.int .u64 s] 31)).heap.size = w.heap.size + 1 := by simp
  have HSZ := Lib.hid hsz
  clear hsz
  go_enter Tryz.func18, Tryz.ntmps18
  go_wp2_with (go_at_call 14; (with_reducible refine (t_merge P ls x _ HL.out HX.out).mono ?_); rintro e w1 ⟨A, c, done, rfl, h1, h2, h3⟩; have HM := Lib.hid h1; have HW := Lib.hid h2; have HB1 := Lib.hid h3; clear h1 h2 h3)
  obtain ⟨n, hn⟩ : ∃ n, n = done.length := ⟨_, rfl⟩
  have hn2 := HLEN.out done HM.out
  rw [← hn] at HW hn2 ⊢
  have HN : Hid ((done.map (recAt x)).length = n) := by show _ = _; rw [List.length_map, hn]
  have HR := Lib.hid (recs_of_row HW.out HN.out (merged_ok HL.out HM.out))
  have hcall := t_indexUpto A n c (done.map (recAt x)) w1 HR.out HN.out (by omega) w.heap.size s ((HB1.out.block _ (lt_heap HBX.out)).trans HBX.out)
  have HC := Lib.hid hcall
  clear hcall hn
  have hcs : ∀ i, IdxIs (fun r => decide (s < r.stamp)) (done.map (recAt x)) i → (i = -1 ∧ Hid (∀ j, j < (done.map (recAt x)).length → (fun r => decide (s < r.stamp)) (rAt (done.map (recAt x)) j) = false)) ∨
      ∃ (k g : Nat), i = (k : Int) ∧ A = some ⟨g, 0, none⟩ ∧ (k : Int) ≤ (c : Int) ∧ ¬ ((k : Int) < 0) ∧ k ≤ n ∧ Hid (UptoIs (done.map (recAt x)) s k) := fun i hi => by
    rcases hi.cases with h1 | ⟨k, rfl, hne, hf⟩
    · exact .inl h1
    · obtain ⟨hk, hp, hlt⟩ := hf.out
      have hU : Hid (UptoIs (done.map (recAt x)) s k) := UptoIs.some HM.out hk hp hlt
      rw [HN.out] at hk
      have hcap : n ≤ c := row_cap HW.out
      have hg : ∃ g, A = some ⟨g, 0, none⟩ := by
        rcases HW.out.2 with ⟨h', h0⟩ | ⟨g, cap, cur, h', h1, _⟩
        · omega
        · simp only [Value.slice.injEq] at h'
          exact ⟨g, h'.1⟩
      obtain ⟨g, hg⟩ := hg
      exact .inr ⟨k, g, rfl, hg, by omega, by omega, by omega, hU⟩
  have HCS := Lib.hid hcs
  clear hcs
  go_wp2_with (go_at_call 61; (with_reducible refine HC.out.mono ?_); rintro e w2 ⟨i, rfl, hi, hb⟩; have H2 := Lib.hid hb; clear hb; rcases HCS.out i hi with ⟨rfl, hno⟩ | ⟨k, g, rfl, rfl, hkc, hkn, hk0, hU⟩)
  · go_ret
    refine ⟨A, n, c, done, rfl, HM.out, HN.out ▸ UptoIs.none hno.out, ?_, HB0.out.trans ((HB1.out.mono (by rw [HSZ.out]; omega)).trans (H2.out.mono ?_))⟩
    · rw [List.take_of_length_le (by rw [HN.out]; exact Nat.le_refl _)]
      exact own_low (row_below HW.out H2.out) (by rw [HSZ.out]; omega)
    · have := HB1.out.size
      rw [HSZ.out] at this
      omega
  · go_ret
    refine ⟨some ⟨g, 0, none⟩, k, c, done, rfl, HM.out, hU.out, ?_, HB0.out.trans ((HB1.out.mono (by rw [HSZ.out]; omega)).trans (H2.out.mono ?_))⟩
    · rw [← flatR_take]
      exact own_take (own_low (row_below HW.out H2.out) (by rw [HSZ.out]; omega)) hk0
    · have := HB1.out.size
      rw [HSZ.out] at this
      omega
end Go.Proofs.YtehckjkihaalfaaGreat

/- What the arguments of the laws of logs read as. -/
namespace Go.Proofs.YtehckjkihaalfaaGreat
open Go.ChangeShapes Go.WideShapes Go.ChangeAt Go.RowKit

/-- A step. -/
structure St where
  act : Int
  core : Int
  r : R
  sA : Option Addr
  sn : Nat
  sc : Nat
  st : List Int
/-- Steps in memory. -/
structure StepsAt (w : World) (A : Option Addr) (l : List St) : Prop where
  at_ : l ≠ [] → ∃ b o, A = some ⟨b, o, none⟩ ∧ b < w.heap.size ∧ ∀ (k : Nat) (s : St), l[k]? = some s → w.cell? ⟨b, o + k * 15, none⟩ = some (.int .i64 s.act) ∧ w.cell? ⟨b, o + k * 15 + 1, none⟩ = some (.int .i64 s.core) ∧
    (∀ i v, (cellsR s.r)[i]? = some v → w.cell? ⟨b, o + k * 15 + (2 + i), none⟩ = some v) ∧ w.cell? ⟨b, o + k * 15 + 14, none⟩ = some (.slice s.sA s.sn s.sc)
  ok : ∀ s ∈ l, RecOk s.r
  st : ∀ s ∈ l, U64At w s.sA s.st ∧ s.st.length = s.sn ∧ s.sn ≤ s.sc ∧ s.sn ≤ maxLen
  lt : ∀ s ∈ l, ∀ b o, s.sA = some ⟨b, o, none⟩ → s.st ≠ [] → b < w.heap.size
theorem StepsAt.below {w w' : World} {A : Option Addr} {l : List St} (h : StepsAt w A l) (hb : Below w.heap.size w w') : StepsAt w' A l := by
  refine ⟨fun hn => ?_, h.ok, fun s hs => ?_, fun s hs b o e hn => Nat.lt_of_lt_of_le (h.lt s hs b o e hn) hb.size⟩
  · obtain ⟨b, o, h1, h2, h3⟩ := h.at_ hn
    have hc : ∀ q, w'.cell? ⟨b, q, none⟩ = w.cell? ⟨b, q, none⟩ := fun q => World.cell?_of_block (a := ⟨b, q, none⟩) (hb.block b h2)
    refine ⟨b, o, h1, Nat.lt_of_lt_of_le h2 hb.size, fun k s hk => ?_⟩
    obtain ⟨a1, a2, a3, a4⟩ := h3 k s hk
    exact ⟨(hc _).trans a1, (hc _).trans a2, fun i v hv => (hc _).trans (a3 i v hv), (hc _).trans a4⟩
  · obtain ⟨a1, a2⟩ := h.st s hs
    exact ⟨a1.below hb, a2⟩
theorem cells_u64 : Tryz.prog.cellsOf 31 = 1 := by kernel_rfl
theorem cells_u8 : Tryz.prog.cellsOf 5 = 1 := by kernel_rfl
theorem cells_s : Tryz.prog.cellsOf 9 = 1 := by kernel_rfl
theorem cells_sU64 : Tryz.prog.cellsOf 23 = 1 := by kernel_rfl
theorem cells_step : Tryz.prog.cellsOf 36 = 15 := by kernel_rfl
theorem at_cell {H : Type} {enc : TypeId × Value → H} {w : World} {base n q j : Nat} {spare : Nat → Bool} {held : Bool} {T : TypeId} {xs : List (DataW H × List MemPlace)} {cs : List Value} (hc : Tryz.prog.cellsOf T = 1)
    (h : DataW.trod enc Tryz.prog w base spare held n T ((cs.drop q).take (Tryz.prog.cellsOf T)) = xs[j]?) (c : Value) (hq : cs[q]? = some c) (hx : j < xs.length) : ∃ y, DataW.trod enc Tryz.prog w base spare held n T [c] = some y := by
  obtain ⟨h1, rfl⟩ := List.getElem?_eq_some_iff.1 hq
  rw [hc, List.drop_eq_getElem_cons h1, List.take_succ_cons, List.take_zero, List.getElem?_eq_getElem hx] at h
  exact ⟨_, h⟩
set_option maxRecDepth 100000 in
theorem rec_trod {H : Type} {enc : TypeId × Value → H} {w : World} {base n : Nat} {spare : Nat → Bool} {held : Bool} {cs : List Value} {x : DataW H × List MemPlace} (hf : DataW.trod enc Tryz.prog w base spare held n 34 cs = some x) :
    ∃ r : R, cs = cellsL r ∧ RecOk r := by
  obtain ⟨xs, m, _, _, hl, hlen, hk⟩ := DataW.trod_struct Tryz.underlying34 hf
  rw [cellsR12] at hl
  match cs, hl with
  | [c0, c1, c2, c3, c4, c5, c6, c7, c8, c9, c10, c11], _ =>
    obtain ⟨y0, t0⟩ := at_cell (cs := [c0, c1, c2, c3, c4, c5, c6, c7, c8, c9, c10, c11]) cells_u64 (hk 0 _ rfl) c0 rfl (by rw [hlen]; decide)
    obtain ⟨y1, t1⟩ := at_cell (cs := [c0, c1, c2, c3, c4, c5, c6, c7, c8, c9, c10, c11]) cells_u8 (hk 1 _ rfl) c1 rfl (by rw [hlen]; decide)
    obtain ⟨y2, t2⟩ := at_cell (cs := [c0, c1, c2, c3, c4, c5, c6, c7, c8, c9, c10, c11]) cells_u32 (hk 2 _ rfl) c2 rfl (by rw [hlen]; decide)
    obtain ⟨y3, t3⟩ := at_cell (cs := [c0, c1, c2, c3, c4, c5, c6, c7, c8, c9, c10, c11]) cells_s (hk 3 _ rfl) c3 rfl (by rw [hlen]; decide)
    obtain ⟨y4, t4⟩ := at_cell (cs := [c0, c1, c2, c3, c4, c5, c6, c7, c8, c9, c10, c11]) cells_u32 (hk 4 _ rfl) c4 rfl (by rw [hlen]; decide)
    obtain ⟨y5, t5⟩ := at_cell (cs := [c0, c1, c2, c3, c4, c5, c6, c7, c8, c9, c10, c11]) cells_u8 (hk 5 _ rfl) c5 rfl (by rw [hlen]; decide)
    obtain ⟨y6, t6⟩ := at_cell (cs := [c0, c1, c2, c3, c4, c5, c6, c7, c8, c9, c10, c11]) cells_u32 (hk 6 _ rfl) c6 rfl (by rw [hlen]; decide)
    obtain ⟨y7, t7⟩ := at_cell (cs := [c0, c1, c2, c3, c4, c5, c6, c7, c8, c9, c10, c11]) cells_s (hk 7 _ rfl) c7 rfl (by rw [hlen]; decide)
    obtain ⟨y8, t8⟩ := at_cell (cs := [c0, c1, c2, c3, c4, c5, c6, c7, c8, c9, c10, c11]) cells_u32 (hk 8 _ rfl) c8 rfl (by rw [hlen]; decide)
    obtain ⟨y9, t9⟩ := at_cell (cs := [c0, c1, c2, c3, c4, c5, c6, c7, c8, c9, c10, c11]) cells_u32 (hk 9 _ rfl) c9 rfl (by rw [hlen]; decide)
    obtain ⟨y10, t10⟩ := at_cell (cs := [c0, c1, c2, c3, c4, c5, c6, c7, c8, c9, c10, c11]) cells_int (hk 10 _ rfl) c10 rfl (by rw [hlen]; decide)
    obtain ⟨y11, t11⟩ := at_cell (cs := [c0, c1, c2, c3, c4, c5, c6, c7, c8, c9, c10, c11]) cells_s (hk 11 _ rfl) c11 rfl (by rw [hlen]; decide)
    obtain ⟨x0, e0, _, w0⟩ := DataW.trod_int Tryz.underlying31 t0
    obtain ⟨x1, e1, _, w1⟩ := DataW.trod_int Tryz.underlying5 t1
    obtain ⟨x2, e2, _, w2⟩ := DataW.trod_int Tryz.underlying32 t2
    obtain ⟨x3, e3, _, w3⟩ := DataW.trod_string Tryz.underlying9 t3
    obtain ⟨x4, e4, _, w4⟩ := DataW.trod_int Tryz.underlying32 t4
    obtain ⟨x5, e5, _, w5⟩ := DataW.trod_int Tryz.underlying5 t5
    obtain ⟨x6, e6, _, w6⟩ := DataW.trod_int Tryz.underlying32 t6
    obtain ⟨x7, e7, _, w7⟩ := DataW.trod_string Tryz.underlying9 t7
    obtain ⟨x8, e8, _, w8⟩ := DataW.trod_int Tryz.underlying32 t8
    obtain ⟨x9, e9, _, w9⟩ := DataW.trod_int Tryz.underlying32 t9
    obtain ⟨x10, e10, _, w10⟩ := DataW.trod_int Tryz.underlying3 t10
    obtain ⟨x11, e11, _, w11⟩ := DataW.trod_string Tryz.underlying9 t11
    simp only [List.cons.injEq, and_true] at e0 e1 e2 e3 e4 e5 e6 e7 e8 e9 e10 e11
    subst e0
    subst e1
    subst e2
    subst e3
    subst e4
    subst e5
    subst e6
    subst e7
    subst e8
    subst e9
    subst e10
    subst e11
    have r0 : 0 ≤ x0 ∧ x0 ≤ 18446744073709551615 := by simpa [Lit.wf, IntKind.min, IntKind.max, IntKind.signed, IntKind.bits] using w0
    have r1 : 0 ≤ x1 ∧ x1 ≤ 255 := by simpa [Lit.wf, IntKind.min, IntKind.max, IntKind.signed, IntKind.bits] using w1
    have r2 : 0 ≤ x2 ∧ x2 ≤ 4294967295 := by simpa [Lit.wf, IntKind.min, IntKind.max, IntKind.signed, IntKind.bits] using w2
    have r4 : 0 ≤ x4 ∧ x4 ≤ 4294967295 := by simpa [Lit.wf, IntKind.min, IntKind.max, IntKind.signed, IntKind.bits] using w4
    have r5 : 0 ≤ x5 ∧ x5 ≤ 255 := by simpa [Lit.wf, IntKind.min, IntKind.max, IntKind.signed, IntKind.bits] using w5
    have r6 : 0 ≤ x6 ∧ x6 ≤ 4294967295 := by simpa [Lit.wf, IntKind.min, IntKind.max, IntKind.signed, IntKind.bits] using w6
    have r8 : 0 ≤ x8 ∧ x8 ≤ 4294967295 := by simpa [Lit.wf, IntKind.min, IntKind.max, IntKind.signed, IntKind.bits] using w8
    have r9 : 0 ≤ x9 ∧ x9 ≤ 4294967295 := by simpa [Lit.wf, IntKind.min, IntKind.max, IntKind.signed, IntKind.bits] using w9
    exact ⟨⟨x0, x1, x2, x3, x4, x5, x6, x7, x8, x9, x10, x11⟩, rfl, ⟨⟨r0, r1, r2, r4, r5, r6, r8, r9⟩, w3, w7, w11⟩⟩
theorem u64_of_slice {W : World} {A : Option Addr} {l : List Int} (h : SliceAt W A (l.map (Value.int .u64))) : U64At W A l := fun hn => by
  obtain ⟨b, o, h1, h2, h3⟩ := h (by cases l with | nil => exact absurd rfl hn | cons a l => simp)
  exact ⟨b, o, h1, h2, fun k x hk => h3 k _ (by rw [List.getElem?_map, hk]; rfl)⟩
set_option maxRecDepth 100000 in
/-- One step. -/
theorem step_trod {H : Type} {enc : TypeId × Value → H} {w : World} {n : Nat} {spare : Nat → Bool} {held : Bool} {cs : List Value} {x : DataW H × List MemPlace} (hf : DataW.trod enc Tryz.prog w 0 spare held n 36 cs = some x) :
    ∃ s : St, cs = [.int .i64 s.act, .int .i64 s.core] ++ cellsL s.r ++ [.slice s.sA s.sn s.sc] ∧ RecOk s.r ∧ (U64At w s.sA s.st ∧ s.st.length = s.sn ∧ s.sn ≤ s.sc ∧ s.sn ≤ maxLen) := by
  obtain ⟨xs, m, _, _, hl, hlen, hk⟩ := DataW.trod_struct Tryz.underlying36 hf
  rw [cells_step] at hl
  match cs, hl with
  | [a0, a1, c0, c1, c2, c3, c4, c5, c6, c7, c8, c9, c10, c11, a3], _ =>
    obtain ⟨y0, t0⟩ := at_cell (cs := [a0, a1, c0, c1, c2, c3, c4, c5, c6, c7, c8, c9, c10, c11, a3]) cells_int (hk 0 _ rfl) a0 rfl (by rw [hlen]; decide)
    obtain ⟨y1, t1⟩ := at_cell (cs := [a0, a1, c0, c1, c2, c3, c4, c5, c6, c7, c8, c9, c10, c11, a3]) cells_int (hk 1 _ rfl) a1 rfl (by rw [hlen]; decide)
    obtain ⟨y3, t3⟩ := at_cell (cs := [a0, a1, c0, c1, c2, c3, c4, c5, c6, c7, c8, c9, c10, c11, a3]) cells_sU64 (hk 3 _ rfl) a3 rfl (by rw [hlen]; decide)
    have h2 := hk 2 _ rfl
    have h2' : DataW.trod enc Tryz.prog w 0 spare held m 34 [c0, c1, c2, c3, c4, c5, c6, c7, c8, c9, c10, c11] = xs[2]? := by
      rw [← h2]
      show _ = DataW.trod enc Tryz.prog w 0 spare held m 34 (([a0, a1, c0, c1, c2, c3, c4, c5, c6, c7, c8, c9, c10, c11, a3].drop 2).take (Tryz.prog.cellsOf 34))
      rw [cellsR12]
      rfl
    rw [List.getElem?_eq_getElem (by rw [hlen]; decide)] at h2'
    obtain ⟨r, hr, rok⟩ := rec_trod h2'
    obtain ⟨x0, e0, _, w0⟩ := DataW.trod_int Tryz.underlying3 t0
    obtain ⟨x1, e1, _, w1⟩ := DataW.trod_int Tryz.underlying3 t1
    simp only [List.cons.injEq, and_true] at e0 e1
    subst e0
    subst e1
    have hv : ∃ a len cap, a3 = .slice a len cap := by
      rcases Go.Deep.open_slice1 Tryz.underlying23 cells_u64 t3 with ⟨h0, _⟩ | ⟨a, len', cap', _, _, _, _, _, h0, _⟩
      · simp only [List.cons.injEq, and_true] at h0
        exact ⟨_, _, _, h0⟩
      · simp only [List.cons.injEq, and_true] at h0
        exact ⟨_, _, _, h0⟩
    obtain ⟨sa, sl, sc, rfl⟩ := hv
    obtain ⟨A, k, c, l, e3, j1, j2, j3, j4, _⟩ := nums_of Tryz.underlying23 Tryz.underlying31 cells_u64 ⟨_, _, _, rfl⟩ (show DataW.Trod enc Tryz.prog w 0 spare held 23 (.slice sa sl sc) y3.1 y3.2 from ⟨m, t3⟩)
    rw [e3]
    refine ⟨⟨x0, x1, r, A, k, c, l⟩, ?_, rok, u64_of_slice j4, j3, j1, j2⟩
    show _ = [Value.int .i64 x0, Value.int .i64 x1] ++ cellsL r ++ [Value.slice A k c]
    rw [← hr]
    rfl
set_option maxRecDepth 100000 in
/-- What the argument's reading gives. -/
theorem steps_of {H : Type} {enc : TypeId × Value → H} {W : World} {sp : Nat → Bool} {held : Bool} {v : Value} {d : DataW H} {p : List MemPlace} (hv : ∃ a len cap, v = .slice a len cap) (h : DataW.Trod enc Tryz.prog W 0 sp held 22 v d p) :
    ∃ (A : Option Addr) (n c : Nat) (l : List St), v = .slice A n c ∧ n ≤ c ∧ n ≤ maxLen ∧ l.length = n ∧ StepsAt W A l := by
  obtain ⟨a0, len, cap, rfl⟩ := hv
  obtain ⟨fuel, hf⟩ := h
  rcases Go.Deep.open_slice Tryz.underlying22 hf with ⟨h0, _⟩ | ⟨a, len', cap', m, n, D, Pl, h0, _, hl, hm, hmm, _, hi⟩
  · simp [Value.cells] at h0
    obtain ⟨rfl, rfl, rfl⟩ := h0
    exact ⟨none, 0, 0, [], rfl, Nat.le_refl _, Nat.zero_le _, rfl, ⟨fun h => absurd rfl h, fun s hs => by simp at hs, fun s hs => by simp at hs, fun s hs => by simp at hs⟩⟩
  · simp [Value.cells] at h0
    obtain ⟨rfl, rfl, rfl⟩ := h0
    have hall : ∀ i, i < len → ∃ s : St, (W.cell? (a.add (i * 15)) = some (.int .i64 s.act) ∧ W.cell? (a.add (i * 15 + 1)) = some (.int .i64 s.core) ∧ (∀ j v, (cellsR s.r)[j]? = some v → W.cell? (a.add (i * 15 + (2 + j))) = some v) ∧ W.cell? (a.add (i * 15 + 14)) = some (.slice s.sA s.sn s.sc)) ∧ RecOk s.r ∧ (U64At W s.sA s.st ∧ s.st.length = s.sn ∧ s.sn ≤ s.sc ∧ s.sn ≤ maxLen) := by
      intro i hlt
      obtain ⟨cs', hc, ht'⟩ := hi i (by rw [hmm]; split <;> omega)
      rw [cells_step] at hc
      obtain ⟨s, hs, h1, h2⟩ := step_trod ht'
      obtain ⟨_, hlen, hat⟩ := World.cells?_some hc
      have hcell : ∀ j, j < 15 → W.cell? (a.add (i * 15 + j)) = cs'[j]? := fun j hj => by
        have := hat j hj
        rw [Go.Deep.add_add] at this
        exact this
      refine ⟨s, ⟨?_, ?_, fun j v hv => ?_, ?_⟩, h1, h2⟩
      · have := hcell 0 (by omega)
        rw [Nat.add_zero] at this
        rw [this, hs]
        rfl
      · rw [hcell 1 (by omega), hs]
        rfl
      · have hj : j < 12 := (Array.getElem?_eq_some_iff.1 hv).1
        rw [hcell (2 + j) (by omega), hs, List.append_assoc, List.getElem?_append_right (by simp), List.getElem?_append_left (by show _ < 12; simp; omega)]
        show (cellsL s.r)[2 + j - 2]? = _
        rw [show 2 + j - 2 = j by omega]
        unfold cellsL
        simpa using hv
      · rw [hcell 14 (by omega), hs]
        rfl
    let f : Nat → St := fun i => if h : i < len then Classical.choose (hall i h) else ⟨0, 0, ⟨0, 0, 0, ⟨#[]⟩, 0, 0, 0, ⟨#[]⟩, 0, 0, 0, ⟨#[]⟩⟩, none, 0, 0, []⟩
    have hspec : ∀ i, (h : i < len) → (W.cell? (a.add (i * 15)) = some (.int .i64 (f i).act) ∧ W.cell? (a.add (i * 15 + 1)) = some (.int .i64 (f i).core) ∧ (∀ j v, (cellsR (f i).r)[j]? = some v → W.cell? (a.add (i * 15 + (2 + j))) = some v) ∧ W.cell? (a.add (i * 15 + 14)) = some (.slice (f i).sA (f i).sn (f i).sc)) ∧ RecOk (f i).r ∧ (U64At W (f i).sA (f i).st ∧ (f i).st.length = (f i).sn ∧ (f i).sn ≤ (f i).sc ∧ (f i).sn ≤ maxLen) := by
      intro i h
      have := Classical.choose_spec (hall i h)
      simp only [f, dif_pos h]
      exact this
    have hmem : ∀ s ∈ (List.range len).map f, ∃ i, i < len ∧ f i = s := fun s hs => by
      obtain ⟨i, hi, rfl⟩ := List.mem_map.1 hs
      exact ⟨i, by simpa using hi, rfl⟩
    refine ⟨_, _, _, (List.range len).map f, rfl, hl, Nat.le_trans hl hm, by simp, ⟨fun hpos => ?_, fun s hs => ?_, fun s hs => ?_, fun s hs b o e hn => ?_⟩⟩
    · have hlen : 0 < len := by
        rcases Nat.eq_zero_or_pos len with h | h
        · subst h
          exact absurd rfl hpos
        · exact h
      have h0 := (hspec 0 hlen).1.1
      obtain ⟨ab, ao, asp⟩ := a
      have hsn : asp = none := by
        cases asp with
        | none => rfl
        | some s =>
          exfalso
          simp [World.cell?, Addr.add] at h0
          split at h0 <;> cases h0
      subst hsn
      refine ⟨ab, ao, rfl, ?_, fun k s hk => ?_⟩
      · simp only [add_flat] at h0
        exact World.block_lt_of_cell? W _ h0
      · rw [List.getElem?_map] at hk
        have hkl : k < len := by
          by_cases h : k < len
          · exact h
          · rw [List.getElem?_eq_none (by simpa using h)] at hk; cases hk
        rw [List.getElem?_range hkl] at hk
        simp only [Option.map_some, Option.some.injEq] at hk
        subst hk
        have := (hspec k hkl).1
        simp only [add_flat, ← Nat.add_assoc] at this
        simp only [← Nat.add_assoc]
        exact this
    · obtain ⟨i, hi, rfl⟩ := hmem s hs
      exact (hspec i hi).2.1
    · obtain ⟨i, hi, rfl⟩ := hmem s hs
      exact (hspec i hi).2.2
    · obtain ⟨i, hi, rfl⟩ := hmem s hs
      obtain ⟨b', o', e1, e2, _⟩ := (hspec i hi).2.2.1 hn
      rw [e1] at e
      simp only [Option.some.injEq, Addr.mk.injEq] at e
      omega
end Go.Proofs.YtehckjkihaalfaaGreat

/- Long, Many, Has64, at: walked. -/
namespace Go.Proofs.YtehckjkihaalfaaGreat
open Go.RowKit Go.Maps

set_option maxRecDepth 100000 in
theorem t_long22 (r : R) (w : World) : Calls Tryz.prog 31 #[.agg #[.int .u64 r.stamp, .int .u8 r.act, .int .u32 r.dir, .string r.name, .int .u32 r.ino, .int .u8 r.kind, .int .u32 r.dir2, .string r.name2, .int .u32 r.old, .int .u32 r.size, .int .i64 r.page, .string r.data]] w fun e w' => (∃ b : Bool, e = .returned (.bool b)) ∧ Below w.heap.size w w' := by
  go_enter Tryz.func31, Tryz.ntmps31
  go_wp2
  go_ret
  exact ⟨⟨_, rfl⟩, below_a1' w _⟩
set_option maxRecDepth 100000 in
set_option maxHeartbeats 4000000 in
theorem t_many22 (A : Option Addr) (n c : Nat) (l : List R) (w : World) (hl : RecsAt w A l) (hn : l.length = n) (hn2 : n ≤ 60000) :
    Calls Tryz.prog 50 #[.slice A n c] w fun e w' => RetB e ∧ Below w.heap.size w w' := by
  have HL := Lib.hid hl
  have HN := Lib.hid hn
  clear hl hn
  go_enter Tryz.func50, Tryz.ntmps50
  go_wp2
  go_loopw [3] (fun x wr => ∃ i : Nat, x = .int .i64 (i : Int) ∧ i ≤ n ∧ i ≤ 200 ∧ Hid (Below w.heap.size w wr)) (fun x _ => n - (intOf x).toNat)
  case atStart => exact ⟨0, rfl, Nat.zero_le _, Nat.zero_le _, Below.refl _ _⟩
  case round =>
    obtain ⟨k, rfl, hk, hk2, HW⟩ := hrel
    by_cases he : k < n ∧ k < 200
    · obtain ⟨he, he2⟩ := he
      have hx := rAt_get2 (l := l) (k := k) (by rw [HN.out]; exact he)
      obtain ⟨r, hr⟩ : ∃ r, r = rAt l k := ⟨_, rfl⟩
      rw [← hr] at hx
      obtain ⟨b, o, rfl, hb, hc⟩ := (HL.out.below HW.out).at_ (fun e => by rw [e] at hx; simp at hx)
      have f6 := hc k r hx
      have r0 := f6 0 _ rfl
      rw [Nat.add_zero] at r0
      have r1 := f6 1 _ rfl
      have r2 := f6 2 _ rfl
      have r3 := f6 3 _ rfl
      have r4 := f6 4 _ rfl
      have r5 := f6 5 _ rfl
      have r6 := f6 6 _ rfl
      have r7 := f6 7 _ rfl
      have r8 := f6 8 _ rfl
      have r9 := f6 9 _ rfl
      have r10 := f6 10 _ rfl
      have r11 := f6 11 _ rfl
      clear hc hx f6 hr
      go_wp2_with (go_at_call 31; (with_reducible refine (t_long22 r _).mono ?_); rintro e w2 ⟨⟨bb, rfl⟩, hb⟩; have H2 := Lib.hid (ptrans HW.out hb); clear hb; cases bb)
      · go_roundw
        case rel => exact ⟨k + 1, rfl, he, he2, H2⟩
        case measure => simp only [intOf]; omega
      · go_ret
        exact ⟨RetB.of rfl, H2.out⟩
    · by_cases hin : k < n
      all_goals
        try have h200 : ¬ k < 200 := fun e => he ⟨hin, e⟩
        go_wp2
        go_ret
        exact ⟨RetB.of rfl, HW.out⟩
set_option maxRecDepth 100000 in
set_option maxHeartbeats 4000000 in
theorem t_has64 (A : Option Addr) (n c : Nat) (l : List Int) (v : Int) (w : World) (h : U64At w A l) (hn : l.length = n) (hn2 : n ≤ 60000) :
    Calls Tryz.prog 15 #[.slice A n c, .int .u64 v] w fun e w' => e = .returned (.bool (hasI l v)) ∧ Below w.heap.size w w' := by
  have H := Lib.hid h
  have HN := Lib.hid hn
  clear h hn
  go_enter Tryz.func15, Tryz.ntmps15
  go_wp2
  go_loopw [5] (fun x wr => ∃ k : Nat, x = .int .i64 (k : Int) ∧ k ≤ n ∧ Hid (Below w.heap.size w wr) ∧ Hid (hasI (l.take k) v = false)) (fun x _ => n - (intOf x).toNat)
  case atStart => exact ⟨0, rfl, Nat.zero_le _, Below.refl _ _, rfl⟩
  case round =>
    obtain ⟨k, rfl, hk, HW, HF⟩ := hrel
    by_cases he : k = n
    · have hf : Hid (hasI l v = false) := by
        have := HF.out
        rw [List.take_of_length_le (by rw [HN.out]; omega)] at this
        exact this
      go_wp2
      go_ret
      exact ⟨by rw [hf.out]; rfl, HW.out⟩
    · have hk2 : k < n := by omega
      obtain ⟨x, hx⟩ : ∃ x, l[k]? = some x := ⟨l[k]'(by rw [HN.out]; omega), List.getElem?_eq_getElem _⟩
      obtain ⟨b, o, rfl, hb, hc⟩ := (H.out.below HW.out) (fun e => by rw [e] at hx; simp at hx)
      have c0 := hc k x hx
      have HX := Lib.hid hx
      clear hc hx
      by_cases hv : x = v
      · have hv2 : (x == v) = true := by simpa using hv
        go_wp2
        go_ret
        have h1 : hasI l v = true := any_at _ _ _ _ HX.out (by simpa using hv.symm)
        exact ⟨by rw [h1]; rfl, HW.out⟩
      · have hv2 : (x == v) = false := by simpa using hv
        have HV : Hid ((v == x) = false) := by show _ = _; simpa using fun e : v = x => hv e.symm
        clear hv
        go_wp2
        go_roundw
        case rel => exact ⟨k + 1, rfl, hk2, HW, any_take_succ _ _ _ _ HX.out HF.out (by simpa using HV.out)⟩
        case measure => simp only [intOf]; omega
/-- A record of a stamp. -/
def atR (s : Int) : R := ⟨s, 7, 0, ⟨#[]⟩, 1, 0, 0, ⟨#[]⟩, 0, 0, 0, ⟨#[]⟩⟩
set_option maxRecDepth 100000 in
theorem t_at23 (s : Int) (w : World) : Calls Tryz.prog 28 #[.int .u64 s] w fun e w' => e = .returned (atR s).val ∧ Below w.heap.size w w' := by
  go_enter Tryz.func28, Tryz.ntmps28
  go_wp2
  exact bodyPost_ret (results_cell_row rfl _ _ w.heap.size _ _ _ _ rfl (heap_alloc_new _ _) Tryz.underlying34 rfl (by kernel_rfl)) rfl ⟨rfl, below_a1' w _⟩
set_option maxRecDepth 100000 in
theorem t_newLogNo (most : Int) (w : World) : Calls Tryz.prog 12 #[.int .i64 0, .int .i64 most] w fun e w' => e = .returned (.tuple #[.pointer none, .int .i64 2]) ∧ w = w' := by
  go_enter Tryz.func12, Tryz.ntmps12
  go_wp2
  go_ret2
  exact ⟨rfl, rfl⟩
set_option maxRecDepth 100000 in
set_option maxHeartbeats 4000000 in
theorem t_long23 (A : Option Addr) (c n : Nat) (l : List St) (w : World) (hl : StepsAt w A l) (hn : l.length = n) (hnc : n ≤ c) (hn2 : n ≤ maxLen) :
    Calls Tryz.prog 10 #[.slice A n c] w fun e w' => ∃ b : Bool, e = .returned (.bool b) ∧ (b = false → n ≤ 80) ∧ Below w.heap.size w w' := by
  have HN := Lib.hid hn
  have HL := Lib.hid hl
  clear hl hn
  go_enter Tryz.func10, Tryz.ntmps10
  go_wp2
  go_loopw [3, 4, 5] (fun u v x wr => ∃ (i : Nat) (m : Int) (A1 : Option Addr) (d1 : Nat), u = .slice A1 i d1 ∧ v = .int .i64 m ∧ x = .int .i64 (i : Int) ∧ i ≤ n ∧ i ≤ 200 ∧ Hid (wr.ownsRow w.heap.size 34 12 (.slice A1 i d1) i (flatR ((l.take i).map St.r)) ∧ Below w.heap.size w wr)) (fun _ _ x _ => n - (intOf x).toNat)
  case atStart => exact ⟨0, 0, none, 0, rfl, rfl, rfl, Nat.zero_le _, Nat.zero_le _, World.ownsRow_nil _ _ _ _, Below.refl _ _⟩
  case round =>
    obtain ⟨i, m, A1, d1, rfl, rfl, rfl, hi, hi1, HW⟩ := hrel
    by_cases he : i < n ∧ i < 200
    · obtain ⟨he, he1⟩ := he
      obtain ⟨s, hs⟩ : ∃ s, l[i]? = some s := ⟨l[i]'(by rw [HN.out]; omega), List.getElem?_eq_getElem _⟩
      obtain ⟨b, o, rfl, hbl, hc⟩ := HL.out.at_ (fun e => by rw [e] at hs; simp at hs)
      obtain ⟨a0, a1, f6, a3⟩ := hc i s hs
      have hcw : ∀ q v, w.cell? ⟨b, q, none⟩ = some v → wr.cell? ⟨b, q, none⟩ = some v := fun q v h => (World.cell?_of_block (a := ⟨b, q, none⟩) (HW.out.2.block b hbl)).trans h
      have r0 := hcw _ _ (f6 0 _ rfl)
      have r1 := hcw _ _ (f6 1 _ rfl)
      have r2 := hcw _ _ (f6 2 _ rfl)
      have r3 := hcw _ _ (f6 3 _ rfl)
      have r4 := hcw _ _ (f6 4 _ rfl)
      have r5 := hcw _ _ (f6 5 _ rfl)
      have r6 := hcw _ _ (f6 6 _ rfl)
      have r7 := hcw _ _ (f6 7 _ rfl)
      have r8 := hcw _ _ (f6 8 _ rfl)
      have r9 := hcw _ _ (f6 9 _ rfl)
      have r10 := hcw _ _ (f6 10 _ rfl)
      have r11 := hcw _ _ (f6 11 _ rfl)
      simp only [Nat.reduceAdd] at r0 r1 r2 r3 r4 r5 r6 r7 r8 r9 r10 r11
      have HS := Lib.hid hs
      have A3 := Lib.hid a3
      have HBL := Lib.hid hbl
      have hin : i < 60000 := by omega
      have hlen : ((l.take i).map St.r).length = i := by rw [List.length_map, List.length_take, HN.out]; omega
      have HLEN := Lib.hid hlen
      have hsn := (HL.out.st s (List.mem_of_getElem? hs)).2.2.2
      have HSN := Lib.hid hsn
      have hnext : Hid ((l.take i).map St.r ++ [s.r] = (l.take (i + 1)).map St.r) := by
        show _ = _
        rw [List.take_succ_eq_append_getElem (by rw [HN.out]; exact he), List.map_append]
        rw [List.getElem?_eq_getElem (by rw [HN.out]; exact he)] at hs
        rw [Option.some.inj hs]
        rfl
      clear hc hs f6 hbl hcw a0 a1 a3 hlen hsn
      by_cases h5 : 500 < wrap64 (m + (s.sn : Int))
      all_goals
        go_wp2_with (at_builtin; refine wpList_append_rec2 rfl _ _ rfl w.heap.size _ ((l.take i).map St.r) i (i + 1) HLEN.out rfl rfl (HW.out.1.alloc _) wr.heap.size s.r rfl (heap_alloc_new _ _) (by omega) (by rw [World.alloc_size']; have := HW.out.2.size; omega) ?_; intro A2 d2 W4 g4 g5 g6; have hb4 : Below w.heap.size w W4 := ⟨g5.os.trans HW.out.2.os, g5.tape.trans HW.out.2.tape, g5.output.trans HW.out.2.output, Nat.le_trans HW.out.2.size (Nat.le_trans (by rw [World.alloc_size']; omega) g5.size), fun q hq => (g5.block q (by rw [World.alloc_size']; have := HW.out.2.size; omega) (fun e => by have := (HW.out.1.lt q e.symm).1; omega)).trans ((heap_alloc_old _ _ (by have := HW.out.2.size; omega)).trans (HW.out.2.block q hq))⟩; have H4 := Lib.hid (And.intro g4 hb4); have a34 := (World.cell?_of_block (a := ⟨b, o + i * 15 + 14, none⟩) (hb4.block b HBL.out)).trans A3.out; clear g4 g5 g6 hb4)
      · go_ret
        exact ⟨true, rfl, (fun h => by cases h), H4.out.2⟩
      · go_roundw
        case rel => exact ⟨i + 1, _, A2, d2, rfl, rfl, rfl, he, by omega, hnext.out ▸ H4.out.1, H4.out.2⟩
        case measure => simp only [intOf]; omega
    · have hlen : ((l.take i).map St.r).length = i := by rw [List.length_map, List.length_take, HN.out]; omega
      have hrec := recs_of_row HW.out.1 hlen (fun r hr => by
        obtain ⟨s, hs, rfl⟩ := List.mem_map.1 hr
        exact HL.out.ok s (List.mem_of_mem_take hs))
      have hcall := t_many22 A1 i d1 _ wr hrec hlen (by omega)
      have HC := Lib.hid hcall
      clear hcall hrec hlen
      by_cases h60 : 80 < n <;> by_cases hin : i < n
      all_goals
        try have h200 : ¬ i < 200 := fun e => he ⟨hin, e⟩
        go_wp2_with (go_at_call 50; (with_reducible refine HC.out.mono ?_); rintro e w2 ⟨hrb, hb⟩; obtain ⟨bb, rfl⟩ := hrb.get; have H2 := Lib.hid (HW.out.2.trans (hb.mono HW.out.2.size)); clear hb)
      all_goals
        go_ret
        first
          | exact .inr ⟨rfl, HW.out.2⟩
          | exact ⟨_, rfl, fun _ => by omega, H2.out⟩
end Go.Proofs.YtehckjkihaalfaaGreat
