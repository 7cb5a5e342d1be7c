/- The keys of a map over uint32: the iterator; collected. -/
import Derived.Test.YtpcjbfhgmcioaaaGreatKG
import Derived.Test.YtpcjbfhgmcioaaaGreatRW
import Derived.Sort.MapsRangeIn
import Derived.RangeFuncNested
import Derived.RangeFuncBound
import Derived.RangeFuncLeaves
import Derived.RangeFuncBox
import Derived.RangeFuncFrom
import Derived.RangeFuncOne
import Derived.Maps.AppendAt
import Derived.Shelf.Abstract
import Derived.Shelf.RegionOpen
import Derived.OwnWalkIn
import Derived.TacticsInMore
import Derived.LoopNIn
import Derived.LoopIn
namespace Go.Proofs.YtpcjbfhgmcioaaaGreat
open Go.RowKit Go.Maps Go.Shelf

attribute [local go_sem] Oper.semAt_some

/-- The keys of a map, each once, in some order. -/
def KeysOf (m : Lit → Option Value) (ss : List Int) : Prop := ss.Nodup ∧ ∀ i, i ∈ ss ↔ (m (.int .u32 i)).isSome = true
/-- Those that have come. -/
def Coll (m : Lit → Option Value) (left : Lit → Bool) (ss : List Int) : Prop := ss.Nodup ∧ ∀ i, i ∈ ss ↔ ((m (.int .u32 i)).isSome = true ∧ left (.int .u32 i) = false)
theorem keyOf_u32 {key : Value} {kl : Lit} (h : keyOf Tryz.prog 23 key = some kl) : ∃ x : Int, key = .int .u32 x ∧ kl = .int .u32 x := by
  cases key <;> simp [keyOf, Tryz.underlying23, mapKey] at h
  rename_i q a
  obtain ⟨⟨rfl, _⟩, rfl⟩ := h
  exact ⟨a, rfl, rfl⟩
theorem Coll.step {m : Lit → Option Value} {left : Lit → Bool} {ss : List Int} {x : Int} (h : Coll m left ss) (hl : left (.int .u32 x) = true) (hx : (m (.int .u32 x)).isSome = true) :
    Coll m (fun z => left z && !z.sameKey (.int .u32 x)) (ss ++ [x]) := by
  refine ⟨?_, fun i => ?_⟩
  · rw [List.nodup_append]
    refine ⟨h.1, by simp, fun a ha b hb e => ?_⟩
    simp at hb
    subst hb
    subst e
    have := ((h.2 a).1 ha).2
    rw [hl] at this
    cases this
  · rw [List.mem_append, h.2]
    by_cases e : i = x
    · subst e
      simp [hx, Lit.sameKey]
    · simp [e, Lit.sameKey]
theorem Coll.done {m : Lit → Option Value} {left : Lit → Bool} {ss : List Int} (h : Coll m left ss) (hl : ∀ kl, left kl = false) : KeysOf m ss := ⟨h.1, fun i => by rw [h.2, hl]; simp⟩

set_option maxRecDepth 100000 in
set_option maxHeartbeats 2000000 in
theorem u_keys1 (l Bm b N : Nat) (m : Lit → Option Value) (J Jx : List Int → World → Prop)
    (hY : ∀ pre x W, J pre W → pre.length < N → YieldAt Fence.wide 5 Tryz.prog l #[.int .u32 x] W fun e W' =>
      (e = .returned (.bool true) ∧ J (pre ++ [x]) W' ∧ KeepsWalks W W') ∨ (e = .returned (.bool false) ∧ Jx (pre ++ [x]) W'))
    (W : World) (hJ : AbidesFrom W.heap.size J) (hm : W.cell? ⟨Bm, 0, none⟩ = some (.map (some b))) (hM : MapAt W Tryz.prog 23 b N m) (h0 : J [] W) :
    CallsIn Fence.wide 6 Tryz.prog 114 #[.func (.yield l) #[] #[], .pointer (some ⟨Bm, 0, none⟩)] W fun e W' => (∃ v, e = .returned v) ∧ ((∃ ss, (KeysOf m ss ∧ ss.length ≤ N) ∧ J ss W') ∨ (∃ pre, True ∧ Jx pre W')) := by
  obtain ⟨D, hown, hmD⟩ := hM
  have hsz := hown.size_le
  have hst := fun i => (ofD_has hown law32 (show WideAt.IsKeyLit (Lit.int .u32 i) from trivial)).trans (by rw [hmD (.int .u32 i) trivial])
  refine callsIn_of_wp Tryz.func114 rfl trivial ?_ rfl
  simp only [Tryz.ntmps114, List.size_toArray, List.length_cons, List.length_nil, Nat.reduceAdd, Nat.reduceSub, Array.replicate_succ, Array.replicate_zero, List.push_toArray, List.append_toArray, List.nil_append, List.cons_append]
  have HST := Lib.hid hst
  have HMD := Lib.hid hmD
  clear hst hmD
  gi_wp2_with (first
    | (gi_at_range; refine wpListIn_range_own _ rfl _ 66 rfl 23 69 law32 Tryz.underlying66 _ b N _ rfl hown ?_; intro w0 hrg0 hg0 hs0)
    | gi_in)
  go_frame
  gi_loopw [3] (fun _ wr => ∃ (left : Lit → Bool) (cnt : Nat) (ss : List Int), wr.ranges Tryz.prog 23 anyElem b W.heap.size N D left cnt ∧ ss.length + cnt ≤ N ∧ Hid (Coll m left ss) ∧ J ss wr)
    (fun _ wr => wr.rangeLeft b W.heap.size)
  case atStart =>
    exact ⟨_, _, [], hrg0, by simpa using hsz, ⟨List.nodup_nil, fun i => by rw [HST.out i]; cases (m (.int .u32 i)).isSome <;> simp⟩, hJ [] W w0 none h0 hg0 (fun r e => by cases e)⟩
  case round =>
    obtain ⟨left, cnt, ss, hrg, hcs, HC, hJs⟩ := hrel
    gi_wp2_with (first
      | (gi_at_next; refine wpListIn_next_ranges _ rfl _ rfl 23 law32 anyElem (fun x : Int => Value.int .u32 x) id (fun key kl hk => by obtain ⟨x, hx, _⟩ := keyOf_u32 hk; exact ⟨x, hx⟩) (fun v _ _ => ⟨v, rfl⟩) b W.heap.size N _ _ _ rfl hrg ?_ ?_)
      | gi_in)
    · intro hc0 hl0
      have HF := Lib.hid (HC.out.done hl0)
      clear hl0
      gi_wp2
      go_end0
      exact ⟨⟨_, rfl⟩, .inl ⟨ss, ⟨HF.out, by omega⟩, hJs⟩⟩
    · intro x c kl yd yp w2 cnt2 hkey hlk hv hat hrg2 hlt hg2 hs2 hen
      obtain ⟨x', ex, rfl⟩ := keyOf_u32 hkey
      obtain rfl : x = x' := by injection ex
      have hJ2 : J ss w2 := hJ ss wr w2 (some W.heap.size) hJs hg2 (fun r e => by cases e; exact ⟨Nat.le_refl _, hrg.iter_walk⟩)
      obtain ⟨fn, tmps, assign, body, hy, hR⟩ := hY ss x w2 hJ2 (by omega)
      have hsome : (m (.int .u32 x)).isSome = true := by
        rw [← HMD.out (.int .u32 x) trivial]
        unfold ofD
        rw [hat]
        cases hv
        rfl
      have HC2 := Lib.hid (HC.out.step hlk hsome)
      clear hs2 hsome hat
      gi_wp2
      refine hR.mono ?_
      rintro e W3 (⟨rfl, hJ3, hk3⟩ | ⟨rfl, hJx3⟩)
      · gi_wp2
        have hrg3 := hrg2.of_walks hk3
        go_roundw
        case rel => exact ⟨_, cnt2, ss ++ [x], hrg3, by simp; omega, HC2, hJ3⟩
        case measure => rw [hrg3.left_eq, hrg.left_eq]; exact hlt
      · gi_wp2
        refine bodyPost_ret (results_none rfl _ _ _) rfl ?_
        exact ⟨⟨_, rfl⟩, .inr ⟨_, trivial, hJx3⟩⟩

theorem keys_stops (Bm b N : Nat) (m : Lit → Option Value) (w : World) (hBm : Bm < w.heap.size) (hm : w.cell? ⟨Bm, 0, none⟩ = some (.map (some b))) (hM : MapAt w Tryz.prog 23 b N m) :
    SeqStopsK Fence.wide 6 Tryz.prog 114 #[.pointer (some ⟨Bm, 0, none⟩)] (fun x : Int => #[.int .u32 x]) KeepsWalks (fun ss => KeysOf m ss ∧ ss.length ≤ N) (fun _ => True) N w := by
  intro l J Jx W hW hJ _ hY h0
  exact u_keys1 l Bm b N m J Jx hY W hJ ((hW.cell (p := ⟨Bm, 0, none⟩) hBm).trans hm) (hM.below hW) h0
end Go.Proofs.YtpcjbfhgmcioaaaGreat

/- The keys of a map over uint32, collected and sorted; All. -/
namespace Go.Proofs.YtpcjbfhgmcioaaaGreat
open Go.RowKit Go.Maps Go.Shelf

attribute [local go_sem] Oper.semAt_some

theorem infoU : (Tryz.prog.info? 23).map (fun i => (i.zero, i.size, i.bytes)) = some (some (.int .u32 0), 1, 4) := by kernel_rfl
abbrev u32V : Int → Value := Value.int .u32
def Collected (w : World) (S : List Int → Prop) (e : Ending) (w' : World) : Prop := ∃ (v : Value) (ss : List Int), e = .returned v ∧ S ss ∧ w'.ownsRow w.heap.size 23 1 v ss.length (ss.map u32V) ∧ Below w.heap.size w w'
set_option maxRecDepth 100000 in
set_option maxHeartbeats 2000000 in
theorem u_appendSeq (g : Nat) (lb : Array Value) (eg : Enters g) (S : List Int → Prop) (N : Nat) (hN : N ≤ 60000) (w : World)
    (hseq : SeqStopsK Fence.wide 6 Tryz.prog g lb (fun x : Int => #[.int .u32 x]) KeepsWalks S (fun _ => True) N w) :
    CallsIn Fence.wide 7 Tryz.prog 124 #[.slice none 0 0, .func (.func g) #[] lb] w (Collected w S) := by
  obtain ⟨i0, hi, hz0, hz1, hz2⟩ := info_parts infoU
  refine callsIn_of_wp_marks Tryz.func124 rfl trivial ?_ rfl
  simp only [Tryz.ntmps124, List.size_toArray, List.length_cons, List.length_nil, Nat.reduceAdd, Nat.reduceSub, Array.replicate_succ, Array.replicate_zero, List.push_toArray, List.append_toArray, List.nil_append, List.cons_append]
  gi_wp2
  have bO := Boxed.new w 46 (.slice none 0 0)
  have hB0 : Below w.heap.size w (w.alloc (.cells #[.slice none 0 0] 46)) := u_alloc1 w _
  have hsz : (w.alloc (.cells #[.slice none 0 0] 46)).heap.size = w.heap.size + 1 := by simp
  have hnil := World.ownsRow_nil (w.alloc (.cells #[.slice none 0 0] 46)) w.heap.size 23 1
  obtain ⟨W0, hW0⟩ : ∃ W0, w.alloc (.cells #[.slice none 0 0] 46) = W0 := ⟨_, rfl⟩
  rw [hW0] at bO hB0 hsz hnil ⊢
  clear hW0
  refine wpIn_rangeFunc_ownF rfl (by omega) (gf := g) (lb := lb) rfl trivial eg hseq walksK_t (walksK_b) hB0 (fun _ => rfl)
    (fun pre W => (∃ v, Boxed W w.heap.size 46 v ∧ W.ownsRow w.heap.size 23 1 v pre.length (pre.map u32V) ∧ True) ∧ Below w.heap.size w W)
    (fun _ _ _ => False)
    (OwnFrom.and (Own.from (holdsRow_own w.heap.size w.heap.size 46 23 1 (fun pre : List Int => pre.length) (fun pre => pre.map u32V) (fun _ _ => True)) _) (ownFrom_below (Nat.le_refl _) (by omega)))
    (fun _ _ _ _ _ hs _ _ => hs)
    ⟨⟨_, bO, hnil, trivial⟩, hB0⟩
    (fun x => { tmps := #[.slice none 0 0, .func (.func g) #[] lb, .pointer (some ⟨w.heap.size, 0, none⟩), undef, .slice none 0 0, .int .u32 x, .func (.func g) #[] lb, .int .u32 x, undef, undef, undef, undef, undef], defers := [] })
    ?assign ?body ?done ?stop
  case assign =>
    intro l x W K hK
    gi_wp2
    exact hK
  case body =>
    rintro l pre x W ⟨⟨v, hv, hrow, _⟩, hB⟩ hlt
    have hc := hv.cell
    have hszW := hB.size
    gi_wp2_with (gi_at_builtin; refine wpListIn_append_own _ rfl _ _ 46 rfl w.heap.size 23 i0 (.int .u32 0) 1 4 Tryz.underlying46 hi hz0 hz1 hz2 rfl (by decide) _ _ _ rfl (hrow.alloc _) ⟨W.heap.size, 0, none⟩ 1 1 [.int .u32 x] rfl rfl (cell_one_new _ _ _) (by simp [Value.oneCell']) (by unfold maxLen; omega) (by omega) (by simp; omega) ?_; intro v' w1 hown' hgrow _; obtain ⟨g', cap', rfl⟩ := ownsRow_succ hown'; obtain ⟨hv1, hv2, hr2, hk2, hb2⟩ := hv.appended (by decide) hrow hB.size (Nat.le_refl _) hown' hgrow; have hc1 := hv1.cell; have hf1 := hv1.frozen)
    exact ⟨hk2, hk2.walks, ⟨_, hv2, by simpa using hr2, trivial⟩, hB.trans hb2⟩
  case done =>
    rintro D ys W hD hS ⟨⟨v, hv, hrow, _⟩, hB⟩ hK
    have hc := hv.cell
    have hf := hv.frozen
    gi_wp2
    refine ⟨by simp, .inl ⟨_, _, rfl, run_takeDeferred hK, ?_⟩⟩
    exact ⟨_, by simp [results, Tryz.f124, go_sem], v, ys, rfl, hS, ownsRow_putObj hrow _ hK rfl, hB.trans (belowK_b (w := w) (Nat.le_refl _) _ D _ _ (by omega) hK rfl rfl)⟩
  case stop =>
    rintro D c pre W _ _ h _
    exact h.elim
theorem u_collect (g : Nat) (lb : Array Value) (eg : Enters g) (S : List Int → Prop) (N : Nat) (hN : N ≤ 60000) (w : World)
    (hseq : SeqStopsK Fence.wide 6 Tryz.prog g lb (fun x : Int => #[.int .u32 x]) KeepsWalks S (fun _ => True) N w) :
    Calls Tryz.prog 112 #[.func (.func g) #[] lb] w (Collected w S) := by
  have HC := Lib.hid ((callsIn_wide (n := 7)).1 (u_appendSeq g lb eg S N hN w hseq))
  go_enter Tryz.func112, Tryz.ntmps112
  go_wp2_with (go_at_call 124; (with_reducible refine HC.out.mono ?_); rintro e w' ⟨v, ss, rfl, h⟩; have H := Lib.hid h; clear h)
  go_ret
  exact ⟨v, ss, rfl, H.out⟩
set_option maxRecDepth 100000 in
theorem u_sort (blk n cap : Nat) (d : Array Int) (w : World) (hH : Go.Sort.Holds (Value.int .u32) w blk 0 d) (hn : d.size = n) (h1 : 1 ≤ n) (hsz : n ≤ 60000) (hlt : blk < w.heap.size) :
    Calls Tryz.prog 113 #[.slice (some ⟨blk, 0, none⟩) n cap] w (SortPost w blk 0 d 0 n) := by
  have HL := Lib.hid (fun w => u_len (n : Int) w (by omega) (by omega))
  have HP : Hid (∀ (L : Nat), L ≤ 16 → Calls Tryz.prog 125 #[.slice (some ⟨blk, 0, none⟩) n cap, .int .i64 0, .int .i64 n, .int .i64 L] w (SortPost w blk 0 d 0 n)) := fun L hL => u_pdq blk 0 n cap hsz n 0 n L d w (by omega) hH hn (by omega) (Nat.le_refl _) (by omega) (Or.inl rfl) hlt
  have hnI : (n : Int) ≤ 60000 := by omega
  clear hH hn
  go_enter Tryz.func113, Tryz.ntmps113
  go_wp2_with (first
    | (go_at_call 116; refine (HL.out _).mono ?_; rintro e w' ⟨L, rfl, rfl, hL, _⟩)
    | (go_at_call 125; (with_reducible refine (HP.out L hL).mono ?_); rintro e w' ⟨d', rfl, h⟩; have H := Lib.hid h; clear h))
  go_end0
  exact ⟨d', rfl, H.out⟩
/-- A row that lies by itself, in order. -/
structure RowAt (w : World) (B : Nat) (l : List Int) : Prop where
  cell : ∀ (k : Nat) (x : Int), l[k]? = some x → w.cell? ⟨B, k, none⟩ = some (.int .u32 x)
  lt : B < w.heap.size
theorem RowAt.below {w w' : World} {B : Nat} {l : List Int} (h : RowAt w B l) (hb : Below w.heap.size w w') : RowAt w' B l :=
  ⟨fun k x hk => (hb.cell (p := ⟨B, k, none⟩) h.lt).trans (h.cell k x hk), Nat.lt_of_lt_of_le h.lt hb.size⟩
def AllPost (m : Lit → Option Value) (w : World) (e : Ending) (w' : World) : Prop :=
  ∃ (B c : Nat) (l : List Int), e = .returned (.slice (some ⟨B, 0, none⟩) l.length c) ∧ l.Pairwise (· < ·) ∧ (∀ i, i ∈ l ↔ (m (.int .u32 i)).isSome = true) ∧ RowAt w' B l ∧ w.heap.size ≤ B ∧ Below w.heap.size w w'
theorem holds_of_owns {w : World} {g : Nat} {ss : List Int} {cur : Array Value} (hc : w.heap[g]? = some (.cells cur 23 (0, 0))) (ht : cur.toList.take (ss.length * 1) = ss.map u32V) : Go.Sort.Holds (Value.int .u32) w g 0 ss.toArray := by
  intro j hj
  have hj' : j < ss.length := by simpa using hj
  have h1 : cur[j]? = some (u32V ss[j]) := by
    have e : (cur.toList.take (ss.length * 1))[j]? = (ss.map u32V)[j]? := by rw [ht]
    rw [List.getElem?_take, if_pos (by omega), List.getElem?_map, List.getElem?_eq_getElem hj'] at e
    simpa using e
  refine ⟨?_, by simp [World.frozen?, hc]⟩
  rw [Nat.zero_add]
  simp only [World.cell?, hc, h1]
  congr 2
  simp [hj']
set_option maxRecDepth 100000 in
set_option maxHeartbeats 2000000 in
theorem u_sorted (g : Nat) (lb : Array Value) (eg : Enters g) (m : Lit → Option Value) (N : Nat) (hN : N ≤ 60000) (hne : ∃ i, (m (.int .u32 i)).isSome = true) (w : World)
    (hseq : SeqStopsK Fence.wide 6 Tryz.prog g lb (fun x : Int => #[.int .u32 x]) KeepsWalks (fun ss => KeysOf m ss ∧ ss.length ≤ N) (fun _ => True) N w) :
    Calls Tryz.prog 69 #[.func (.func g) #[] lb] w (AllPost m w) := by
  have HC := Lib.hid (u_collect g lb eg _ N hN w hseq)
  have HN := Lib.hid hne
  clear hseq hne
  go_enter Tryz.func69, Tryz.ntmps69
  go_wp2_with (go_at_call 112; (with_reducible refine HC.out.mono ?_); rintro e w1 ⟨v, ss, rfl, ⟨hS, hSN⟩, hrow, hb⟩
               have hss : 1 ≤ ss.length := (by
                 obtain ⟨i, hi⟩ := HN.out
                 exact List.length_pos_of_mem ((hS.2 i).2 hi))
               obtain ⟨B, cap, cur, rfl, hwB, hcur, htake⟩ : ∃ (B cap : Nat) (cur : Array Value), v = .slice (some ⟨B, 0, none⟩) ss.length cap ∧ w.heap.size ≤ B ∧ w1.heap[B]? = some (.cells cur 23 (0, 0)) ∧ cur.toList.take (ss.length * 1) = ss.map u32V := (by
                 rcases hrow.2 with ⟨_, h0⟩ | ⟨g', cap', cur', h1, h2, h3, h4, h5, h6, h7⟩
                 · exact absurd h0 (by omega)
                 · exact ⟨g', cap', cur', h1, h2, h3, h7⟩)
               have hBl : B < w1.heap.size := (Array.getElem?_eq_some_iff.1 hcur).1
               have HS := Lib.hid (u_sort B ss.length cap ss.toArray w1 (holds_of_owns hcur htake) (by simp) hss (by omega) hBl)
               have HK := Lib.hid hS
               have HB := Lib.hid hb
               clear hS hrow hb hcur htake hss)
  go_wp2_with (go_at_call 113; (with_reducible refine HS.out.mono ?_); rintro e w2 ⟨d', rfl, hr, hp, hs⟩; have HR := Lib.hid hr; have HP := Lib.hid hp; have HSo := Lib.hid hs; clear hr hp hs)
  go_ret
  have hsz : d'.size = ss.length := by rw [HP.out.1]; simp
  have hperm : d'.toList.Perm ss := by
    have h3 := HP.out.2.2
    rw [Array.extract_eq_self_of_le (by rw [hsz]; exact Nat.le_refl _), Array.extract_eq_self_of_le (by simp)] at h3
    exact h3
  have hnd : d'.toList.Nodup := hperm.nodup_iff.2 HK.out.1
  have hlen : d'.toList.length = ss.length := by simpa using hsz
  have hget : ∀ (k : Nat) (h : k < d'.toList.length), d'.toList[k] = d'[k]! := fun k h => by
    rw [getElem!_pos d' k (by simpa using h)]
    simp
  refine ⟨B, cap, d'.toList, by rw [hlen]; rfl, ?_, fun i => by rw [hperm.mem_iff, HK.out.2], ⟨fun k x hk => ?_, Nat.lt_of_lt_of_le hBl HR.out.grown.size⟩, hwB, ?_⟩
  · rw [List.pairwise_iff_getElem]
    intro i j hi hj hij
    rw [hget i hi, hget j hj]
    have h1 := HSo.out i j (Nat.zero_le _) hij (by omega)
    have h2 : ¬ d'[j]! < d'[i]! := by simpa [Go.Sort.ltInt] using h1
    have h3 : d'[i]! ≠ d'[j]! := by
      rw [← hget i hi, ← hget j hj]
      intro e
      have := (List.getElem_inj hnd).1 e
      omega
    omega
  · obtain ⟨hk1, hk2⟩ := List.getElem?_eq_some_iff.1 hk
    have h1 := (HR.out.holds k (by simpa using hk1)).1
    rw [Nat.zero_add] at h1
    rw [h1, ← hk2, hget k hk1]
  · exact ⟨HR.out.grown.os.trans HB.out.os, HR.out.grown.tape.trans HB.out.tape, HR.out.grown.output.trans HB.out.output, Nat.le_trans HB.out.size HR.out.grown.size, fun b hb => (HR.out.grown.block b (Nat.lt_of_lt_of_le hb HB.out.size) (fun e => by injection e with e; omega)).trans (HB.out.block b hb)⟩
theorem u_keys (mb : Option Nat) (w : World) : Calls Tryz.prog 70 #[.map mb] w fun e w' => e = .returned (.func (.func 114) #[] #[.pointer (some ⟨w.heap.size, 0, none⟩)]) ∧ w' = w.alloc (.cells #[.map mb] 66) := by
  go_enter Tryz.func70, Tryz.ntmps70
  go_wp2
  go_ret
  exact ⟨rfl, rfl⟩
section
variable {F : Nat → Prop} {P N : Nat} {y : Lay} {t : PT}
/-- All: the inodes that are there, rising. -/
def AllP (t : PT) (w : World) (e : Ending) (w' : World) : Prop :=
  ∃ (B c : Nat) (l : List Int), e = .returned (.slice (some ⟨B, 0, none⟩) l.length c) ∧ l.Pairwise (· < ·) ∧ (∀ i, i ∈ l ↔ (t.n i).isSome = true) ∧ RowAt w' B l ∧ w.heap.size ≤ B ∧ Below w.heap.size w w'
theorem t_allP (w : World) (h : TreeM w F P N y t) (hN : N ≤ 60000) (hne : ∃ i, (t.n i).isSome = true) :
    Calls Tryz.prog 21 #[.pointer (some ⟨P, 0, none⟩)] w (AllP t w) := by
  have c1 := h.c1
  have hB : Below w.heap.size w (w.alloc (.cells #[.map (some y.M)] 66)) := u_alloc1 w _
  have hM : MapAt (w.alloc (.cells #[.map (some y.M)] 66)) Tryz.prog 23 y.M N (nodesM t.n y.f) := h.nodes.below hB
  have hsome : ∀ i, (nodesM t.n y.f (.int .u32 i)).isSome = (t.n i).isSome := fun i => by
    show ((t.n i).map _).isSome = _
    cases t.n i <;> rfl
  have HS := Lib.hid (u_sorted 114 #[.pointer (some ⟨w.heap.size, 0, none⟩)] (enters_of Tryz.func114 (by kernel_rfl) rfl) (nodesM t.n y.f) N hN (by obtain ⟨i, hi⟩ := hne; exact ⟨i, by rw [hsome]; exact hi⟩) (w.alloc (.cells #[.map (some y.M)] 66))
    (keys_stops w.heap.size y.M N _ _ (by simp) (box_new w _ _) hM))
  have HB := Lib.hid hB
  have HSM := Lib.hid hsome
  have HKY := Lib.hid (fun (mb : Option Nat) (w : World) => u_keys mb w)
  clear h hne hM hsome hB
  go_enter Tryz.func21, Tryz.ntmps21
  go_wp2_with (first
    | (go_at_call 70; refine (HKY.out _ _).mono ?_; rintro e w' ⟨rfl, rfl⟩)
    | (go_at_call 69; (with_reducible refine HS.out.mono ?_); rintro e w2 ⟨B, c, l, rfl, h1, h2, h3, h4, h5⟩; have H := Lib.hid h1; have H2 := Lib.hid h2; have H3 := Lib.hid h3; have H5 := Lib.hid h5; clear h1 h2 h3 h5))
  go_ret
  exact ⟨B, c, l, rfl, H.out, fun i => by rw [H2.out, HSM.out], H3.out, by simp at h4; omega, ptrans HB.out H5.out⟩
end
end Go.Proofs.YtpcjbfhgmcioaaaGreat
