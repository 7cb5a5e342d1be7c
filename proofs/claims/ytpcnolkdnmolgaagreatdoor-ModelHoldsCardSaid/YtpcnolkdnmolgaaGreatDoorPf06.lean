/- The keys of a map over uint32: the iterator; collected. -/
import Derived.Test.YtpcnolkdnmolgaaGreatDoorPf05
import Derived.Sort.MapsRangeIn
import Derived.RangeFuncNested
import Derived.RangeFuncBound
import Derived.RangeFuncLeaves
import Derived.RangeFuncBox
import Derived.RangeFuncFrom
import Derived.RangeFuncOne
import Derived.Maps.AppendAt
import Derived.Shelf.Abstract
import Derived.Shelf.RegionOpen
import Derived.OwnWalkIn
import Derived.TacticsInMore
import Derived.LoopNIn
import Derived.LoopIn
import Derived.Test.YtpcnolkdnmolgaaGreatDoorProg
import Derived.Shelf.SlLaysF0
import Derived.WalkKit
import Derived.Shelf.SlSortCmp.WholeK
import Derived.WalkLawsBesides
namespace Go.Proofs.YtpcnolkdnmolgaaGreatDoor
section
open Go.RowKit Go.Maps Go.Shelf
attribute [local go_sem] Oper.semAt_some
def KeysOf (m : Lit → Option Value) (ss : List Int) : Prop := ss.Nodup ∧ ∀ i, i ∈ ss ↔ (m (.int .u32 i)).isSome = true
def Coll (m : Lit → Option Value) (left : Lit → Bool) (ss : List Int) : Prop := ss.Nodup ∧ ∀ i, i ∈ ss ↔ ((m (.int .u32 i)).isSome = true ∧ left (.int .u32 i) = false)
theorem keyOf_u32 {key : Value} {kl : Lit} (h : keyOf Tryz.prog 29 key = some kl) : ∃ x : Int, key = .int .u32 x ∧ kl = .int .u32 x := by
 cases key <;> simp [keyOf, Tryz.underlying29, mapKey] at h
 rename_i q a
 obtain ⟨⟨rfl, _⟩, rfl⟩ := h
 exact ⟨a, rfl, rfl⟩
theorem Coll.step {m : Lit → Option Value} {left : Lit → Bool} {ss : List Int} {x : Int} (h : Coll m left ss) (hl : left (.int .u32 x) = true) (hx : (m (.int .u32 x)).isSome = true) :
  Coll m (fun z => left z && !z.sameKey (.int .u32 x)) (ss ++ [x]) := by
 refine ⟨?_, fun i => ?_⟩
 · rw [List.nodup_append]
   refine ⟨h.1, by simp, fun a ha b hb e => ?_⟩
   simp at hb
   subst hb
   subst e
   have := ((h.2 a).1 ha).2
   rw [hl] at this
   cases this
 · rw [List.mem_append, h.2]
   by_cases e : i = x
   · subst e
     simp [hx, Lit.sameKey]
   · simp [e, Lit.sameKey]
theorem Coll.done {m : Lit → Option Value} {left : Lit → Bool} {ss : List Int} (h : Coll m left ss) (hl : ∀ kl, left kl = false) : KeysOf m ss := ⟨h.1, fun i => by rw [h.2, hl]; simp⟩
set_option maxRecDepth 100000 in
set_option maxHeartbeats 2000000 in
theorem u_keys1 (l Bm b N : Nat) (m : Lit → Option Value) (J Jx : List Int → World → Prop)
  (hY : ∀ pre x W, J pre W → pre.length < N → YieldAt Fence.wide 5 Tryz.prog l #[.int .u32 x] W fun e W' =>
   (e = .returned (.bool true) ∧ J (pre ++ [x]) W' ∧ KeepsWalks W W') ∨ (e = .returned (.bool false) ∧ Jx (pre ++ [x]) W'))
  (W : World) (hJ : AbidesFrom W.heap.size J) (hm : W.cell? ⟨Bm, 0, none⟩ = some (.map (some b))) (hM : MapAt W Tryz.prog 29 b N m) (h0 : J [] W) :
  CallsIn Fence.wide 6 Tryz.prog 88 #[.func (.yield l) #[] #[], .pointer (some ⟨Bm, 0, none⟩)] W fun e W' => (∃ v, e = .returned v) ∧ ((∃ ss, (KeysOf m ss ∧ ss.length ≤ N) ∧ J ss W') ∨ (∃ pre, True ∧ Jx pre W')) := by
 obtain ⟨D, hown, hmD⟩ := hM
 have hsz := hown.size_le
 have hst := fun i => (ofD_has hown law32 (show WideAt.IsKeyLit (Lit.int .u32 i) from trivial)).trans (by rw [hmD (.int .u32 i) trivial])
 refine callsIn_of_wp Tryz.func88 rfl trivial ?_ rfl
 simp only [Tryz.ntmps88, List.size_toArray, List.length_cons, List.length_nil, Nat.reduceAdd, Nat.reduceSub, Array.replicate_succ, Array.replicate_zero, List.push_toArray, List.append_toArray, List.nil_append, List.cons_append]
 have HST := zz hst
 have HMD := zz hmD
 clear hst hmD
 gi_wp2_with (first
  | (gi_at_range; refine wpListIn_range_own _ rfl _ 106 rfl 29 107 law32 Tryz.underlying106 _ b N _ rfl hown ?_; intro w0 hrg0 hg0 hs0)
  | gi_in)
 go_frame
 gi_loopw [3] (fun _ wr => ∃ (left : Lit → Bool) (cnt : Nat) (ss : List Int), wr.ranges Tryz.prog 29 anyElem b W.heap.size N D left cnt ∧ ss.length + cnt ≤ N ∧ Hid (Coll m left ss) ∧ J ss wr)
  (fun _ wr => wr.rangeLeft b W.heap.size)
 case atStart =>
  exact ⟨_, _, [], hrg0, by simpa using hsz, ⟨List.nodup_nil, fun i => by rw [HST.out i]; cases (m (.int .u32 i)).isSome <;> simp⟩, hJ [] W w0 none h0 hg0 (fun r e => by cases e)⟩
 case round =>
  obtain ⟨left, cnt, ss, hrg, hcs, HC, hJs⟩ := hrel
  gi_wp2_with (first
   | (gi_at_next; refine wpListIn_next_ranges _ rfl _ rfl 29 law32 anyElem (fun x : Int => Value.int .u32 x) id (fun key kl hk => by obtain ⟨x, hx, _⟩ := keyOf_u32 hk; exact ⟨x, hx⟩) (fun v _ _ => ⟨v, rfl⟩) b W.heap.size N _ _ _ rfl hrg ?_ ?_)
   | gi_in)
  · intro hc0 hl0
    have HF := zz (HC.out.done hl0)
    clear hl0
    gi_wp2
    go_end0
    exact ⟨⟨_, rfl⟩, .inl ⟨ss, ⟨HF.out, by omega⟩, hJs⟩⟩
  · intro x c kl yd yp w2 cnt2 hkey hlk hv hat hrg2 hlt hg2 hs2 hen
    obtain ⟨x', ex, rfl⟩ := keyOf_u32 hkey
    obtain rfl : x = x' := by injection ex
    have hJ2 : J ss w2 := hJ ss wr w2 (some W.heap.size) hJs hg2 (fun r e => by cases e; exact ⟨Nat.le_refl _, hrg.iter_walk⟩)
    obtain ⟨fn, tmps, assign, body, hy, hR⟩ := hY ss x w2 hJ2 (by omega)
    have hsome : (m (.int .u32 x)).isSome = true := by
     rw [← HMD.out (.int .u32 x) trivial]
     unfold ofD
     rw [hat]
     cases hv
     rfl
    have HC2 := zz (HC.out.step hlk hsome)
    clear hs2 hsome hat
    gi_wp2
    refine hR.mono ?_
    rintro e W3 (⟨rfl, hJ3, hk3⟩ | ⟨rfl, hJx3⟩)
    · gi_wp2
      have hrg3 := hrg2.of_walks hk3
      go_roundw
      case rel => exact ⟨_, cnt2, ss ++ [x], hrg3, by simp; omega, HC2, hJ3⟩
      case measure => rw [hrg3.left_eq, hrg.left_eq]; exact hlt
    · gi_wp2
      refine bodyPost_ret (results_none rfl _ _ _) rfl ?_
      exact ⟨⟨_, rfl⟩, .inr ⟨_, trivial, hJx3⟩⟩
theorem keys_stops (Bm b N : Nat) (m : Lit → Option Value) (w : World) (hBm : Bm < w.heap.size) (hm : w.cell? ⟨Bm, 0, none⟩ = some (.map (some b))) (hM : MapAt w Tryz.prog 29 b N m) :
  SeqStopsK Fence.wide 6 Tryz.prog 88 #[.pointer (some ⟨Bm, 0, none⟩)] (fun x : Int => #[.int .u32 x]) KeepsWalks (fun ss => KeysOf m ss ∧ ss.length ≤ N) (fun _ => True) N w := by
 intro l J Jx W hW hJ _ hY h0
 exact u_keys1 l Bm b N m J Jx hY W hJ ((hW.cell (p := ⟨Bm, 0, none⟩) hBm).trans hm) (hM.below hW) h0
end
section
open Go.RowKit Go.Maps Go.Shelf
attribute [local go_sem] Oper.semAt_some
theorem infoU : (Tryz.prog.info? 29).map (fun i => (i.zero, i.size, i.bytes)) = some (some (.int .u32 0), 1, 4) := by kernel_rfl
abbrev u32V : Int → Value := Value.int .u32
def Collected (w : World) (S : List Int → Prop) (e : Ending) (w' : World) : Prop := ∃ (v : Value) (ss : List Int), e = .returned v ∧ S ss ∧ w'.ownsRow w.heap.size 29 1 v ss.length (ss.map u32V) ∧ Below w.heap.size w w'
set_option maxRecDepth 100000 in
set_option maxHeartbeats 2000000 in
theorem u_appendSeq (g : Nat) (lb : Array Value) (eg : Enters g) (S : List Int → Prop) (N : Nat) (hN : N ≤ 60000) (w : World)
  (hseq : SeqStopsK Fence.wide 6 Tryz.prog g lb (fun x : Int => #[.int .u32 x]) KeepsWalks S (fun _ => True) N w) :
  CallsIn Fence.wide 7 Tryz.prog 129 #[.slice none 0 0, .func (.func g) #[] lb] w (Collected w S) := by
 obtain ⟨i0, hi, hz0, hz1, hz2⟩ := info_parts infoU
 refine callsIn_of_wp_marks Tryz.func129 rfl trivial ?_ rfl
 simp only [Tryz.ntmps129, List.size_toArray, List.length_cons, List.length_nil, Nat.reduceAdd, Nat.reduceSub, Array.replicate_succ, Array.replicate_zero, List.push_toArray, List.append_toArray, List.nil_append, List.cons_append]
 gi_wp2
 have bO := Boxed.new w 47 (.slice none 0 0)
 have hB0 : Below w.heap.size w (w.alloc (.cells #[.slice none 0 0] 47)) := u_alloc1 w _
 have hsz : (w.alloc (.cells #[.slice none 0 0] 47)).heap.size = w.heap.size + 1 := by simp
 have hnil := World.ownsRow_nil (w.alloc (.cells #[.slice none 0 0] 47)) w.heap.size 29 1
 obtain ⟨W0, hW0⟩ : ∃ W0, w.alloc (.cells #[.slice none 0 0] 47) = W0 := ⟨_, rfl⟩
 rw [hW0] at bO hB0 hsz hnil ⊢
 clear hW0
 refine wpIn_rangeFunc_ownF rfl (by omega) (gf := g) (lb := lb) rfl trivial eg hseq walksK_t (walksK_b) hB0 (fun _ => rfl)
  (fun pre W => (∃ v, Boxed W w.heap.size 47 v ∧ W.ownsRow w.heap.size 29 1 v pre.length (pre.map u32V) ∧ True) ∧ Below w.heap.size w W)
  (fun _ _ _ => False)
  (OwnFrom.and (Own.from (holdsRow_own w.heap.size w.heap.size 47 29 1 (fun pre : List Int => pre.length) (fun pre => pre.map u32V) (fun _ _ => True)) _) (ownFrom_below (Nat.le_refl _) (by omega)))
  (fun _ _ _ _ _ hs _ _ => hs)
  ⟨⟨_, bO, hnil, trivial⟩, hB0⟩
  (fun x => { tmps := #[.slice none 0 0, .func (.func g) #[] lb, .pointer (some ⟨w.heap.size, 0, none⟩), undef, .slice none 0 0, .int .u32 x, .func (.func g) #[] lb, .int .u32 x, undef, undef, undef, undef, undef], defers := [] })
  ?assign ?body ?done ?stop
 case assign =>
  intro l x W K hK
  gi_wp2
  exact hK
 case body =>
  rintro l pre x W ⟨⟨v, hv, hrow, _⟩, hB⟩ hlt
  have hc := hv.cell
  have hszW := hB.size
  gi_wp2_with (gi_at_builtin; refine wpListIn_append_own _ rfl _ _ 47 rfl w.heap.size 29 i0 (.int .u32 0) 1 4 Tryz.underlying47 hi hz0 hz1 hz2 rfl (by decide) _ _ _ rfl (hrow.alloc _) ⟨W.heap.size, 0, none⟩ 1 1 [.int .u32 x] rfl rfl (cell_one_new _ _ _) (by simp [Value.oneCell']) (by unfold maxLen; omega) (by omega) (by simp; omega) ?_; intro v' w1 hown' hgrow _; obtain ⟨g', cap', rfl⟩ := ownsRow_succ hown'; obtain ⟨hv1, hv2, hr2, hk2, hb2⟩ := hv.appended (by decide) hrow hB.size (Nat.le_refl _) hown' hgrow; have hc1 := hv1.cell; have hf1 := hv1.frozen)
  exact ⟨hk2, hk2.walks, ⟨_, hv2, by simpa using hr2, trivial⟩, hB.trans hb2⟩
 case done =>
  rintro D ys W hD hS ⟨⟨v, hv, hrow, _⟩, hB⟩ hK
  have hc := hv.cell
  have hf := hv.frozen
  gi_wp2
  refine ⟨by simp, .inl ⟨_, _, rfl, run_takeDeferred hK, ?_⟩⟩
  exact ⟨_, by simp [results, Tryz.f129, go_sem], v, ys, rfl, hS, ownsRow_putObj hrow _ hK rfl, hB.trans (belowK_b (w := w) (Nat.le_refl _) _ D _ _ (by omega) hK rfl rfl)⟩
 case stop =>
  rintro D c pre W _ _ h _
  exact h.elim
theorem u_collect (g : Nat) (lb : Array Value) (eg : Enters g) (S : List Int → Prop) (N : Nat) (hN : N ≤ 60000) (w : World)
  (hseq : SeqStopsK Fence.wide 6 Tryz.prog g lb (fun x : Int => #[.int .u32 x]) KeepsWalks S (fun _ => True) N w) :
  Calls Tryz.prog 86 #[.func (.func g) #[] lb] w (Collected w S) := by
 have HC := zz ((callsIn_wide (n := 7)).1 (u_appendSeq g lb eg S N hN w hseq))
 go_enter Tryz.func86, Tryz.ntmps86
 go_wp2_with (go_at_call 129; (with_reducible refine HC.out.mono ?_); rintro e w' ⟨v, ss, rfl, h⟩; have H := zz h; clear h)
 go_ret
 exact ⟨v, ss, rfl, H.out⟩
set_option maxRecDepth 100000 in
theorem u_sort (blk n cap : Nat) (d : Array Int) (w : World) (hH : Go.Sort.Holds (Value.int .u32) w blk 0 d) (hn : d.size = n) (h1 : 1 ≤ n) (hsz : n ≤ 60000) (hlt : blk < w.heap.size) :
  Calls Tryz.prog 87 #[.slice (some ⟨blk, 0, none⟩) n cap] w (SortPost w blk 0 d 0 n) := by
 have HL := zz (fun w => u_len (n : Int) w (by omega) (by omega))
 have HP : Hid (∀ (L : Nat), L ≤ 16 → Calls Tryz.prog 130 #[.slice (some ⟨blk, 0, none⟩) n cap, .int .i64 0, .int .i64 n, .int .i64 L] w (SortPost w blk 0 d 0 n)) := fun L hL => u_pdq blk 0 n cap hsz n 0 n L d w (by omega) hH hn (by omega) (Nat.le_refl _) (by omega) (Or.inl rfl) hlt
 have hnI : (n : Int) ≤ 60000 := by omega
 clear hH hn
 go_enter Tryz.func87, Tryz.ntmps87
 go_wp2_with (first
  | (go_at_call 127; refine (HL.out _).mono ?_; rintro e w' ⟨L, rfl, rfl, hL, _⟩)
  | (go_at_call 130; (with_reducible refine (HP.out L hL).mono ?_); rintro e w' ⟨d', rfl, h⟩; have H := zz h; clear h))
 go_end0
 exact ⟨d', rfl, H.out⟩
structure RowAt (w : World) (B : Nat) (l : List Int) : Prop where
 cell : ∀ (k : Nat) (x : Int), l[k]? = some x → w.cell? ⟨B, k, none⟩ = some (.int .u32 x)
 lt : B < w.heap.size
theorem RowAt.below {w w' : World} {B : Nat} {l : List Int} (h : RowAt w B l) (hb : Below w.heap.size w w') : RowAt w' B l :=
 ⟨fun k x hk => (hb.cell (p := ⟨B, k, none⟩) h.lt).trans (h.cell k x hk), Nat.lt_of_lt_of_le h.lt hb.size⟩
def AllPost (m : Lit → Option Value) (w : World) (e : Ending) (w' : World) : Prop :=
 ∃ (B c : Nat) (l : List Int), e = .returned (.slice (some ⟨B, 0, none⟩) l.length c) ∧ l.Pairwise (· < ·) ∧ (∀ i, i ∈ l ↔ (m (.int .u32 i)).isSome = true) ∧ RowAt w' B l ∧ w.heap.size ≤ B ∧ Below w.heap.size w w'
theorem holds_of_owns {w : World} {g : Nat} {ss : List Int} {cur : Array Value} (hc : w.heap[g]? = some (.cells cur 29 (0, 0))) (ht : cur.toList.take (ss.length * 1) = ss.map u32V) : Go.Sort.Holds (Value.int .u32) w g 0 ss.toArray := by
 intro j hj
 have hj' : j < ss.length := by simpa using hj
 have h1 : cur[j]? = some (u32V ss[j]) := by
  have e : (cur.toList.take (ss.length * 1))[j]? = (ss.map u32V)[j]? := by rw [ht]
  rw [List.getElem?_take, if_pos (by omega), List.getElem?_map, List.getElem?_eq_getElem hj'] at e
  simpa using e
 refine ⟨?_, by simp [World.frozen?, hc]⟩
 rw [Nat.zero_add]
 simp only [World.cell?, hc, h1]
 congr 2
 simp [hj']
set_option maxRecDepth 100000 in
set_option maxHeartbeats 2000000 in
theorem u_sorted (g : Nat) (lb : Array Value) (eg : Enters g) (m : Lit → Option Value) (N : Nat) (hN : N ≤ 60000) (hne : ∃ i, (m (.int .u32 i)).isSome = true) (w : World)
  (hseq : SeqStopsK Fence.wide 6 Tryz.prog g lb (fun x : Int => #[.int .u32 x]) KeepsWalks (fun ss => KeysOf m ss ∧ ss.length ≤ N) (fun _ => True) N w) :
  Calls Tryz.prog 50 #[.func (.func g) #[] lb] w (AllPost m w) := by
 have HC := zz (u_collect g lb eg _ N hN w hseq)
 have HN := zz hne
 clear hseq hne
 go_enter Tryz.func50, Tryz.ntmps50
 go_wp2_with (go_at_call 86; (with_reducible refine HC.out.mono ?_); rintro e w1 ⟨v, ss, rfl, ⟨hS, hSN⟩, hrow, hb⟩
              have hss : 1 ≤ ss.length := (by
               obtain ⟨i, hi⟩ := HN.out
               exact List.length_pos_of_mem ((hS.2 i).2 hi))
              obtain ⟨B, cap, cur, rfl, hwB, hcur, htake⟩ : ∃ (B cap : Nat) (cur : Array Value), v = .slice (some ⟨B, 0, none⟩) ss.length cap ∧ w.heap.size ≤ B ∧ w1.heap[B]? = some (.cells cur 29 (0, 0)) ∧ cur.toList.take (ss.length * 1) = ss.map u32V := (by
               rcases hrow.2 with ⟨_, h0⟩ | ⟨g', cap', cur', h1, h2, h3, h4, h5, h6, h7⟩
               · exact absurd h0 (by omega)
               · exact ⟨g', cap', cur', h1, h2, h3, h7⟩)
              have hBl : B < w1.heap.size := (Array.getElem?_eq_some_iff.1 hcur).1
              have HS := zz (u_sort B ss.length cap ss.toArray w1 (holds_of_owns hcur htake) (by simp) hss (by omega) hBl)
              have HK := zz hS
              have HB := zz hb
              clear hS hrow hb hcur htake hss)
 go_wp2_with (go_at_call 87; (with_reducible refine HS.out.mono ?_); rintro e w2 ⟨d', rfl, hr, hp, hs⟩; have HR := zz hr; have HP := zz hp; have HSo := zz hs; clear hr hp hs)
 go_ret
 have hsz : d'.size = ss.length := by rw [HP.out.1]; simp
 have hperm : d'.toList.Perm ss := by
  have h3 := HP.out.2.2
  rw [Array.extract_eq_self_of_le (by rw [hsz]; exact Nat.le_refl _), Array.extract_eq_self_of_le (by simp)] at h3
  exact h3
 have hnd : d'.toList.Nodup := hperm.nodup_iff.2 HK.out.1
 have hlen : d'.toList.length = ss.length := by simpa using hsz
 have hget : ∀ (k : Nat) (h : k < d'.toList.length), d'.toList[k] = d'[k]! := fun k h => by
  rw [getElem!_pos d' k (by simpa using h)]
  simp
 refine ⟨B, cap, d'.toList, by rw [hlen]; rfl, ?_, fun i => by rw [hperm.mem_iff, HK.out.2], ⟨fun k x hk => ?_, Nat.lt_of_lt_of_le hBl HR.out.grown.size⟩, hwB, ?_⟩
 · rw [List.pairwise_iff_getElem]
   intro i j hi hj hij
   rw [hget i hi, hget j hj]
   have h1 := HSo.out i j (Nat.zero_le _) hij (by omega)
   have h2 : ¬ d'[j]! < d'[i]! := by simpa [Go.Sort.ltInt] using h1
   have h3 : d'[i]! ≠ d'[j]! := by
    rw [← hget i hi, ← hget j hj]
    intro e
    have := (List.getElem_inj hnd).1 e
    omega
   omega
 · obtain ⟨hk1, hk2⟩ := List.getElem?_eq_some_iff.1 hk
   have h1 := (HR.out.holds k (by simpa using hk1)).1
   rw [Nat.zero_add] at h1
   rw [h1, ← hk2, hget k hk1]
 · exact ⟨HR.out.grown.os.trans HB.out.os, HR.out.grown.tape.trans HB.out.tape, HR.out.grown.output.trans HB.out.output, Nat.le_trans HB.out.size HR.out.grown.size, fun b hb => (HR.out.grown.block b (Nat.lt_of_lt_of_le hb HB.out.size) (fun e => by injection e with e; omega)).trans (HB.out.block b hb)⟩
theorem u_keys (mb : Option Nat) (w : World) : Calls Tryz.prog 51 #[.map mb] w fun e w' => e = .returned (.func (.func 88) #[] #[.pointer (some ⟨w.heap.size, 0, none⟩)]) ∧ w' = w.alloc (.cells #[.map mb] 106) := by
 go_enter Tryz.func51, Tryz.ntmps51
 go_wp2
 go_ret
 exact ⟨rfl, rfl⟩
section
variable {F : Nat → Prop} {P N : Nat} {y : Lay} {t : PT}
def AllP (t : PT) (w : World) (e : Ending) (w' : World) : Prop :=
 ∃ (B c : Nat) (l : List Int), e = .returned (.slice (some ⟨B, 0, none⟩) l.length c) ∧ l.Pairwise (· < ·) ∧ (∀ i, i ∈ l ↔ (t.n i).isSome = true) ∧ RowAt w' B l ∧ w.heap.size ≤ B ∧ Below w.heap.size w w'
theorem t_allP (w : World) (h : TreeM w F P N y t) (hN : N ≤ 60000) (hne : ∃ i, (t.n i).isSome = true) :
  Calls Tryz.prog 16 #[.pointer (some ⟨P, 0, none⟩)] w (AllP t w) := by
 have c1 := h.c1
 have hB : Below w.heap.size w (w.alloc (.cells #[.map (some y.M)] 106)) := u_alloc1 w _
 have hM : MapAt (w.alloc (.cells #[.map (some y.M)] 106)) Tryz.prog 29 y.M N (nodesM t.n y.f) := h.nodes.below hB
 have hsome : ∀ i, (nodesM t.n y.f (.int .u32 i)).isSome = (t.n i).isSome := fun i => by
  show ((t.n i).map _).isSome = _
  cases t.n i <;> rfl
 have HS := zz (u_sorted 88 #[.pointer (some ⟨w.heap.size, 0, none⟩)] (enters_of Tryz.func88 (by kernel_rfl) rfl) (nodesM t.n y.f) N hN (by obtain ⟨i, hi⟩ := hne; exact ⟨i, by rw [hsome]; exact hi⟩) (w.alloc (.cells #[.map (some y.M)] 106))
  (keys_stops w.heap.size y.M N _ _ (by simp) (box_new w _ _) hM))
 have HB := zz hB
 have HSM := zz hsome
 have HKY := zz (fun (mb : Option Nat) (w : World) => u_keys mb w)
 clear h hne hM hsome hB
 go_enter Tryz.func16, Tryz.ntmps16
 go_wp2_with (first
  | (go_at_call 51; refine (HKY.out _ _).mono ?_; rintro e w' ⟨rfl, rfl⟩)
  | (go_at_call 50; (with_reducible refine HS.out.mono ?_); rintro e w2 ⟨B, c, l, rfl, h1, h2, h3, h4, h5⟩; have H := zz h1; have H2 := zz h2; have H3 := zz h3; have H5 := zz h5; clear h1 h2 h3 h5))
 go_ret
 exact ⟨B, c, l, rfl, H.out, fun i => by rw [H2.out, HSM.out], H3.out, by simp at h4; omega, ptrans HB.out H5.out⟩
end
end

section
open Go.Shelf Go.RowKit
def sortE_ren : Go.Shelf.Ren := ⟨fun | 6 => 83 | 15 => 127 | 14 => 126 | 28 => 207 | 29 => 208 | 20 => 199 | 21 => 200 | 22 => 201 | 23 => 202 | 24 => 203 | 25 => 204 | 26 => 205 | 27 => 206 | 46 => 247 | 47 => 248 | 48 => 249 | 49 => 250 | 50 => 251 | 57 => 272 | n => n, fun | 22 => 37 | 24 => 100 | 25 => 163 | 3 => 3 | 39 => 222 | 0 => 0 | 53 => 29 | 55 => 238 | 4 => 4 | 46 => 263 | 45 => 262 | 50 => 176 | 5 => 5 | 9 => 9 | 66 => 284 | 70 => 236 | 76 => 296 | 77 => 297 | n => n, fun | n => n⟩
theorem sortE : SlLaysF0.n6 Tryz.prog sortE_ren := {
 mixed := by kernel_rfl
 f6 := ⟨Tryz.f83.name, by decide, Tryz.func83.trans (congrArg some (by kernel_rfl))⟩
 f14 := ⟨Tryz.f126.name, by decide, Tryz.func126.trans (congrArg some (by kernel_rfl))⟩
 f15 := Tryz.func127.trans (congrArg some (by kernel_rfl))
 f20 := ⟨Tryz.f199.name, by decide, Tryz.func199.trans (congrArg some (by kernel_rfl))⟩
 f21 := ⟨Tryz.f200.name, by decide, Tryz.func200.trans (congrArg some (by kernel_rfl))⟩
 f22 := ⟨Tryz.f201.name, by decide, Tryz.func201.trans (congrArg some (by kernel_rfl))⟩
 f23 := ⟨Tryz.f202.name, by decide, Tryz.func202.trans (congrArg some (by kernel_rfl))⟩
 f24 := ⟨Tryz.f203.name, by decide, Tryz.func203.trans (congrArg some (by kernel_rfl))⟩
 f25 := ⟨Tryz.f204.name, by decide, Tryz.func204.trans (congrArg some (by kernel_rfl))⟩
 f26 := ⟨Tryz.f205.name, by decide, Tryz.func205.trans (congrArg some (by kernel_rfl))⟩
 f27 := ⟨Tryz.f206.name, by decide, Tryz.func206.trans (congrArg some (by kernel_rfl))⟩
 f28 := Tryz.func207.trans (congrArg some (by kernel_rfl))
 f29 := Tryz.func208.trans (congrArg some (by kernel_rfl))
 f46 := ⟨Tryz.f247.name, by decide, Tryz.func247.trans (congrArg some (by kernel_rfl))⟩
 f47 := Tryz.func248.trans (congrArg some (by kernel_rfl))
 f48 := Tryz.func249.trans (congrArg some (by kernel_rfl))
 f49 := ⟨Tryz.f250.name, by decide, Tryz.func250.trans (congrArg some (by kernel_rfl))⟩
 f50 := ⟨Tryz.f251.name, by decide, Tryz.func251.trans (congrArg some (by kernel_rfl))⟩
 f57 := ⟨Tryz.f272.name, by decide, Tryz.func272.trans (congrArg some (by kernel_rfl))⟩
 t0 := Tryz.underlying0
 a0 := Tryz.isAgg0
 z0 := Tryz.sizeOf0
 v0 := Tryz.zeroValue0
 t3 := Tryz.underlying3
 a3 := Tryz.isAgg3
 z3 := Tryz.sizeOf3
 v3 := Tryz.zeroValue3
 t4 := Tryz.underlying4
 a4 := Tryz.isAgg4
 z4 := Tryz.sizeOf4
 v4 := Tryz.zeroValue4
 t5 := Tryz.underlying5
 a5 := Tryz.isAgg5
 z5 := Tryz.sizeOf5
 v5 := Tryz.zeroValue5
 t9 := Tryz.underlying9
 a9 := Tryz.isAgg9
 z9 := Tryz.sizeOf9
 v9 := Tryz.zeroValue9
 t22 := Tryz.underlying37
 a22 := Tryz.isAgg37
 z22 := Tryz.sizeOf37
 v22 := Tryz.zeroValue37
 t25 := Tryz.underlying163
 a25 := Tryz.isAgg163
 z25 := Tryz.sizeOf163
 v25 := Tryz.zeroValue163
 t39 := Tryz.underlying222
 a39 := Tryz.isAgg222
 z39 := Tryz.sizeOf222
 v39 := Tryz.zeroValue222
 t45 := Tryz.underlying262
 a45 := Tryz.isAgg262
 z45 := Tryz.sizeOf262
 v45 := Tryz.zeroValue262
 t46 := Tryz.underlying263
 a46 := Tryz.isAgg263
 z46 := Tryz.sizeOf263
 v46 := Tryz.zeroValue263
 t50 := Tryz.underlying176
 a50 := Tryz.isAgg176
 z50 := Tryz.sizeOf176
 v50 := Tryz.zeroValue176
 t53 := Tryz.underlying29
 a53 := Tryz.isAgg29
 z53 := Tryz.sizeOf29
 v53 := Tryz.zeroValue29
 t55 := Tryz.underlying238
 a55 := Tryz.isAgg238
 z55 := Tryz.sizeOf238
 v55 := Tryz.zeroValue238
 t66 := Tryz.underlying284
 a66 := Tryz.isAgg284
 z66 := Tryz.sizeOf284
 v66 := Tryz.zeroValue284
 t70 := Tryz.underlying236
 a70 := Tryz.isAgg236
 z70 := Tryz.sizeOf236
 v70 := Tryz.zeroValue236
 t76 := Tryz.underlying296
 a76 := Tryz.isAgg296
 z76 := Tryz.sizeOf296
 v76 := Tryz.zeroValue296
 t77 := Tryz.underlying297
 a77 := Tryz.isAgg297
 z77 := Tryz.sizeOf297
 v77 := Tryz.zeroValue297 }
end

section
open Go.RowKit Go.Maps Go.Sort
abbrev E := ByteArray × Int
def encE (x : E) : List Value := [.string x.1, .int .u32 x.2]
def nameL (x : E) : List UInt8 := x.1.data.toList
theorem bytesLess_lt : ∀ (x y : List UInt8), Op.bytesLess x y = ltStr x y
 | _, [] => by simp [Op.bytesLess, ltStr]
 | [], _ :: _ => by simp [Op.bytesLess, ltStr]
 | a :: x, b :: y => by
  rw [Op.bytesLess, bytesLess_lt x y]
  unfold ltStr
  rw [Bool.eq_iff_iff]
  simp only [Bool.or_eq_true, Bool.and_eq_true, decide_eq_true_eq, beq_iff_eq]
  rw [List.cons_lt_cons_iff]
def cmpE (x y : E) : Int := if ltStr (nameL x) (nameL y) = true then -1 else if nameL x = nameL y then 0 else 1
theorem ltE (x y : E) : Go.Proofs.ltOf cmpE x y = ltStr (nameL x) (nameL y) := by
 unfold Go.Proofs.ltOf cmpE
 cases h : ltStr (nameL x) (nameL y)
 · by_cases e : nameL x = nameL y <;> simp [e]
 · simp
theorem swoE : SWO (Go.Proofs.ltOf cmpE) where
 irrefl x := by rw [ltE]; exact swo_ltStr.irrefl _
 trans x y z h1 h2 := by rw [ltE] at *; exact swo_ltStr.trans _ _ _ h1 h2
 ntrans x y z h1 h2 := by rw [ltE] at *; exact swo_ltStr.ntrans _ _ _ h1 h2
theorem e_isNaN (x : ByteArray) (w : World) : Calls Tryz.prog 128 #[.string x] w fun e w' => e = .returned (.bool false) ∧ w = w' := by
 go_enter Tryz.func128, Tryz.ntmps128
 go_wp2
 go_ret
 exact ⟨by simp, rfl⟩
theorem e_compare (x y : E) (w : World) : Calls Tryz.prog 85 #[.string x.1, .string y.1] w fun e w' => e = .returned (.int .i64 (cmpE x y)) ∧ w = w' := by
 obtain ⟨b1, h1⟩ : ∃ b1, Op.bytesLess x.1.toList y.1.toList = b1 := ⟨_, rfl⟩
 obtain ⟨b2, h2⟩ : ∃ b2, (x.1.toList == y.1.toList) = b2 := ⟨_, rfl⟩
 have HC : Hid (cmpE x y = if b1 = true then -1 else if b2 = true then 0 else 1) := by
  show _ = _
  unfold cmpE nameL
  rw [← h1, ← h2, bytesLess_lt, Lib.toList_data, Lib.toList_data]
  simp
 go_enter Tryz.func85, Tryz.ntmps85
 cases b1 <;> cases b2
 all_goals go_wp2_with (go_at_call 128; refine (e_isNaN _ _).mono ?_; rintro e w' ⟨rfl, rfl⟩)
 all_goals go_ret
 all_goals exact ⟨by rw [HC.out]; rfl, rfl⟩
theorem e_closure (x y : E) (w : World) : Calls Tryz.prog 84 #[.agg #[.string x.1, .int .u32 x.2], .agg #[.string y.1, .int .u32 y.2]] w fun e w' => e = .returned (.int .i64 (cmpE x y)) ∧ ∃ q os', w' = grow (w.drewN q) os' := by
 have HC := zz (fun w => e_compare x y w)
 generalize cmpE x y = r at HC ⊢
 obtain ⟨x1, x2⟩ := x
 obtain ⟨y1, y2⟩ := y
 go_enter Tryz.func84, Tryz.ntmps84
 go_wp2_with (go_at_call 85; refine (HC.out _).mono ?_; rintro e w' ⟨rfl, rfl⟩)
 go_ret
 exact ⟨rfl, 0, _, by rw [alloc_eq_grow, alloc_eq_grow, grow_grow]; rfl⟩
theorem cmpLaysE (blk off size : Nat) (w : World) : CmpLays Tryz.prog 84 #[] encE 2 cmpE blk off size w := fun _ _ _ _ x y => e_closure x y _
theorem grown_sort {enc : E → List Value} (w : World) (blk off n : Nat) (d : Array E) (os : Array Obj) : w.grownBy (sortWorldK enc 2 w blk off n d os) (some blk) := by
 refine ⟨rfl, rfl, rfl, ?_, fun b hb hn => ?_⟩
 · show w.heap.size ≤ ((putRowK enc 2 (Go.Sort.ahead w n) blk off d).heap ++ os).size
   have : (putRowK enc 2 (Go.Sort.ahead w n) blk off d).heap.size = w.heap.size := by simp [putRowK]
   rw [Array.size_append, this]
   omega
 · show ((putRowK enc 2 (Go.Sort.ahead w n) blk off d).heap ++ os)[b]? = w.heap[b]?
   have hs : (putRowK enc 2 (Go.Sort.ahead w n) blk off d).heap.size = w.heap.size := by simp [putRowK]
   rw [Array.getElem?_append_left (by rw [hs]; exact hb)]
   have hne : blk ≠ b := fun e => hn (by rw [e])
   simp [putRowK, putRow, mapBlock, Array.getElem?_modify, hne]
def SortedE (w : World) (B : Nat) (d : Array E) (e : Ending) (w' : World) : Prop := ∃ d', e = .returned (.tuple #[]) ∧ PermIn 0 d.size d d' ∧ SortedIn (Go.Proofs.ltOf cmpE) 0 d.size d' ∧ HoldsK encE 2 w' B 0 d' ∧ w.grownBy w' (some B)
theorem e_sortFunc (B n cap : Nat) (d : Array E) (w : World) (hn : d.size = n) (hH : HoldsK encE 2 w B 0 d) (hlt : B < w.heap.size) (hsz : n ≤ 60000) :
  Calls Tryz.prog 83 #[.slice (some ⟨B, 0, none⟩) n cap, .func (.func 84) #[] #[]] w (SortedE w B d) := by
 subst hn
 have h := AnyQ.slices_SortFunc sortE 2 Tryz.isAgg100 Tryz.sizeOf100 encE (fun _ => rfl) (fun x v hv => by simp [encE] at hv; rcases hv with rfl | rfl <;> rfl) cmpE swoE 84 #[] B 0 cap d w (enters_of Tryz.func84 (by kernel_rfl) rfl) (cmpLaysE B 0 d.size w) hH hlt (by omega)
 refine Calls.mono h ?_
 rintro e w' ⟨rfl, d', n, os, hp, hs, rfl⟩
 exact ⟨d', rfl, hp, hs, holdsK_sortWorldK encE 2 w B 0 n d d' os hlt hH hp.1, grown_sort w B 0 n d' os⟩
theorem u_len0 (w : World) : Calls Tryz.prog 127 #[.int .u64 0] w fun e w' => e = .returned (.int .i64 0) ∧ w = w' := by
 have H : ∀ w, Calls Tryz.prog 208 #[.int .u64 0] w fun e w' => e = .returned (.int .i64 0) ∧ w = w' := fun w => by
  go_enter Tryz.func208, Tryz.ntmps208
  go_wp2
  go_ret
  exact ⟨ret_int (by decide +kernel), rfl⟩
 have HC := zz H
 clear H
 go_enter Tryz.func127, Tryz.ntmps127
 go_wp2_with (go_at_call 208; refine (HC.out _).mono ?_; rintro e w' ⟨rfl, rfl⟩)
 go_ret
 exact ⟨rfl, rfl⟩
theorem e_ins0 (f : Value) (w : World) : Calls Tryz.prog 199 #[.slice none 0 0, .int .i64 0, .int .i64 0, f] w fun e w' => e = .returned (.tuple #[]) ∧ w = w' := by
 go_enter Tryz.func199, Tryz.ntmps199
 go_wp2
 refine wp_loop_rounds 1 ?_
 rw [rounds_succ]
 go_wp2
 go_end0
 exact ⟨rfl, rfl⟩
theorem e_pdq0 (f : Value) (w : World) : Calls Tryz.prog 126 #[.slice none 0 0, .int .i64 0, .int .i64 0, .int .i64 0, f] w fun e w' => e = .returned (.tuple #[]) ∧ w = w' := by
 go_enter Tryz.func126, Tryz.ntmps126
 go_wp2
 refine wp_loop_rounds 1 ?_
 rw [rounds_succ]
 go_wp2_with (go_at_call 199; refine (e_ins0 _ _).mono ?_; rintro e w' ⟨rfl, rfl⟩)
 refine bodyPost_ret (results_none rfl _ _ _) rfl ?_
 exact ⟨rfl, rfl⟩
theorem e_sort0 (f : Value) (w : World) : Calls Tryz.prog 83 #[.slice none 0 0, f] w fun e w' => e = .returned (.tuple #[]) ∧ w = w' := by
 go_enter Tryz.func83, Tryz.ntmps83
 go_wp2_with (first
  | (go_at_call 127; refine (u_len0 _).mono ?_; rintro e w' ⟨rfl, rfl⟩)
  | (go_at_call 126; refine (e_pdq0 _ _).mono ?_; rintro e w' ⟨rfl, rfl⟩))
 go_end0
 exact ⟨rfl, rfl⟩
end
end Go.Proofs.YtpcnolkdnmolgaaGreatDoor
