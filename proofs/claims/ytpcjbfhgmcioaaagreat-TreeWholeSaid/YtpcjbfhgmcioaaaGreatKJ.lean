/- The keys of a map over uint32, collected and sorted; All. -/
import Derived.Test.YtpcjbfhgmcioaaaGreatKI
namespace Go.Proofs.YtpcjbfhgmcioaaaGreat
open Go.RowKit Go.Maps Go.Shelf

attribute [local go_sem] Oper.semAt_some

theorem infoU : (Tryz.prog.info? 23).map (fun i => (i.zero, i.size, i.bytes)) = some (some (.int .u32 0), 1, 4) := by kernel_rfl
abbrev u32V : Int → Value := Value.int .u32
def Collected (w : World) (S : List Int → Prop) (e : Ending) (w' : World) : Prop := ∃ (v : Value) (ss : List Int), e = .returned v ∧ S ss ∧ w'.ownsRow w.heap.size 23 1 v ss.length (ss.map u32V) ∧ Below w.heap.size w w'
set_option maxRecDepth 100000 in
set_option maxHeartbeats 2000000 in
theorem u_appendSeq (g : Nat) (lb : Array Value) (eg : Enters g) (S : List Int → Prop) (N : Nat) (hN : N ≤ 60000) (w : World)
    (hseq : SeqStopsK Fence.wide 6 Tryz.prog g lb (fun x : Int => #[.int .u32 x]) KeepsWalks S (fun _ => True) N w) :
    CallsIn Fence.wide 7 Tryz.prog 124 #[.slice none 0 0, .func (.func g) #[] lb] w (Collected w S) := by
  obtain ⟨i0, hi, hz0, hz1, hz2⟩ := info_parts infoU
  refine callsIn_of_wp_marks Tryz.func124 rfl trivial ?_ rfl
  simp only [Tryz.ntmps124, List.size_toArray, List.length_cons, List.length_nil, Nat.reduceAdd, Nat.reduceSub, Array.replicate_succ, Array.replicate_zero, List.push_toArray, List.append_toArray, List.nil_append, List.cons_append]
  gi_wp2
  have bO := Boxed.new w 46 (.slice none 0 0)
  have hB0 : Below w.heap.size w (w.alloc (.cells #[.slice none 0 0] 46)) := u_alloc1 w _
  have hsz : (w.alloc (.cells #[.slice none 0 0] 46)).heap.size = w.heap.size + 1 := by simp
  have hnil := World.ownsRow_nil (w.alloc (.cells #[.slice none 0 0] 46)) w.heap.size 23 1
  obtain ⟨W0, hW0⟩ : ∃ W0, w.alloc (.cells #[.slice none 0 0] 46) = W0 := ⟨_, rfl⟩
  rw [hW0] at bO hB0 hsz hnil ⊢
  clear hW0
  refine wpIn_rangeFunc_ownF rfl (by omega) (gf := g) (lb := lb) rfl trivial eg hseq walksK_t (walksK_b) hB0 (fun _ => rfl)
    (fun pre W => (∃ v, Boxed W w.heap.size 46 v ∧ W.ownsRow w.heap.size 23 1 v pre.length (pre.map u32V) ∧ True) ∧ Below w.heap.size w W)
    (fun _ _ _ => False)
    (OwnFrom.and (Own.from (holdsRow_own w.heap.size w.heap.size 46 23 1 (fun pre : List Int => pre.length) (fun pre => pre.map u32V) (fun _ _ => True)) _) (ownFrom_below (Nat.le_refl _) (by omega)))
    (fun _ _ _ _ _ hs _ _ => hs)
    ⟨⟨_, bO, hnil, trivial⟩, hB0⟩
    (fun x => { tmps := #[.slice none 0 0, .func (.func g) #[] lb, .pointer (some ⟨w.heap.size, 0, none⟩), undef, .slice none 0 0, .int .u32 x, .func (.func g) #[] lb, .int .u32 x, undef, undef, undef, undef, undef], defers := [] })
    ?assign ?body ?done ?stop
  case assign =>
    intro l x W K hK
    gi_wp2
    exact hK
  case body =>
    rintro l pre x W ⟨⟨v, hv, hrow, _⟩, hB⟩ hlt
    have hc := hv.cell
    have hszW := hB.size
    gi_wp2_with (gi_at_builtin; refine wpListIn_append_own _ rfl _ _ 46 rfl w.heap.size 23 i0 (.int .u32 0) 1 4 Tryz.underlying46 hi hz0 hz1 hz2 rfl (by decide) _ _ _ rfl (hrow.alloc _) ⟨W.heap.size, 0, none⟩ 1 1 [.int .u32 x] rfl rfl (cell_one_new _ _ _) (by simp [Value.oneCell']) (by unfold maxLen; omega) (by omega) (by simp; omega) ?_; intro v' w1 hown' hgrow _; obtain ⟨g', cap', rfl⟩ := ownsRow_succ hown'; obtain ⟨hv1, hv2, hr2, hk2, hb2⟩ := hv.appended (by decide) hrow hB.size (Nat.le_refl _) hown' hgrow; have hc1 := hv1.cell; have hf1 := hv1.frozen)
    exact ⟨hk2, hk2.walks, ⟨_, hv2, by simpa using hr2, trivial⟩, hB.trans hb2⟩
  case done =>
    rintro D ys W hD hS ⟨⟨v, hv, hrow, _⟩, hB⟩ hK
    have hc := hv.cell
    have hf := hv.frozen
    gi_wp2
    refine ⟨by simp, .inl ⟨_, _, rfl, run_takeDeferred hK, ?_⟩⟩
    exact ⟨_, by simp [results, Tryz.f124, go_sem], v, ys, rfl, hS, ownsRow_putObj hrow _ hK rfl, hB.trans (belowK_b (w := w) (Nat.le_refl _) _ D _ _ (by omega) hK rfl rfl)⟩
  case stop =>
    rintro D c pre W _ _ h _
    exact h.elim
theorem u_collect (g : Nat) (lb : Array Value) (eg : Enters g) (S : List Int → Prop) (N : Nat) (hN : N ≤ 60000) (w : World)
    (hseq : SeqStopsK Fence.wide 6 Tryz.prog g lb (fun x : Int => #[.int .u32 x]) KeepsWalks S (fun _ => True) N w) :
    Calls Tryz.prog 112 #[.func (.func g) #[] lb] w (Collected w S) := by
  have HC := Lib.hid ((callsIn_wide (n := 7)).1 (u_appendSeq g lb eg S N hN w hseq))
  go_enter Tryz.func112, Tryz.ntmps112
  go_wp2_with (go_at_call 124; (with_reducible refine HC.out.mono ?_); rintro e w' ⟨v, ss, rfl, h⟩; have H := Lib.hid h; clear h)
  go_ret
  exact ⟨v, ss, rfl, H.out⟩
set_option maxRecDepth 100000 in
theorem u_sort (blk n cap : Nat) (d : Array Int) (w : World) (hH : Go.Sort.Holds (Value.int .u32) w blk 0 d) (hn : d.size = n) (h1 : 1 ≤ n) (hsz : n ≤ 60000) (hlt : blk < w.heap.size) :
    Calls Tryz.prog 113 #[.slice (some ⟨blk, 0, none⟩) n cap] w (SortPost w blk 0 d 0 n) := by
  have HL := Lib.hid (fun w => u_len (n : Int) w (by omega) (by omega))
  have HP : Hid (∀ (L : Nat), L ≤ 16 → Calls Tryz.prog 125 #[.slice (some ⟨blk, 0, none⟩) n cap, .int .i64 0, .int .i64 n, .int .i64 L] w (SortPost w blk 0 d 0 n)) := fun L hL => u_pdq blk 0 n cap hsz n 0 n L d w (by omega) hH hn (by omega) (Nat.le_refl _) (by omega) (Or.inl rfl) hlt
  have hnI : (n : Int) ≤ 60000 := by omega
  clear hH hn
  go_enter Tryz.func113, Tryz.ntmps113
  go_wp2_with (first
    | (go_at_call 116; refine (HL.out _).mono ?_; rintro e w' ⟨L, rfl, rfl, hL, _⟩)
    | (go_at_call 125; (with_reducible refine (HP.out L hL).mono ?_); rintro e w' ⟨d', rfl, h⟩; have H := Lib.hid h; clear h))
  go_end0
  exact ⟨d', rfl, H.out⟩
/-- A row that lies by itself, in order. -/
structure RowAt (w : World) (B : Nat) (l : List Int) : Prop where
  cell : ∀ (k : Nat) (x : Int), l[k]? = some x → w.cell? ⟨B, k, none⟩ = some (.int .u32 x)
  lt : B < w.heap.size
theorem RowAt.below {w w' : World} {B : Nat} {l : List Int} (h : RowAt w B l) (hb : Below w.heap.size w w') : RowAt w' B l :=
  ⟨fun k x hk => (hb.cell (p := ⟨B, k, none⟩) h.lt).trans (h.cell k x hk), Nat.lt_of_lt_of_le h.lt hb.size⟩
def AllPost (m : Lit → Option Value) (w : World) (e : Ending) (w' : World) : Prop :=
  ∃ (B c : Nat) (l : List Int), e = .returned (.slice (some ⟨B, 0, none⟩) l.length c) ∧ l.Pairwise (· < ·) ∧ (∀ i, i ∈ l ↔ (m (.int .u32 i)).isSome = true) ∧ RowAt w' B l ∧ w.heap.size ≤ B ∧ Below w.heap.size w w'
theorem holds_of_owns {w : World} {g : Nat} {ss : List Int} {cur : Array Value} (hc : w.heap[g]? = some (.cells cur 23 (0, 0))) (ht : cur.toList.take (ss.length * 1) = ss.map u32V) : Go.Sort.Holds (Value.int .u32) w g 0 ss.toArray := by
  intro j hj
  have hj' : j < ss.length := by simpa using hj
  have h1 : cur[j]? = some (u32V ss[j]) := by
    have e : (cur.toList.take (ss.length * 1))[j]? = (ss.map u32V)[j]? := by rw [ht]
    rw [List.getElem?_take, if_pos (by omega), List.getElem?_map, List.getElem?_eq_getElem hj'] at e
    simpa using e
  refine ⟨?_, by simp [World.frozen?, hc]⟩
  rw [Nat.zero_add]
  simp only [World.cell?, hc, h1]
  congr 2
  simp [hj']
set_option maxRecDepth 100000 in
set_option maxHeartbeats 2000000 in
theorem u_sorted (g : Nat) (lb : Array Value) (eg : Enters g) (m : Lit → Option Value) (N : Nat) (hN : N ≤ 60000) (hne : ∃ i, (m (.int .u32 i)).isSome = true) (w : World)
    (hseq : SeqStopsK Fence.wide 6 Tryz.prog g lb (fun x : Int => #[.int .u32 x]) KeepsWalks (fun ss => KeysOf m ss ∧ ss.length ≤ N) (fun _ => True) N w) :
    Calls Tryz.prog 69 #[.func (.func g) #[] lb] w (AllPost m w) := by
  have HC := Lib.hid (u_collect g lb eg _ N hN w hseq)
  have HN := Lib.hid hne
  clear hseq hne
  go_enter Tryz.func69, Tryz.ntmps69
  go_wp2_with (go_at_call 112; (with_reducible refine HC.out.mono ?_); rintro e w1 ⟨v, ss, rfl, ⟨hS, hSN⟩, hrow, hb⟩
               have hss : 1 ≤ ss.length := (by
                 obtain ⟨i, hi⟩ := HN.out
                 exact List.length_pos_of_mem ((hS.2 i).2 hi))
               obtain ⟨B, cap, cur, rfl, hwB, hcur, htake⟩ : ∃ (B cap : Nat) (cur : Array Value), v = .slice (some ⟨B, 0, none⟩) ss.length cap ∧ w.heap.size ≤ B ∧ w1.heap[B]? = some (.cells cur 23 (0, 0)) ∧ cur.toList.take (ss.length * 1) = ss.map u32V := (by
                 rcases hrow.2 with ⟨_, h0⟩ | ⟨g', cap', cur', h1, h2, h3, h4, h5, h6, h7⟩
                 · exact absurd h0 (by omega)
                 · exact ⟨g', cap', cur', h1, h2, h3, h7⟩)
               have hBl : B < w1.heap.size := (Array.getElem?_eq_some_iff.1 hcur).1
               have HS := Lib.hid (u_sort B ss.length cap ss.toArray w1 (holds_of_owns hcur htake) (by simp) hss (by omega) hBl)
               have HK := Lib.hid hS
               have HB := Lib.hid hb
               clear hS hrow hb hcur htake hss)
  go_wp2_with (go_at_call 113; (with_reducible refine HS.out.mono ?_); rintro e w2 ⟨d', rfl, hr, hp, hs⟩; have HR := Lib.hid hr; have HP := Lib.hid hp; have HSo := Lib.hid hs; clear hr hp hs)
  go_ret
  have hsz : d'.size = ss.length := by rw [HP.out.1]; simp
  have hperm : d'.toList.Perm ss := by
    have h3 := HP.out.2.2
    rw [Array.extract_eq_self_of_le (by rw [hsz]; exact Nat.le_refl _), Array.extract_eq_self_of_le (by simp)] at h3
    exact h3
  have hnd : d'.toList.Nodup := hperm.nodup_iff.2 HK.out.1
  have hlen : d'.toList.length = ss.length := by simpa using hsz
  have hget : ∀ (k : Nat) (h : k < d'.toList.length), d'.toList[k] = d'[k]! := fun k h => by
    rw [getElem!_pos d' k (by simpa using h)]
    simp
  refine ⟨B, cap, d'.toList, by rw [hlen]; rfl, ?_, fun i => by rw [hperm.mem_iff, HK.out.2], ⟨fun k x hk => ?_, Nat.lt_of_lt_of_le hBl HR.out.grown.size⟩, hwB, ?_⟩
  · rw [List.pairwise_iff_getElem]
    intro i j hi hj hij
    rw [hget i hi, hget j hj]
    have h1 := HSo.out i j (Nat.zero_le _) hij (by omega)
    have h2 : ¬ d'[j]! < d'[i]! := by simpa [Go.Sort.ltInt] using h1
    have h3 : d'[i]! ≠ d'[j]! := by
      rw [← hget i hi, ← hget j hj]
      intro e
      have := (List.getElem_inj hnd).1 e
      omega
    omega
  · obtain ⟨hk1, hk2⟩ := List.getElem?_eq_some_iff.1 hk
    have h1 := (HR.out.holds k (by simpa using hk1)).1
    rw [Nat.zero_add] at h1
    rw [h1, ← hk2, hget k hk1]
  · exact ⟨HR.out.grown.os.trans HB.out.os, HR.out.grown.tape.trans HB.out.tape, HR.out.grown.output.trans HB.out.output, Nat.le_trans HB.out.size HR.out.grown.size, fun b hb => (HR.out.grown.block b (Nat.lt_of_lt_of_le hb HB.out.size) (fun e => by injection e with e; omega)).trans (HB.out.block b hb)⟩
theorem u_keys (mb : Option Nat) (w : World) : Calls Tryz.prog 70 #[.map mb] w fun e w' => e = .returned (.func (.func 114) #[] #[.pointer (some ⟨w.heap.size, 0, none⟩)]) ∧ w' = w.alloc (.cells #[.map mb] 66) := by
  go_enter Tryz.func70, Tryz.ntmps70
  go_wp2
  go_ret
  exact ⟨rfl, rfl⟩
section
variable {F : Nat → Prop} {P N : Nat} {y : Lay} {t : PT}
/-- All: the inodes that are there, rising. -/
def AllP (t : PT) (w : World) (e : Ending) (w' : World) : Prop :=
  ∃ (B c : Nat) (l : List Int), e = .returned (.slice (some ⟨B, 0, none⟩) l.length c) ∧ l.Pairwise (· < ·) ∧ (∀ i, i ∈ l ↔ (t.n i).isSome = true) ∧ RowAt w' B l ∧ w.heap.size ≤ B ∧ Below w.heap.size w w'
theorem t_allP (w : World) (h : TreeM w F P N y t) (hN : N ≤ 60000) (hne : ∃ i, (t.n i).isSome = true) :
    Calls Tryz.prog 21 #[.pointer (some ⟨P, 0, none⟩)] w (AllP t w) := by
  have c1 := h.c1
  have hB : Below w.heap.size w (w.alloc (.cells #[.map (some y.M)] 66)) := u_alloc1 w _
  have hM : MapAt (w.alloc (.cells #[.map (some y.M)] 66)) Tryz.prog 23 y.M N (nodesM t.n y.f) := h.nodes.below hB
  have hsome : ∀ i, (nodesM t.n y.f (.int .u32 i)).isSome = (t.n i).isSome := fun i => by
    show ((t.n i).map _).isSome = _
    cases t.n i <;> rfl
  have HS := Lib.hid (u_sorted 114 #[.pointer (some ⟨w.heap.size, 0, none⟩)] (enters_of Tryz.func114 (by kernel_rfl) rfl) (nodesM t.n y.f) N hN (by obtain ⟨i, hi⟩ := hne; exact ⟨i, by rw [hsome]; exact hi⟩) (w.alloc (.cells #[.map (some y.M)] 66))
    (keys_stops w.heap.size y.M N _ _ (by simp) (box_new w _ _) hM))
  have HB := Lib.hid hB
  have HSM := Lib.hid hsome
  have HKY := Lib.hid (fun (mb : Option Nat) (w : World) => u_keys mb w)
  clear h hne hM hsome hB
  go_enter Tryz.func21, Tryz.ntmps21
  go_wp2_with (first
    | (go_at_call 70; refine (HKY.out _ _).mono ?_; rintro e w' ⟨rfl, rfl⟩)
    | (go_at_call 69; (with_reducible refine HS.out.mono ?_); rintro e w2 ⟨B, c, l, rfl, h1, h2, h3, h4, h5⟩; have H := Lib.hid h1; have H2 := Lib.hid h2; have H3 := Lib.hid h3; have H5 := Lib.hid h5; clear h1 h2 h3 h5))
  go_ret
  exact ⟨B, c, l, rfl, H.out, fun i => by rw [H2.out, HSM.out], H3.out, by simp at h4; omega, ptrans HB.out H5.out⟩
end
end Go.Proofs.YtpcjbfhgmcioaaaGreat
