/- Names: path.Name, walked through strings.ContainsFunc. -/
import Derived.Test.YtpcjbfhgmcioaaaGreatRA
import Derived.Lib.TrimU
import Derived.Lib.OthersKept
import Derived.Deep.LoopGhost
import Derived.LoopTactic
import Derived.BigQuiet
import Derived.Laws.RangeAny
namespace Go.Proofs.YtpcjbfhgmcioaaaGreat
open Go.RowKit

theorem pret_bool {a b : Bool} (h : a = b) : Ending.returned (.bool a) = .returned (.bool b) := by rw [h]
theorem pret_i64 {a b : Int} (h : a = b) : Ending.returned (.int .i64 a) = .returned (.int .i64 b) := by rw [h]
theorem pbelow_drew {B : Nat} {a w : World} (h : Below B a w) : Below B a w.drew := ⟨h.os, h.tape, h.output, h.size, h.block⟩

/-- No byte ahead of a place is a stroke, or 0. -/
def pplainTo (s : ByteArray) (k : Nat) : Bool := (s.data.toList.take k).all fun c => c != 47 && c != 0
def pnameB (s : ByteArray) : Bool := decide (1 ≤ s.size) && decide (s.size ≤ 27) && !(s.toList == [46]) && !(s.toList == [46, 46]) && pplainTo s s.size
theorem pplainTo_bad {s : ByteArray} {k m : Nat} (hkm : k ≤ m) (h : pplainTo s k = false) : pplainTo s m = false := by
  unfold pplainTo at *
  rw [List.all_eq_false] at *
  obtain ⟨x, hx, hp⟩ := h
  exact ⟨x, List.take_subset_take_left _ hkm hx, hp⟩
theorem pplainTo_full {s : ByteArray} {k : Nat} (h : s.size ≤ k) : pplainTo s k = pplainTo s s.size := by
  unfold pplainTo
  rw [List.take_of_length_le (by simpa using h), List.take_of_length_le (by simp)]
theorem pplainTo_more {s : ByteArray} {p : Nat} (k : Nat) (h : pplainTo s p = true) (hh : ∀ j, p ≤ j → j < p + k → ∀ hj : j < s.size, ((s[j]'hj) != 47 && (s[j]'hj) != 0) = true) : pplainTo s (p + k) = true := by
  unfold pplainTo at *
  rw [List.all_eq_true] at *
  intro x hx
  obtain ⟨j, hj, rfl⟩ := List.getElem_of_mem hx
  have hj' : j < p + k ∧ j < s.size := by simp at hj; omega
  by_cases hjp : j < p
  · refine h _ ?_
    rw [List.getElem_take]
    refine List.mem_iff_getElem.2 ⟨j, by simp; omega, by simp⟩
  · have := hh j (by omega) hj'.1 hj'.2
    rw [List.getElem_take]
    exact this
theorem pplainTo_hit {s : ByteArray} {p : Nat} (hp : p < s.size) (hb : ((s[p]'hp) != 47 && (s[p]'hp) != 0) = false) : pplainTo s s.size = false := by
  refine pplainTo_bad (k := p + 1) (by omega) ?_
  unfold pplainTo
  rw [List.all_eq_false]
  exact ⟨s[p], List.mem_iff_getElem.2 ⟨p, by simp; omega, by simp; rfl⟩, by simpa using hb⟩
theorem pget! {s : ByteArray} {j : Nat} (hj : j < s.size) : s.get! j = s[j]'hj := by
  show s.data[j]! = s.data[j]
  exact getElem!_pos s.data j hj
/-- Of what is no ascii no byte is. -/
theorem decode_conts (s : ByteArray) (pos : Nat) (h : pos < s.size) (ha : 128 ≤ (s[pos]'h).toNat) : ∀ j, pos ≤ j → j < pos + (Utf8.decode s pos).2 → ∀ hj : j < s.size, 128 ≤ (s[j]'hj).toNat := by
  intro j h1 h2 hj
  by_cases hjp : j = pos
  · subst hjp; exact ha
  have e0 : (s.get! (pos + 0)).toNat = (s[pos]'h).toNat := by rw [pget! (by simpa using h)]; rfl
  have ha' : ¬ (s.get! (pos + 0)).toNat < 128 := by rw [e0]; omega
  have key : ∀ k, j = pos + k → (s.get! (pos + k)).toNat / 64 = 2 → 128 ≤ (s[j]'hj).toNat := by
    rintro k rfl hk
    rw [pget! hj] at hk
    omega
  unfold Utf8.decode at h2
  simp only [ha', if_false] at h2
  split at h2
  · rename_i hc
    simp only [Bool.and_eq_true, beq_iff_eq, decide_eq_true_eq] at hc
    have : j = pos + 1 := by split at h2 <;> simp only at h2 <;> omega
    exact key 1 this hc.2.2
  · split at h2
    · rename_i hc
      simp only [Bool.and_eq_true, beq_iff_eq, decide_eq_true_eq] at hc
      have : j = pos + 1 ∨ j = pos + 2 := by split at h2 <;> simp only at h2 <;> omega
      rcases this with e | e
      · exact key 1 e hc.1.2.2
      · exact key 2 e hc.2.2
    · split at h2
      · rename_i hc
        simp only [Bool.and_eq_true, beq_iff_eq, decide_eq_true_eq] at hc
        have : j = pos + 1 ∨ j = pos + 2 ∨ j = pos + 3 := by split at h2 <;> simp only at h2 <;> omega
        rcases this with e | e | e
        · exact key 1 e hc.1.1.2.2
        · exact key 2 e hc.1.2.2
        · exact key 3 e hc.2.2
      · simp only at h2; omega
/-- What a rune says of the bytes that it has. -/
theorem decode_bad (s : ByteArray) (pos : Nat) (h : pos < s.size) (hr : ((Utf8.decode s pos).1 : Int) = 47 ∨ ((Utf8.decode s pos).1 : Int) = 0) : pplainTo s s.size = false := by
  by_cases ha : (s[pos]'h).toNat < 128
  · rw [decode_ascii s pos h ha] at hr
    refine pplainTo_hit h ?_
    simp only at hr
    rcases hr with hr | hr
    · have : s[pos]'h = 47 := UInt8.toNat_inj.1 (by simp; omega)
      rw [this]; rfl
    · have : s[pos]'h = 0 := UInt8.toNat_inj.1 (by simp; omega)
      rw [this]; rfl
  · have := (decode_high s pos h (by omega)).1
    omega
theorem decode_good (s : ByteArray) (pos : Nat) (h : pos < s.size) (hr : ¬ ((Utf8.decode s pos).1 : Int) = 47) (hr' : ¬ ((Utf8.decode s pos).1 : Int) = 0) (hp : pplainTo s pos = true) : pplainTo s (pos + (Utf8.decode s pos).2) = true := by
  refine pplainTo_more _ hp fun j h1 h2 hj => ?_
  have big : 128 ≤ (s[j]'hj).toNat → ((s[j]'hj) != 47 && (s[j]'hj) != 0) = true := fun hb => by
    have a1 : s[j]'hj ≠ 47 := fun e => by rw [e] at hb; simp at hb
    have a2 : s[j]'hj ≠ 0 := fun e => by rw [e] at hb; simp at hb
    simp [bne_iff_ne, a1, a2]
  by_cases ha : (s[pos]'h).toNat < 128
  · rw [decode_ascii s pos h ha] at hr hr' h2
    have : j = pos := by simp only at h2; omega
    subst this
    simp only at hr hr'
    have a1 : s[j]'hj ≠ 47 := fun e => hr (by rw [e]; rfl)
    have a2 : s[j]'hj ≠ 0 := fun e => hr' (by rw [e]; rfl)
    simp [bne_iff_ne, a1, a2]
  · exact big (decode_conts s pos h (by omega) j h1 h2 hj)

theorem t_bad (r : Int) (b : Bool) (hb : (r == 47 || r == 0) = b) (w : World) :
    Calls Tryz.prog 119 #[.int .i32 r] w fun e w' => e = .returned (.bool b) ∧ w = w' := by
  cases h1 : (r == 47) with
  | true =>
    have HB : Hid (true = b) := by show _ = _; rw [← hb, h1]; rfl
    clear hb
    go_enter Tryz.func119, Tryz.ntmps119
    go_wp2
    go_ret
    exact ⟨pret_bool HB.out, rfl⟩
  | false =>
    have HB : Hid ((r == 0) = b) := by show _ = _; rw [← hb, h1]; rfl
    clear hb
    go_enter Tryz.func119, Tryz.ntmps119
    go_wp2
    go_ret
    exact ⟨pret_bool HB.out, rfl⟩

/-- Where the first one is, if there is one. -/
def HitI (s : ByteArray) (e : Ending) : Prop := ∃ n : Int, e = .returned (.int .i64 n) ∧ decide (0 ≤ n) = !pplainTo s s.size
set_option maxHeartbeats 2000000 in
set_option maxRecDepth 1000000 in
theorem t_indexFunc (s : ByteArray) (w : World) (_hs : s.size ≤ maxLen) :
    Calls Tryz.prog 151 #[.string s, .func (.func 119) #[] #[], .bool true] w fun e w' => HitI s e ∧ Below w.heap.size w w' := by
  unfold maxLen at _hs
  go_enter Tryz.func151, Tryz.ntmps151
  go_wp2
  go_loopg [] s.size (fun gf wx => ∃ pos : Nat, wx.heap[w.heap.size]? = some (.stringIter s pos) ∧ Below w.heap.size w wx ∧ Hid (pplainTo s pos = true) ∧ s.size ≤ pos + gf)
  case atStart => exact ⟨0, World.iter_heap w s 0, (Below.refl _ w).alloc (Nat.le_refl _) _, by show _ = _; simp [pplainTo], by omega⟩
  case round =>
    obtain ⟨pos, hit, hbw, hpl, hfu⟩ := hrel
    by_cases hps : pos < s.size
    · obtain ⟨g', rfl⟩ : ∃ g', gk = g' + 1 := ⟨gk - 1, by omega⟩
      have hnx : ∀ ty, (Instr.next (.pointer (some ⟨w.heap.size, 0, none⟩)) true ty).run Tryz.prog wr = _ := fun ty => Lib.run_next_any_at wr w.heap.size s pos ty hit hps
      have hwd := Lib.width_pos s pos
      have HG := Lib.hid (decode_good s pos hps)
      have HBd := Lib.hid (decode_bad s pos hps)
      obtain ⟨R, hR⟩ : ∃ R, (Utf8.decode s pos).1 = R := ⟨_, rfl⟩
      obtain ⟨K, hK⟩ : ∃ K, (Utf8.decode s pos).2 = K := ⟨_, rfl⟩
      rw [hR, hK] at hnx
      rw [hK] at hwd
      rw [hR, hK] at HG
      rw [hR] at HBd
      have hit2 := Lib.iterAt_heap wr w.heap.size s pos (pos + K) hit
      have hbw2 := Lib.below_iterAt hbw (k := w.heap.size) (Nat.le_refl _) s (pos + K)
      obtain ⟨W, hWd⟩ : ∃ W, wr.iterAt w.heap.size s (pos + K) = W := ⟨_, rfl⟩
      rw [hWd] at hnx hit2 hbw2
      clear hR hK
      by_cases h1 : (R : Int) = 47 ∨ (R : Int) = 0
      · have cS := t_bad (R : Int) true (by rcases h1 with h | h <;> simp [h]) W
        have HX : Hid (pplainTo s s.size = false) := HBd.out h1
        have hpn : Hid (HitI s (.returned (.int .i64 (pos : Int)))) := ⟨_, rfl, by rw [HX.out]; simp⟩
        clear h1
        go_wp2_with (go_at_call 119; refine cS.mono ?_; rintro e W' ⟨rfl, rfl⟩)
        go_ret
        exact ⟨hpn.out, hbw2⟩
      · have h2 : ¬ (R : Int) = 47 := fun h => h1 (.inl h)
        have h3 : ¬ (R : Int) = 0 := fun h => h1 (.inr h)
        have HX : Hid (pplainTo s (pos + K) = true) := HG.out h2 h3 hpl.out
        have cS := t_bad (R : Int) false (by simp [h2]; omega) W
        clear h1 h2 h3
        go_wp2_with (go_at_call 119; refine cS.mono ?_; rintro e W' ⟨rfl, rfl⟩)
        go_roundg g'
        case measure => omega
        case rel => exact ⟨pos + K, hit2, hbw2, HX, by omega⟩
    · have hnx : ∀ ty, (Instr.next (.pointer (some ⟨w.heap.size, 0, none⟩)) true ty).run Tryz.prog wr = _ := fun ty => Lib.run_next_end_at wr w.heap.size s pos ty hit hps
      have HX : Hid (HitI s (.returned (.int .i64 (-1)))) := ⟨_, rfl, by rw [← pplainTo_full (k := pos) (by omega), hpl.out]; rfl⟩
      go_wp2
      go_ret
      exact ⟨HX.out, hbw⟩

theorem t_sIndexFunc (s : ByteArray) (w : World) (hs : s.size ≤ maxLen) :
    Calls Tryz.prog 136 #[.string s, .func (.func 119) #[] #[]] w fun e w' => HitI s e ∧ Below w.heap.size w w' := by
  go_enter Tryz.func136, Tryz.ntmps136
  go_wp2_with (go_at_call 151; refine (t_indexFunc s _ hs).mono ?_; rintro e w' ⟨⟨n, rfl, hn⟩, hb⟩; have HN : Hid (HitI s (.returned (.int .i64 n))) := ⟨n, rfl, hn⟩; clear hn)
  go_ret
  exact ⟨HN.out, hb⟩
theorem t_sContainsFunc (s : ByteArray) (b : Bool) (hpb : (!pplainTo s s.size) = b) (w : World) (hs : s.size ≤ maxLen) :
    Calls Tryz.prog 120 #[.string s, .func (.func 119) #[] #[]] w fun e w' => e = .returned (.bool b) ∧ Below w.heap.size w w' := by
  have HP := Lib.hid hpb
  clear hpb
  go_enter Tryz.func120, Tryz.ntmps120
  go_wp2_with (go_at_call 136; refine (t_sIndexFunc s _ hs).mono ?_; rintro e w' ⟨⟨n, rfl, hn⟩, hb⟩; have HN : Hid (decide (0 ≤ n) = b) := hn.trans HP.out; clear hn)
  go_ret
  exact ⟨pret_bool HN.out, hb⟩

theorem ptoList_length (s : ByteArray) : s.toList.length = s.size := by rw [ByteArray.toList_eq]; simp
/-- path.Name's answer. -/
def nameE (s : ByteArray) : Int := if pnameB s = true then 0 else 2
set_option maxHeartbeats 4000000 in
theorem t_pname (s : ByteArray) (r : Int) (hr : nameE s = r) (w : World) (hs : s.size ≤ maxLen) :
    Calls Tryz.prog 90 #[.string s] w fun e w' => e = .returned (.int .i64 r) ∧ Below w.heap.size w w' := by
  have hs' := hs
  unfold maxLen at hs'
  have HR := Lib.hid hr
  clear hr
  have bad : pnameB s = false → Hid (2 = r) := fun h => by show _ = _; rw [← HR.out]; unfold nameE; rw [h]; rfl
  by_cases h1 : 1 ≤ s.size
  · have e1 : (s.toList == []) = false := by
      rw [Bool.eq_false_iff]; intro h
      have : s.toList = [] := by simpa using h
      have : s.toList.length = 0 := by rw [this]; rfl
      rw [ptoList_length] at this
      omega
    by_cases h2 : s.size ≤ 27
    · cases h3 : (s.toList == [46]) with
      | true =>
        have HB := bad (by unfold pnameB; simp [h3])
        clear bad
        go_enter Tryz.func90, Tryz.ntmps90
        go_wp2
        go_ret
        exact ⟨pret_i64 HB.out, Below.refl _ _⟩
      | false =>
        cases h4 : (s.toList == [46, 46]) with
        | true =>
          have HB := bad (by unfold pnameB; simp [h4])
          clear bad
          go_enter Tryz.func90, Tryz.ntmps90
          go_wp2
          go_ret
          exact ⟨pret_i64 HB.out, Below.refl _ _⟩
        | false =>
          cases h5 : pplainTo s s.size with
          | false =>
            have HB := bad (by unfold pnameB; simp [h5])
            have HC := Lib.hid (show (!pplainTo s s.size) = true by rw [h5]; rfl)
            clear bad h5
            go_enter Tryz.func90, Tryz.ntmps90
            go_wp2_with (go_at_call 120; refine (t_sContainsFunc s _ HC.out _ hs).mono ?_; rintro e w' ⟨rfl, hb⟩)
            go_ret
            exact ⟨pret_i64 HB.out, hb⟩
          | true =>
            have HB : Hid (0 = r) := by show _ = _; rw [← HR.out]; unfold nameE pnameB; simp [h1, h2, h3, h4, h5]
            have HC := Lib.hid (show (!pplainTo s s.size) = false by rw [h5]; rfl)
            clear bad h5
            go_enter Tryz.func90, Tryz.ntmps90
            go_wp2_with (go_at_call 120; refine (t_sContainsFunc s _ HC.out _ hs).mono ?_; rintro e w' ⟨rfl, hb⟩)
            go_ret
            exact ⟨pret_i64 HB.out, hb⟩
    · have HB := bad (by unfold pnameB; simp [h2])
      clear bad
      go_enter Tryz.func90, Tryz.ntmps90
      go_wp2
      go_ret
      exact ⟨pret_i64 HB.out, Below.refl _ _⟩
  · have HB := bad (by unfold pnameB; simp [h1])
    have e1 : (s.toList == []) = true := by
      have : s.toList.length = 0 := by rw [ptoList_length]; omega
      rw [List.eq_nil_of_length_eq_zero this]; rfl
    clear bad
    go_enter Tryz.func90, Tryz.ntmps90
    go_wp2
    go_ret
    exact ⟨pret_i64 HB.out, Below.refl _ _⟩
end Go.Proofs.YtpcjbfhgmcioaaaGreat
