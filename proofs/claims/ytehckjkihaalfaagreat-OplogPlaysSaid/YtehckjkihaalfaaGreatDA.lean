/- Records as the document has them: which may be. -/
import Derived.Test.YtehckjkihaalfaaGreatB0
namespace Go.Proofs.YtehckjkihaalfaaGreat
open Go.RowKit

theorem ret_bool {a b : Bool} (h : a = b) : Ending.returned (.bool a) = .returned (.bool b) := by rw [h]
/-- May a text be a name? -/
def plainTo (s : ByteArray) (k : Nat) : Bool := (s.data.toList.take k).all fun c => c != 47 && c != 0
def nameB (s : ByteArray) : Bool := decide (1 ≤ s.size) && decide (s.size ≤ 27) && !(s.toList == [46]) && !(s.toList == [46, 46]) && plainTo s s.size
theorem plainTo_succ {s : ByteArray} {k : Nat} (hk : k < s.size) : plainTo s (k + 1) = (plainTo s k && (s[k] != 47 && s[k] != 0)) := by
  unfold plainTo
  rw [List.take_add_one, List.getElem?_eq_getElem (by simpa using hk), List.all_append]
  simp; rfl
theorem plainTo_bad {s : ByteArray} : ∀ {k m : Nat}, k ≤ m → plainTo s k = false → plainTo s m = false := by
  intro k m hkm h
  unfold plainTo at *
  rw [List.all_eq_false] at *
  obtain ⟨x, hx, hp⟩ := h
  exact ⟨x, List.take_subset_take_left _ hkm hx, hp⟩
theorem byte_eq (c : UInt8) (n : Nat) (hn : n < 256) : ((c.toNat : Int) == (n : Int)) = (c == UInt8.ofNat n) := by
  rw [Bool.eq_iff_iff, beq_iff_eq, beq_iff_eq]
  constructor
  · intro h
    apply UInt8.toNat_inj.1
    rw [UInt8.toNat_ofNat_of_lt' (by simpa using hn)]
    omega
  · intro h
    subst h
    rw [UInt8.toNat_ofNat_of_lt' (by simpa using hn)]
set_option maxHeartbeats 4000000 in
theorem t_name (s : ByteArray) (b : Bool) (hb : nameB s = b) (w : World) (hs : s.size ≤ maxLen) :
    Calls Tryz.prog 101 #[.string s] w fun e w' => e = .returned (.bool b) ∧ w = w' := by
  unfold maxLen at hs
  have HB := Lib.hid hb
  clear hb
  by_cases h1 : 1 ≤ s.size
  · by_cases h2 : s.size ≤ 27
    · by_cases h3 : (s.toList == [46]) = true
      · have HF : Hid (false = b) := by show _ = _; rw [← HB.out]; unfold nameB; simp [h3]
        go_enter Tryz.func101, Tryz.ntmps101
        go_wp2
        go_ret
        exact ⟨ret_bool HF.out, rfl⟩
      · have h3' : (s.toList == [46]) = false := by simpa using h3
        clear h3
        by_cases h4 : (s.toList == [46, 46]) = true
        · have HF : Hid (false = b) := by show _ = _; rw [← HB.out]; unfold nameB; simp [h4]
          go_enter Tryz.func101, Tryz.ntmps101
          go_wp2
          go_ret
          exact ⟨ret_bool HF.out, rfl⟩
        · have h4' : (s.toList == [46, 46]) = false := by simpa using h4
          have HP : Hid (plainTo s s.size = b) := by show _ = _; rw [← HB.out]; unfold nameB; rw [h3', h4']; simp [h1, h2]
          clear h4
          go_enter Tryz.func101, Tryz.ntmps101
          go_wp2
          go_loop [3] (fun i => ∃ k : Nat, k ≤ s.size ∧ i = .int .i64 k ∧ Hid (plainTo s k = true)) (fun i => s.size + 1 - (intOf i).toNat)
          case atStart => exact ⟨0, by omega, rfl, rfl⟩
          case round =>
            obtain ⟨k, hk, rfl, hp⟩ := hrel
            by_cases hkn : k < s.size
            · have hsu := plainTo_succ hkn
              have e47 := byte_eq s[k] 47 (by omega)
              have e0 := byte_eq s[k] 0 (by omega)
              by_cases hq : (s[k] == 47) = true
              · have q1 : ((s[k].toNat : Int) == 47) = true := e47.trans hq
                have HF : Hid (false = b) := by
                  show _ = _
                  rw [← HP.out, plainTo_bad (k := k + 1) (by omega) (by rw [hsu, hp.out]; simp [bne, hq])]
                clear e47 e0 hq hsu
                go_wp2
                go_ret
                exact ⟨ret_bool HF.out, rfl⟩
              · have q1 : ((s[k].toNat : Int) == 47) = false := e47.trans (by simpa using hq)
                by_cases hz : (s[k] == 0) = true
                · have q2 : ((s[k].toNat : Int) == 0) = true := e0.trans hz
                  have HF : Hid (false = b) := by
                    show _ = _
                    rw [← HP.out, plainTo_bad (k := k + 1) (by omega) (by rw [hsu, hp.out]; simp [bne, hz])]
                  clear e47 e0 hq hz hsu
                  go_wp2
                  go_ret
                  exact ⟨ret_bool HF.out, rfl⟩
                · have q2 : ((s[k].toNat : Int) == 0) = false := e0.trans (by simpa using hz)
                  have HQ : Hid (plainTo s (k + 1) = true) := by
                    show _ = _
                    rw [hsu, hp.out]
                    have a1 : (s[k] == 47) = false := by simpa using hq
                    have a2 : (s[k] == 0) = false := by simpa using hz
                    simp [bne, a1, a2]
                  clear e47 e0 hq hz hsu
                  go_wp2
                  go_round
                  case rel => exact ⟨k + 1, by omega, by go_num, HQ⟩
                  case measure => simp [intOf]; omega
            · have HF : Hid (true = b) := by
                show _ = _
                rw [← HP.out, show s.size = k by omega]; exact hp.out.symm
              go_wp2
              go_ret
              exact ⟨ret_bool HF.out, rfl⟩
    · have HF : Hid (false = b) := by show _ = _; rw [← HB.out]; unfold nameB; simp [h2]
      go_enter Tryz.func101, Tryz.ntmps101
      go_wp2
      go_ret
      exact ⟨ret_bool HF.out, rfl⟩
  · have HF : Hid (false = b) := by show _ = _; rw [← HB.out]; unfold nameB; simp [h1]
    go_enter Tryz.func101, Tryz.ntmps101
    go_wp2
    go_ret
    exact ⟨ret_bool HF.out, rfl⟩

def needsA (d : Int) : Array Value :=
  if d = 1 ∨ d = 3 then #[.bool true, .bool true, .bool false, .bool false, .bool false]
  else if d = 2 then #[.bool true, .bool false, .bool false, .bool false, .bool false]
  else if d = 4 then #[.bool true, .bool true, .bool true, .bool false, .bool false]
  else if d = 5 then #[.bool false, .bool false, .bool false, .bool true, .bool false]
  else if d = 6 then #[.bool false, .bool false, .bool false, .bool true, .bool true]
  else #[.bool false, .bool false, .bool false, .bool false, .bool false]
set_option maxHeartbeats 2000000 in
theorem t_of_lit (d : Int) (hd : d = 1 ∨ d = 2 ∨ d = 3 ∨ d = 4 ∨ d = 5 ∨ d = 6 ∨ d = 7) (w : World) : Calls Tryz.prog 99 #[.int .u8 d] w fun e w' => e = .returned (.agg (needsA d)) ∧ w.alloc (.cells (needsA d) 151) = w' := by
  rcases hd with rfl | rfl | rfl | rfl | rfl | rfl | rfl
  all_goals
    go_enter Tryz.func99, Tryz.ntmps99
    go_wp2
    exact bodyPost_ret (by simp [results, Tryz.f99, go_sem]; rfl) rfl ⟨rfl, rfl⟩
theorem t_of_other (d : Int) (h1 : d ≠ 1) (h2 : d ≠ 2) (h3 : d ≠ 3) (h4 : d ≠ 4) (h5 : d ≠ 5) (h6 : d ≠ 6) (w : World) : Calls Tryz.prog 99 #[.int .u8 d] w fun e w' => e = .returned (.agg #[.bool false, .bool false, .bool false, .bool false, .bool false]) ∧ w.alloc (.cells #[.bool false, .bool false, .bool false, .bool false, .bool false] 151) = w' := by
  have b1 : (d == 1) = false := by simpa using h1
  have b2 : (d == 2) = false := by simpa using h2
  have b3 : (d == 3) = false := by simpa using h3
  have b4 : (d == 4) = false := by simpa using h4
  have b5 : (d == 5) = false := by simpa using h5
  have b6 : (d == 6) = false := by simpa using h6
  clear h1 h2 h3 h4 h5 h6
  go_enter Tryz.func99, Tryz.ntmps99
  go_wp2
  exact bodyPost_ret (v := .agg #[.bool false, .bool false, .bool false, .bool false, .bool false]) (by simp [results, Tryz.f99, go_sem]) rfl ⟨rfl, rfl⟩

def rinoB (v : Int) : Bool := decide (1 ≤ v) && decide (v ≤ 256)
set_option maxHeartbeats 2000000 in
theorem t_rino (v : Int) (b : Bool) (hb : rinoB v = b) (w : World) : Calls Tryz.prog 100 #[.int .u32 v] w fun e w' => e = .returned (.bool b) ∧ w = w' := by
  have HB := Lib.hid hb
  clear hb
  by_cases h1 : 1 ≤ v
  · go_enter Tryz.func100, Tryz.ntmps100
    go_wp2
    go_ret
    exact ⟨ret_bool (by rw [← HB.out]; unfold rinoB; simp [h1]), rfl⟩
  · go_enter Tryz.func100, Tryz.ntmps100
    go_wp2
    go_ret
    exact ⟨ret_bool (by rw [← HB.out]; unfold rinoB; simp; omega), rfl⟩

/-- May a record be? -/
def mayB (r : R) : Bool :=
  decide (1 ≤ r.act) && decide (r.act ≤ 7) && rinoB r.ino
  && (if r.act = 1 ∨ r.act = 2 ∨ r.act = 3 ∨ r.act = 4 then rinoB r.dir && nameB r.name else r.dir == 0 && r.name.toList.isEmpty)
  && (if r.act = 1 ∨ r.act = 3 ∨ r.act = 4 then r.kind == 1 || r.kind == 2 else r.kind == 0)
  && (if r.act = 4 then rinoB r.dir2 && nameB r.name2 && decide (r.old ≤ 256) else r.dir2 == 0 && r.name2.toList.isEmpty && r.old == 0)
  && (if r.act = 5 ∨ r.act = 6 then decide (r.size ≤ 2304) else r.size == 0)
  && (if r.act = 6 then decide (0 ≤ r.page) && decide (r.page < 36) && r.data.size == 64 else r.page == 0 && r.data.toList.isEmpty)
end Go.Proofs.YtehckjkihaalfaaGreat
