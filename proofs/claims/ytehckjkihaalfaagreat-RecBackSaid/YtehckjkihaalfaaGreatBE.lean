/- Numbers and texts as bytes, walked. -/
import Derived.Test.YtehckjkihaalfaaGreatBC
import Derived.Laws.BytesString
import Derived.OwnWalk
import Derived.Laws.Bits64b
import Derived.Laws.OwnMore
import Derived.Deep.DeepCutAuto
import Derived.Deep.CutBlock
namespace Go.Proofs.YtehckjkihaalfaaGreat
open Go.RowKit Go.Maps

def byteV (c : UInt8) : Value := .int .u8 (c.toNat : Int)
theorem push_all (l : List UInt8) : ∀ s : ByteArray, (l.map fun c : UInt8 => (c.toNat : Int)).foldl (fun r n => r.push (UInt8.ofNat n.toNat)) s = ⟨(s.data.toList ++ l).toArray⟩ := by
  induction l with
  | nil => intro s; simp
  | cons c l ih =>
    intro s
    simp only [List.map_cons, List.foldl_cons, ih]
    congr 1
    simp [ByteArray.push]
/-- A block of bytes. -/
abbrev bytesO (l : List UInt8) : Obj := .cells (l.map byteV).toArray 5
def BytesAt (w : World) (B : Nat) (l : List UInt8) : Prop := w.heap[B]? = some (.cells (l.map byteV).toArray 5 (0, 0))
section
variable {w : World} {B : Nat} {l : List UInt8}
theorem BytesAt.cell (h : BytesAt w B l) {k : Nat} (hk : k < l.length) : w.cell? ⟨B, k, none⟩ = some (byteV l[k]) := by
  unfold BytesAt at h
  simp only [World.cell?, h]
  simp [hk]
theorem BytesAt.froz (h : BytesAt w B l) (k : Nat) : w.frozen? ⟨B, k, none⟩ = false := by
  unfold BytesAt at h
  simp [World.frozen?, h]
theorem BytesAt.set (h : BytesAt w B l) {k : Nat} (hk : k < l.length) (c : UInt8) : BytesAt (w.setCell ⟨B, k, none⟩ (byteV c)) B (l.set k c) := by
  unfold BytesAt at *
  rw [pheap_set w B k (byteV c) _ _ h]
  congr 2
  simp [List.map_set]
set_option maxRecDepth 100000 in
/-- make([]byte, n) -/
theorem bytes_make (n : Nat) (hn : n ≤ 65536) (w : World) : (Instr.makeSlice 114 (.int .i64 (n : Int)) (.int .i64 (n : Int))).run Tryz.prog w = .ok (.slice (some ⟨w.heap.size, 0, none⟩) n n) (w.alloc (bytesO (List.replicate n 0))) := by
  obtain ⟨i, hi, hz, hs, hb⟩ : ∃ i, Tryz.prog.info? 5 = some i ∧ i.zero = some (.int .u8 0) ∧ i.size = 1 ∧ i.bytes = 1 := by
    have : (Tryz.prog.info? 5).map (fun i => (i.zero, i.size, i.bytes)) = some (some (.int .u8 0), 1, 1) := by kernel_rfl
    obtain ⟨i, hi, he⟩ := Option.map_eq_some_iff.1 this
    simp only [Prod.mk.injEq] at he
    exact ⟨i, hi, he.1, he.2.1, he.2.2⟩
  have hr := run_make (P := Tryz.prog) w 114 5 i _ Tryz.underlying114 hi hz .i64 .i64 (n : Int) (n : Int) (by omega) (by omega) (by rw [hb]; omega) (by omega)
  rw [hr, hs]
  have hl : madeCells (Value.int IntKind.u8 0).cells ((n : Int).toNat * 1) = ((List.replicate n (0 : UInt8)).map byteV).toArray := by
    rw [← Array.toArray_toList (xs := madeCells _ _)]
    congr 1
    rw [List.map_replicate, Nat.mul_one]
    exact toList_madeCells_one (.int .u8 0) n
  rw [hl]
  rfl
/-- string(b) -/
theorem BytesAt.text (h : BytesAt w B l) (n c : Nat) (hn : l.length = n) :
    (convert 114 9 (.slice (some ⟨B, 0, none⟩) n c)).run Tryz.prog w = .ok (.string ⟨l.toArray⟩) w := by
  subst hn
  rw [run_convert_bytes_string w _ _ _ _ _ _ Tryz.underlying114 Tryz.underlying5 Tryz.underlying9]
  have hl : (loadCells ⟨B, 0, none⟩ l.length).run Tryz.prog w = .ok ((l.map fun c : UInt8 => (c.toNat : Int)).map (Value.int .u8)).toArray w := by
    have := run_loadCells_list (P := Tryz.prog) w ⟨B, 0, none⟩ (l.map byteV) (fun j v hv => by
      rw [Addr.add_mid, Nat.zero_add]
      rw [List.getElem?_map] at hv
      obtain ⟨x, hx, rfl⟩ := Option.map_eq_some_iff.1 hv
      obtain ⟨h1, rfl⟩ := List.getElem?_eq_some_iff.1 hx
      exact h.cell h1)
    rw [List.length_map] at this
    rw [List.map_map]
    exact this
  rw [run_bytesToString w _ _ _ _ hl, push_all]
  rfl
end
theorem leB_get : ∀ (n k v : Nat) (h : k < (leB v n).length), (leB v n)[k] = UInt8.ofNat (v / 256 ^ k)
  | 0, _, _, h => absurd h (by simp [leB])
  | n + 1, 0, v, _ => by simp [leB]
  | n + 1, k + 1, v, h => by
    show (leB (v / 256) n)[k]'(by simpa [leB] using h) = _
    rw [leB_get n k, Nat.pow_succ, Nat.div_div_eq_div_mul, Nat.mul_comm]
/-- k bytes of a number, and noughts. -/
def numTo (v n k : Nat) : List UInt8 := (leB v n).take k ++ List.replicate (n - k) 0
theorem numTo_len (v n k : Nat) (hk : k ≤ n) : (numTo v n k).length = n := by
  unfold numTo
  rw [List.length_append, List.length_take, List.length_replicate, leB_len]
  omega
theorem numTo_zero (v n : Nat) : numTo v n 0 = List.replicate n 0 := by simp [numTo]
theorem numTo_all (v n : Nat) : numTo v n n = leB v n := by
  unfold numTo
  rw [Nat.sub_self, List.replicate_zero, List.append_nil, List.take_of_length_le (by rw [leB_len]; exact Nat.le_refl _)]
theorem numTo_set (v n k : Nat) (hk : k < n) : (numTo v n k).set k (UInt8.ofNat (v / 256 ^ k)) = numTo v n (k + 1) := by
  have hl : k < (leB v n).length := by rw [leB_len]; exact hk
  have hg := leB_get n k v hl
  unfold numTo
  obtain ⟨m, hm⟩ : ∃ m, n - k = m + 1 := ⟨n - k - 1, by omega⟩
  rw [hm, show n - (k + 1) = m by omega, List.replicate_succ, List.set_append_right _ _ (by rw [List.length_take]; omega), List.length_take, Nat.min_eq_left (by omega), Nat.sub_self, List.set_cons_zero, List.take_succ_eq_append_getElem hl, hg, List.append_assoc]
  rfl
theorem byteV_shr (v k : Nat) : byteV (UInt8.ofNat (v / 256 ^ k)) = .int .u8 ((v : Int) / 2 ^ (8 * k) % 256) := by
  have e : (256 : Nat) ^ k = 2 ^ (8 * k) := by rw [Nat.pow_mul]
  unfold byteV
  rw [UInt8.toNat_ofNat', e]
  have e2 : (((v / 2 ^ (8 * k) % 2 ^ 8 : Nat)) : Int) = (v : Int) / ((2 ^ (8 * k) : Nat) : Int) % 256 := by
    rw [Int.natCast_emod, Int.natCast_ediv]; rfl
  rw [e2, Int.natCast_pow]
  rfl
set_option maxRecDepth 100000 in
set_option maxHeartbeats 2000000 in
theorem t_onum (v n : Nat) (hv : v < 256 ^ n) (hn : n ≤ 8) (hs : (n < 8 → v / 2 ^ (8 * n) = 0)) (w : World) :
    Calls Tryz.prog 112 #[.int .u64 (v : Int), .int .i64 (n : Int)] w fun e w' => e = .returned (.tuple #[.string ⟨(leB v n).toArray⟩, .int .i64 0]) ∧ Below w.heap.size w w' := by
  have hmk := bytes_make n (by omega)
  go_enter Tryz.func112, Tryz.ntmps112
  have hx : n < 8 → ((v : Int) / 2 ^ (8 * n) != 0) = false := fun h => by
    have := hs h
    have e : ((v : Int) / 2 ^ (8 * n)) = ((v / 2 ^ (8 * n) : Nat) : Int) := by push_cast; rfl
    rw [e, this]; rfl
  have h88 : n = 8 ∨ n < 8 := by omega
  have hcase : (¬ (n : Int) < 8) ∨ ((n : Int) < 8 ∧ ((v : Int) / 2 ^ (8 * n) != 0) = false) := by
    rcases h88 with h | h
    · left; omega
    · right; exact ⟨by omega, hx h⟩
  clear hx hs h88
  rcases hcase with hc | ⟨hc, hx8⟩
  all_goals
    go_wp2
    have hb0 : BytesAt (w.alloc (bytesO (List.replicate n 0))) w.heap.size (numTo v n 0) := by rw [numTo_zero]; exact heap_alloc_new _ _
    have hB0 := (Below.refl w.heap.size w).alloc (Nat.le_refl _) (bytesO (List.replicate n 0))
    generalize w.alloc (bytesO (List.replicate n 0)) = w1 at hb0 hB0
    have HB := Lib.hid hb0
    have HB0 := Lib.hid hB0
    clear hb0 hB0
    go_loopw [28] (fun x wr => ∃ k : Nat, x = .int .i64 (k : Int) ∧ k ≤ n ∧ Hid (BytesAt wr w.heap.size (numTo v n k)) ∧ Hid (Below w.heap.size w wr)) (fun x _ => n - (intOf x).toNat)
    case atStart => exact ⟨0, rfl, Nat.zero_le _, HB, HB0⟩
    case round =>
      obtain ⟨k, rfl, hk, HR, HBL⟩ := hrel
      by_cases he : k = n
      · have htx := HR.out.text n n (numTo_len v n k hk)
        rw [he, numTo_all] at htx
        go_wp2
        go_ret2
        exact ⟨rfl, HBL.out⟩
      · have hk2 : k < n := by omega
        have hc1 := HR.out.cell (k := k) (by rw [numTo_len v n k hk]; exact hk2)
        have hf1 := HR.out.froz k
        go_wp2
        have hbs := HR.out.set (k := k) (by rw [numTo_len v n k hk]; exact hk2) (UInt8.ofNat (v / 256 ^ k))
        rw [numTo_set v n k hk2, byteV_shr] at hbs
        refine ⟨⟨k + 1, rfl, hk2, Lib.hid hbs, Lib.hid (below_grown HBL.out (pgrown_set wr w.heap.size k _) (Nat.le_refl _))⟩, ?_⟩
        simp only [intOf]
        omega
set_option maxRecDepth 100000 in
theorem t_rnum (v n : Nat) (hv : v < 256 ^ n) (hn : n ≤ 8) (w : World) :
    Calls Tryz.prog 74 #[.int .u64 (v : Int), .int .i64 (n : Int)] w fun e w' => e = .returned (.string ⟨(leB v n).toArray⟩) ∧ Below w.heap.size w w' := by
  have hs : n < 8 → v / 2 ^ (8 * n) = 0 := fun _ => Nat.div_eq_of_lt (by rw [Nat.pow_mul]; exact hv)
  have HS := Lib.hid hs
  clear hs
  go_enter Tryz.func74, Tryz.ntmps74
  go_wp2_with (go_at_call 112; (with_reducible refine (t_onum v n hv hn HS.out _).mono ?_); rintro e w' ⟨rfl, hb⟩; have HB := Lib.hid hb; clear hb)
  go_ret
  exact ⟨rfl, HB.out⟩
theorem leB_one (v : Nat) : leB v 1 = [UInt8.ofNat v] := rfl
set_option maxRecDepth 100000 in
theorem t_otext (s : ByteArray) (hs : s.size ≤ 255) (w : World) :
    Calls Tryz.prog 113 #[.string s] w fun e w' => e = .returned (.tuple #[.string ⟨(leB s.size 1 ++ s.data.toList).toArray⟩, .int .i64 0]) ∧ Below w.heap.size w w' := by
  have h2 : ¬ (255 : Int) < s.size := by omega
  have htx : ∀ w : World, (convert 114 9 (.slice (some ⟨w.heap.size, 0, none⟩) 1 1)).run Tryz.prog (w.alloc (.cells #[.int .u8 (s.size : Int)] 5)) = .ok (.string ⟨(leB s.size 1).toArray⟩) (w.alloc (.cells #[.int .u8 (s.size : Int)] 5)) := fun w => by
    refine BytesAt.text (B := w.heap.size) (l := leB s.size 1) ?_ 1 1 rfl
    unfold BytesAt
    rw [heap_alloc_new, leB_one]
    have : byteV (UInt8.ofNat s.size) = .int .u8 (s.size : Int) := by
      unfold byteV
      rw [UInt8.toNat_ofNat', Nat.mod_eq_of_lt (by omega)]
    simp [this]
  have hq : ¬ 9223372036854775807 < (leB s.size 1).length + s.size := by rw [leB_len]; omega
  go_enter Tryz.func113, Tryz.ntmps113
  go_wp2
  go_ret2
  refine ⟨?_, (Below.refl _ _).alloc (Nat.le_refl _) _⟩
  have e : (⟨(leB s.size 1).toArray⟩ : ByteArray) ++ s = ⟨(leB s.size 1 ++ s.data.toList).toArray⟩ := by
    apply ByteArray.ext
    rw [ByteArray.data_append]
    apply Array.ext'
    simp
  rw [← e]
  rfl
set_option maxRecDepth 100000 in
theorem t_rtext (s : ByteArray) (hs : s.size ≤ 255) (w : World) :
    Calls Tryz.prog 75 #[.string s] w fun e w' => e = .returned (.string ⟨(leB s.size 1 ++ s.data.toList).toArray⟩) ∧ Below w.heap.size w w' := by
  go_enter Tryz.func75, Tryz.ntmps75
  go_wp2_with (go_at_call 113; (with_reducible refine (t_otext s hs _).mono ?_); rintro e w' ⟨rfl, hb⟩; have HB := Lib.hid hb; clear hb)
  go_ret
  exact ⟨rfl, HB.out⟩
theorem leN_snoc : ∀ (l : List UInt8) (b : UInt8), leN (l ++ [b]) = leN l + 256 ^ l.length * b.toNat
  | [], b => by simp [leN]
  | c :: l, b => by
    show c.toNat + 256 * leN (l ++ [b]) = c.toNat + 256 * leN l + 256 ^ (l.length + 1) * b.toNat
    rw [leN_snoc l b, Nat.pow_succ, Nat.mul_add, ← Nat.add_assoc]
    congr 1
    rw [← Nat.mul_assoc, Nat.mul_comm 256]
theorem get_or (s : ByteArray) (k : Nat) (hk : k < s.size) (h8 : k < 8) :
    bits BinOp.or IntKind.u64 (leN (s.data.toList.take k) : Int) (IntKind.u64.wrap (IntKind.u64.wrap (s[k].toNat : Int) * 2 ^ (8 * k))) = (leN (s.data.toList.take (k + 1)) : Int) := by
  have hl : k < s.data.toList.length := by rw [← Lib.size_eq]; exact hk
  have hb := s[k].toNat_lt
  have hg : s.data.toList[k] = s[k] := rfl
  have e1 : IntKind.u64.wrap (s[k].toNat : Int) = (s[k].toNat : Int) := by rw [IntKind.wrap_u64]; omega
  have hp : (2 : Nat) ^ (8 * k) * 256 ≤ 18446744073709551616 := by
    have : (2 : Nat) ^ (8 * k) * 256 = 2 ^ (8 * k + 8) := by rw [Nat.pow_add]
    rw [this]
    exact Nat.pow_le_pow_right (by omega) (by omega : 8 * k + 8 ≤ 64)
  have hlt : 2 ^ (8 * k) * s[k].toNat < 18446744073709551616 := Nat.lt_of_lt_of_le (Nat.mul_lt_mul_of_pos_left hb (Nat.pow_pos (by omega))) hp
  have e2 : IntKind.u64.wrap ((s[k].toNat : Int) * 2 ^ (8 * k)) = ((2 ^ (8 * k) * s[k].toNat : Nat) : Int) := by
    have : ((s[k].toNat : Int) * 2 ^ (8 * k)) = ((2 ^ (8 * k) * s[k].toNat : Nat) : Int) := by
      rw [Int.natCast_mul, Int.natCast_pow, Int.mul_comm]; rfl
    rw [this, IntKind.wrap_u64]
    omega
  have h1 := leN_lt (s.data.toList.take k)
  rw [List.length_take, Nat.min_eq_left (by omega)] at h1
  have e3 : (256 : Nat) ^ k = 2 ^ (8 * k) := by rw [Nat.pow_mul]
  rw [e3] at h1
  rw [e1, e2, bits_or_u64_nat _ _ (by omega) hlt, List.take_succ_eq_append_getElem hl, leN_snoc, List.length_take, Nat.min_eq_left (by omega), e3, hg]
  congr 1
  rw [Nat.or_comm, ← Nat.two_pow_add_eq_or_of_lt h1, Nat.add_comm]
set_option maxRecDepth 100000 in
set_option maxHeartbeats 2000000 in
theorem t_oget (s : ByteArray) (hs : s.size ≤ 8) (w : World) :
    Calls Tryz.prog 85 #[.string s] w fun e w' => e = .returned (.tuple #[.int .u64 (leN s.data.toList : Int), .int .i64 0]) ∧ Below w.heap.size w w' := by
  have h2 : ¬ (8 : Int) < s.size := by omega
  obtain ⟨n, hn⟩ : ∃ n, s.size = n := ⟨_, rfl⟩
  go_enter Tryz.func85, Tryz.ntmps85
  go_wp2
  have HN := Lib.hid hn
  clear hn
  go_loopw [2, 10] (fun v x wr => ∃ k : Nat, x = .int .i64 (k : Int) ∧ k ≤ n ∧ v = .int .u64 (leN (s.data.toList.take k) : Int) ∧ w = wr) (fun _ x _ => n - (intOf x).toNat)
  case atStart => exact ⟨0, rfl, Nat.zero_le _, by simp [leN], rfl⟩
  case round =>
    obtain ⟨k, rfl, hk, rfl, rfl⟩ := hrel
    by_cases he : k = n
    · have hf : leN (s.data.toList.take k) = leN s.data.toList := by rw [List.take_of_length_le]; rw [← Lib.size_eq, HN.out]; omega
      rw [hf]
      go_wp2
      go_ret2
      exact ⟨rfl, Below.refl _ _⟩
    · have hk2 : k < n := by omega
      have hk3 : k < s.size := by rw [HN.out]; exact hk2
      go_wp2
      refine ⟨⟨k + 1, rfl, hk2, ?_, trivial⟩, ?_⟩
      · rw [get_or s k hk3 (by omega)]
      · simp only [intOf]
        omega
theorem extract_take (s : ByteArray) (n : Nat) : s.extract 0 n = ⟨(s.data.toList.take n).toArray⟩ := by
  apply ByteArray.ext
  rw [ByteArray.data_extract]
  apply Array.ext'
  rw [Array.toList_extract]
  simp [List.extract]
theorem extract_drop (s : ByteArray) (n : Nat) : s.extract n s.size = ⟨(s.data.toList.drop n).toArray⟩ := by
  apply ByteArray.ext
  rw [ByteArray.data_extract]
  apply Array.ext'
  rw [Array.toList_extract]
  unfold List.extract
  exact List.take_of_length_le (by rw [List.length_drop, ← Lib.size_eq]; exact Nat.le_refl _)
set_option maxRecDepth 100000 in
theorem t_ocut (s : ByteArray) (n : Nat) (hs : s.size ≤ maxLen) (hn : n ≤ maxLen) (w : World) :
    Calls Tryz.prog 82 #[.string s, .int .i64 (n : Int)] w fun e w' => (e = if s.size < n then .returned (.tuple #[.string ⟨#[]⟩, .string ⟨#[]⟩, .int .i64 6]) else .returned (.tuple #[.string ⟨(s.data.toList.take n).toArray⟩, .string ⟨(s.data.toList.drop n).toArray⟩, .int .i64 0])) ∧ Below w.heap.size w w' := by
  have h0 : ¬ (n : Int) < 0 := by omega
  go_enter Tryz.func82, Tryz.ntmps82
  by_cases hc : s.size < n
  · have hc' : (s.size : Int) < n := by omega
    rw [if_pos hc]
    go_wp2
    go_ret3
    go_wp2
    go_ret3
    exact ⟨rfl, Below.refl _ _⟩
  · have hc' : ¬ (s.size : Int) < n := by omega
    rw [if_neg hc]
    go_wp2
    go_quiet (fail)
    have hB : Below w.heap.size w (w.drewN nq) := pbelow_drewN (Below.refl _ _) nq
    generalize w.drewN nq = w2 at hB
    have HB := Lib.hid hB
    clear hB
    go_wp2
    go_ret3
    refine ⟨?_, HB.out⟩
    rw [extract_take s n, extract_drop s n]
    rfl
end Go.Proofs.YtehckjkihaalfaaGreat
