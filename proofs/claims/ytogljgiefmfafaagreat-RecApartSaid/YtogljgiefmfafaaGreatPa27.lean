/- Numbers and texts as bytes, walked. -/
import Derived.Test.YtogljgiefmfafaaGreatPa12
import Derived.Test.YtogljgiefmfafaaGreatPa14
import Derived.Test.YtogljgiefmfafaaGreatPa16
import Derived.Laws.BytesString
import Derived.OwnWalk
import Derived.Laws.Bits64b
import Derived.Laws.OwnMore
import Derived.Deep.DeepCutAuto
import Derived.Deep.CutBlock
import Derived.Test.YtogljgiefmfafaaGreatProg
import Derived.Shelf.Lays
import Derived.WalkKit
import Derived.Shelf.Strings.BuilderK
import Derived.Shelf.Strings.Repeat
namespace Go.Proofs.YtogljgiefmfafaaGreat
open Go.RowKit Go.Maps
def octV (c : UInt8) : Value := .int .u8 (c.toNat : Int)
theorem octs_all (l : List UInt8) : ∀ s : ByteArray, (l.map fun c : UInt8 => (c.toNat : Int)).foldl (fun r n => r.push (UInt8.ofNat n.toNat)) s = ⟨(s.data.toList ++ l).toArray⟩ := by
  induction l with
  | nil => intro s; simp
  | cons c l ih =>
    intro s
    simp only [List.map_cons, List.foldl_cons, ih]
    congr 1
    simp [ByteArray.push]
/-- A block of bytes. -/
abbrev bytesO (l : List UInt8) : Obj := .cells (l.map octV).toArray 5
def BytesAt (w : World) (B : Nat) (l : List UInt8) : Prop := w.heap[B]? = some (.cells (l.map octV).toArray 5 (0, 0))
section
variable {w : World} {B : Nat} {l : List UInt8}
theorem BytesAt.cell (h : BytesAt w B l) {k : Nat} (hk : k < l.length) : w.cell? ⟨B, k, none⟩ = some (octV l[k]) := by
  unfold BytesAt at h
  simp only [World.cell?, h]
  simp [hk]
theorem BytesAt.froz (h : BytesAt w B l) (k : Nat) : w.frozen? ⟨B, k, none⟩ = false := by
  unfold BytesAt at h
  simp [World.frozen?, h]
theorem BytesAt.set (h : BytesAt w B l) {k : Nat} (_hk : k < l.length) (c : UInt8) : BytesAt (w.setCell ⟨B, k, none⟩ (octV c)) B (l.set k c) := by
  unfold BytesAt at *
  rw [pheap_set w B k (octV c) _ _ h]
  congr 2
  simp [List.map_set]
set_option maxRecDepth 100000 in
/-- make([]byte, n) -/
theorem bytes_make (n : Nat) (hn : n ≤ 65536) (w : World) : (Instr.makeSlice 93 (.int .i64 (n : Int)) (.int .i64 (n : Int))).run Tryz.prog w = .ok (.slice (some ⟨w.heap.size, 0, none⟩) n n) (w.alloc (bytesO (List.replicate n 0))) := by
  obtain ⟨i, hi, hz, hs, hb⟩ : ∃ i, Tryz.prog.info? 5 = some i ∧ i.zero = some (.int .u8 0) ∧ i.size = 1 ∧ i.bytes = 1 := by
    have : (Tryz.prog.info? 5).map (fun i => (i.zero, i.size, i.bytes)) = some (some (.int .u8 0), 1, 1) := by kernel_rfl
    obtain ⟨i, hi, he⟩ := Option.map_eq_some_iff.1 this
    simp only [Prod.mk.injEq] at he
    exact ⟨i, hi, he.1, he.2.1, he.2.2⟩
  have hr := run_make (P := Tryz.prog) w 93 5 i _ Tryz.underlying93 hi hz .i64 .i64 (n : Int) (n : Int) (by omega) (by omega) (by rw [hb]; omega) (by omega)
  rw [hr, hs]
  have hl : madeCells (Value.int IntKind.u8 0).cells ((n : Int).toNat * 1) = ((List.replicate n (0 : UInt8)).map octV).toArray := by
    rw [← Array.toArray_toList (xs := madeCells _ _)]
    congr 1
    rw [List.map_replicate, Nat.mul_one]
    exact toList_madeCells_one (.int .u8 0) n
  rw [hl]
  rfl
/-- string(b) -/
theorem BytesAt.text (h : BytesAt w B l) (n c : Nat) (hn : l.length = n) :
    (convert 93 9 (.slice (some ⟨B, 0, none⟩) n c)).run Tryz.prog w = .ok (.string ⟨l.toArray⟩) w := by
  subst hn
  rw [run_convert_bytes_string w _ _ _ _ _ _ Tryz.underlying93 Tryz.underlying5 Tryz.underlying9]
  have hl : (loadCells ⟨B, 0, none⟩ l.length).run Tryz.prog w = .ok ((l.map fun c : UInt8 => (c.toNat : Int)).map (Value.int .u8)).toArray w := by
    have := run_loadCells_list (P := Tryz.prog) w ⟨B, 0, none⟩ (l.map octV) (fun j v hv => by
      rw [Addr.add_mid, Nat.zero_add]
      rw [List.getElem?_map] at hv
      obtain ⟨x, hx, rfl⟩ := Option.map_eq_some_iff.1 hv
      obtain ⟨h1, rfl⟩ := List.getElem?_eq_some_iff.1 hx
      exact h.cell h1)
    rw [List.length_map] at this
    rw [List.map_map]
    exact this
  rw [run_bytesToString w _ _ _ _ hl, octs_all]
  rfl
end
theorem leB_get : ∀ (n k v : Nat) (h : k < (leB v n).length), (leB v n)[k] = UInt8.ofNat (v / 256 ^ k)
  | 0, _, _, h => absurd h (by simp [leB])
  | n + 1, 0, v, _ => by simp [leB]
  | n + 1, k + 1, v, h => by
    show (leB (v / 256) n)[k]'(by simpa [leB] using h) = _
    rw [leB_get n k, Nat.pow_succ, Nat.div_div_eq_div_mul, Nat.mul_comm]
/-- k bytes of a number, and noughts. -/
def numTo (v n k : Nat) : List UInt8 := (leB v n).take k ++ List.replicate (n - k) 0
theorem numTo_len (v n k : Nat) (hk : k ≤ n) : (numTo v n k).length = n := by
  unfold numTo
  rw [List.length_append, List.length_take, List.length_replicate, leB_len]
  omega
theorem numTo_zero (v n : Nat) : numTo v n 0 = List.replicate n 0 := by simp [numTo]
theorem numTo_all (v n : Nat) : numTo v n n = leB v n := by
  unfold numTo
  rw [Nat.sub_self, List.replicate_zero, List.append_nil, List.take_of_length_le (by rw [leB_len]; exact Nat.le_refl _)]
theorem numTo_set (v n k : Nat) (hk : k < n) : (numTo v n k).set k (UInt8.ofNat (v / 256 ^ k)) = numTo v n (k + 1) := by
  have hl : k < (leB v n).length := by rw [leB_len]; exact hk
  have hg := leB_get n k v hl
  unfold numTo
  obtain ⟨m, hm⟩ : ∃ m, n - k = m + 1 := ⟨n - k - 1, by omega⟩
  rw [hm, show n - (k + 1) = m by omega, List.replicate_succ, List.set_append_right _ _ (by rw [List.length_take]; omega), List.length_take, Nat.min_eq_left (by omega), Nat.sub_self, List.set_cons_zero, List.take_succ_eq_append_getElem hl, hg, List.append_assoc]
  rfl
theorem octV_shr (v k : Nat) : octV (UInt8.ofNat (v / 256 ^ k)) = .int .u8 ((v : Int) / 2 ^ (8 * k) % 256) := by
  have e : (256 : Nat) ^ k = 2 ^ (8 * k) := by rw [Nat.pow_mul]
  unfold octV
  rw [UInt8.toNat_ofNat', e]
  have e2 : (((v / 2 ^ (8 * k) % 2 ^ 8 : Nat)) : Int) = (v : Int) / ((2 ^ (8 * k) : Nat) : Int) % 256 := by
    rw [Int.natCast_emod, Int.natCast_ediv]; rfl
  rw [e2, Int.natCast_pow]
  rfl
set_option maxRecDepth 100000 in
set_option maxHeartbeats 2000000 in
theorem t_onum (v n : Nat) (_hv : v < 256 ^ n) (hn : n ≤ 8) (hs : (n < 8 → v / 2 ^ (8 * n) = 0)) (w : World) :
    Calls Tryz.prog 156 #[.int .u64 (v : Int), .int .i64 (n : Int)] w fun e w' => e = .returned (.tuple #[.string ⟨(leB v n).toArray⟩, .int .i64 0]) ∧ Below w.heap.size w w' := by
  have hmk := bytes_make n (by omega)
  go_enter Tryz.func156, Tryz.ntmps156
  have hx : n < 8 → ((v : Int) / 2 ^ (8 * n) != 0) = false := fun h => by
    have := hs h
    have e : ((v : Int) / 2 ^ (8 * n)) = ((v / 2 ^ (8 * n) : Nat) : Int) := by push_cast; rfl
    rw [e, this]; rfl
  have h88 : n = 8 ∨ n < 8 := by omega
  have hcase : (¬ (n : Int) < 8) ∨ ((n : Int) < 8 ∧ ((v : Int) / 2 ^ (8 * n) != 0) = false) := by
    rcases h88 with h | h
    · left; omega
    · right; exact ⟨by omega, hx h⟩
  clear hx hs h88
  rcases hcase with hc | ⟨hc, hx8⟩
  all_goals
    go_wp2
    have hb0 : BytesAt (w.alloc (bytesO (List.replicate n 0))) w.heap.size (numTo v n 0) := by rw [numTo_zero]; exact heap_alloc_new _ _
    have hB0 := (Below.refl w.heap.size w).alloc (Nat.le_refl _) (bytesO (List.replicate n 0))
    generalize w.alloc (bytesO (List.replicate n 0)) = w1 at hb0 hB0
    have HB := Lib.hid hb0
    have HB0 := Lib.hid hB0
    clear hb0 hB0
    go_loopw [28] (fun x wr => ∃ k : Nat, x = .int .i64 (k : Int) ∧ k ≤ n ∧ Hid (BytesAt wr w.heap.size (numTo v n k)) ∧ Hid (Below w.heap.size w wr)) (fun x _ => n - (intOf x).toNat)
    case atStart => exact ⟨0, rfl, Nat.zero_le _, HB, HB0⟩
    case round =>
      obtain ⟨k, rfl, hk, HR, HBL⟩ := hrel
      by_cases he : k = n
      · have htx := HR.out.text n n (numTo_len v n k hk)
        rw [he, numTo_all] at htx
        go_wp2
        go_ret2
        exact ⟨rfl, HBL.out⟩
      · have hk2 : k < n := by omega
        have hc1 := HR.out.cell (k := k) (by rw [numTo_len v n k hk]; exact hk2)
        have hf1 := HR.out.froz k
        go_wp2
        have hbs := HR.out.set (k := k) (by rw [numTo_len v n k hk]; exact hk2) (UInt8.ofNat (v / 256 ^ k))
        rw [numTo_set v n k hk2, octV_shr] at hbs
        refine ⟨⟨k + 1, rfl, hk2, Lib.hid hbs, Lib.hid (below_grown HBL.out (pgrown_set wr w.heap.size k _) (Nat.le_refl _))⟩, ?_⟩
        simp only [intOf]
        omega
set_option maxRecDepth 100000 in
theorem t_rnum (v n : Nat) (hv : v < 256 ^ n) (hn : n ≤ 8) (w : World) :
    Calls Tryz.prog 97 #[.int .u64 (v : Int), .int .i64 (n : Int)] w fun e w' => e = .returned (.string ⟨(leB v n).toArray⟩) ∧ Below w.heap.size w w' := by
  have hs : n < 8 → v / 2 ^ (8 * n) = 0 := fun _ => Nat.div_eq_of_lt (by rw [Nat.pow_mul]; exact hv)
  have HS := Lib.hid hs
  clear hs
  go_enter Tryz.func97, Tryz.ntmps97
  go_wp2_with (go_at_call 156; (with_reducible refine (t_onum v n hv hn HS.out _).mono ?_); rintro e w' ⟨rfl, hb⟩; have HB := Lib.hid hb; clear hb)
  go_ret
  exact ⟨rfl, HB.out⟩
theorem leB_one (v : Nat) : leB v 1 = [UInt8.ofNat v] := rfl
set_option maxRecDepth 100000 in
theorem t_otext (s : ByteArray) (hs : s.size ≤ 255) (w : World) :
    Calls Tryz.prog 157 #[.string s] w fun e w' => e = .returned (.tuple #[.string ⟨(leB s.size 1 ++ s.data.toList).toArray⟩, .int .i64 0]) ∧ Below w.heap.size w w' := by
  have h2 : ¬ (255 : Int) < s.size := by omega
  have htx : ∀ w : World, (convert 93 9 (.slice (some ⟨w.heap.size, 0, none⟩) 1 1)).run Tryz.prog (w.alloc (.cells #[.int .u8 (s.size : Int)] 5)) = .ok (.string ⟨(leB s.size 1).toArray⟩) (w.alloc (.cells #[.int .u8 (s.size : Int)] 5)) := fun w => by
    refine BytesAt.text (B := w.heap.size) (l := leB s.size 1) ?_ 1 1 rfl
    unfold BytesAt
    rw [heap_alloc_new, leB_one]
    have : octV (UInt8.ofNat s.size) = .int .u8 (s.size : Int) := by
      unfold octV
      rw [UInt8.toNat_ofNat', Nat.mod_eq_of_lt (by omega)]
    simp [this]
  have hq : ¬ 9223372036854775807 < (leB s.size 1).length + s.size := by rw [leB_len]; omega
  go_enter Tryz.func157, Tryz.ntmps157
  go_wp2
  go_ret2
  refine ⟨?_, (Below.refl _ _).alloc (Nat.le_refl _) _⟩
  have e : (⟨(leB s.size 1).toArray⟩ : ByteArray) ++ s = ⟨(leB s.size 1 ++ s.data.toList).toArray⟩ := by
    apply ByteArray.ext
    rw [ByteArray.data_append]
    apply Array.ext'
    simp
  rw [← e]
  rfl
set_option maxRecDepth 100000 in
theorem t_rtext (s : ByteArray) (hs : s.size ≤ 255) (w : World) :
    Calls Tryz.prog 98 #[.string s] w fun e w' => e = .returned (.string ⟨(leB s.size 1 ++ s.data.toList).toArray⟩) ∧ Below w.heap.size w w' := by
  go_enter Tryz.func98, Tryz.ntmps98
  go_wp2_with (go_at_call 157; (with_reducible refine (t_otext s hs _).mono ?_); rintro e w' ⟨rfl, hb⟩; have HB := Lib.hid hb; clear hb)
  go_ret
  exact ⟨rfl, HB.out⟩
theorem leN_snoc : ∀ (l : List UInt8) (b : UInt8), leN (l ++ [b]) = leN l + 256 ^ l.length * b.toNat
  | [], b => by simp [leN]
  | c :: l, b => by
    show c.toNat + 256 * leN (l ++ [b]) = c.toNat + 256 * leN l + 256 ^ (l.length + 1) * b.toNat
    rw [leN_snoc l b, Nat.pow_succ, Nat.mul_add, ← Nat.add_assoc]
    congr 1
    rw [← Nat.mul_assoc, Nat.mul_comm 256]
theorem get_or (s : ByteArray) (k : Nat) (hk : k < s.size) (h8 : k < 8) :
    bits BinOp.or IntKind.u64 (leN (s.data.toList.take k) : Int) (IntKind.u64.wrap (IntKind.u64.wrap (s[k].toNat : Int) * 2 ^ (8 * k))) = (leN (s.data.toList.take (k + 1)) : Int) := by
  have hl : k < s.data.toList.length := by rw [← Lib.size_eq]; exact hk
  have hb := s[k].toNat_lt
  have hg : s.data.toList[k] = s[k] := rfl
  have e1 : IntKind.u64.wrap (s[k].toNat : Int) = (s[k].toNat : Int) := by rw [IntKind.wrap_u64]; omega
  have hp : (2 : Nat) ^ (8 * k) * 256 ≤ 18446744073709551616 := by
    have : (2 : Nat) ^ (8 * k) * 256 = 2 ^ (8 * k + 8) := by rw [Nat.pow_add]
    rw [this]
    exact Nat.pow_le_pow_right (by omega) (by omega : 8 * k + 8 ≤ 64)
  have hlt : 2 ^ (8 * k) * s[k].toNat < 18446744073709551616 := Nat.lt_of_lt_of_le (Nat.mul_lt_mul_of_pos_left hb (Nat.pow_pos (by omega))) hp
  have e2 : IntKind.u64.wrap ((s[k].toNat : Int) * 2 ^ (8 * k)) = ((2 ^ (8 * k) * s[k].toNat : Nat) : Int) := by
    have : ((s[k].toNat : Int) * 2 ^ (8 * k)) = ((2 ^ (8 * k) * s[k].toNat : Nat) : Int) := by
      rw [Int.natCast_mul, Int.natCast_pow, Int.mul_comm]; rfl
    rw [this, IntKind.wrap_u64]
    omega
  have h1 := leN_lt (s.data.toList.take k)
  rw [List.length_take, Nat.min_eq_left (by omega)] at h1
  have e3 : (256 : Nat) ^ k = 2 ^ (8 * k) := by rw [Nat.pow_mul]
  rw [e3] at h1
  rw [e1, e2, bits_or_u64_nat _ _ (by omega) hlt, List.take_succ_eq_append_getElem hl, leN_snoc, List.length_take, Nat.min_eq_left (by omega), e3, hg]
  congr 1
  rw [Nat.or_comm, ← Nat.two_pow_add_eq_or_of_lt h1, Nat.add_comm]
set_option maxRecDepth 100000 in
set_option maxHeartbeats 2000000 in
theorem t_oget (s : ByteArray) (hs : s.size ≤ 8) (w : World) :
    Calls Tryz.prog 104 #[.string s] w fun e w' => e = .returned (.tuple #[.int .u64 (leN s.data.toList : Int), .int .i64 0]) ∧ Below w.heap.size w w' := by
  have h2 : ¬ (8 : Int) < s.size := by omega
  obtain ⟨n, hn⟩ : ∃ n, s.size = n := ⟨_, rfl⟩
  go_enter Tryz.func104, Tryz.ntmps104
  go_wp2
  have HN := Lib.hid hn
  clear hn
  go_loopw [2, 10] (fun v x wr => ∃ k : Nat, x = .int .i64 (k : Int) ∧ k ≤ n ∧ v = .int .u64 (leN (s.data.toList.take k) : Int) ∧ w = wr) (fun _ x _ => n - (intOf x).toNat)
  case atStart => exact ⟨0, rfl, Nat.zero_le _, by simp [leN], rfl⟩
  case round =>
    obtain ⟨k, rfl, hk, rfl, rfl⟩ := hrel
    by_cases he : k = n
    · have hf : leN (s.data.toList.take k) = leN s.data.toList := by rw [List.take_of_length_le]; rw [← Lib.size_eq, HN.out]; omega
      rw [hf]
      go_wp2
      go_ret2
      exact ⟨rfl, Below.refl _ _⟩
    · have hk2 : k < n := by omega
      have hk3 : k < s.size := by rw [HN.out]; exact hk2
      go_wp2
      refine ⟨⟨k + 1, rfl, hk2, ?_, trivial⟩, ?_⟩
      · rw [get_or s k hk3 (by omega)]
      · simp only [intOf]
        omega
theorem extract_take (s : ByteArray) (n : Nat) : s.extract 0 n = ⟨(s.data.toList.take n).toArray⟩ := by
  apply ByteArray.ext
  rw [ByteArray.data_extract]
  apply Array.ext'
  rw [Array.toList_extract]
  simp [List.extract]
theorem extract_drop (s : ByteArray) (n : Nat) : s.extract n s.size = ⟨(s.data.toList.drop n).toArray⟩ := by
  apply ByteArray.ext
  rw [ByteArray.data_extract]
  apply Array.ext'
  rw [Array.toList_extract]
  unfold List.extract
  exact List.take_of_length_le (by rw [List.length_drop, ← Lib.size_eq]; exact Nat.le_refl _)
set_option maxRecDepth 100000 in
theorem t_ocut (s : ByteArray) (n : Nat) (_hs : s.size ≤ maxLen) (_hn : n ≤ maxLen) (w : World) :
    Calls Tryz.prog 101 #[.string s, .int .i64 (n : Int)] w fun e w' => (e = if s.size < n then .returned (.tuple #[.string ⟨#[]⟩, .string ⟨#[]⟩, .int .i64 6]) else .returned (.tuple #[.string ⟨(s.data.toList.take n).toArray⟩, .string ⟨(s.data.toList.drop n).toArray⟩, .int .i64 0])) ∧ Below w.heap.size w w' := by
  have h0 : ¬ (n : Int) < 0 := by omega
  go_enter Tryz.func101, Tryz.ntmps101
  by_cases hc : s.size < n
  · have hc' : (s.size : Int) < n := by omega
    rw [if_pos hc]
    go_wp2
    go_ret3
    go_wp2
    go_ret3
    exact ⟨rfl, Below.refl _ _⟩
  · have hc' : ¬ (s.size : Int) < n := by omega
    rw [if_neg hc]
    go_wp2
    go_quiet (fail)
    have hB : Below w.heap.size w (w.drewN nq) := pbelow_drewN (Below.refl _ _) nq
    generalize w.drewN nq = w2 at hB
    have HB := Lib.hid hB
    clear hB
    go_wp2
    go_ret3
    refine ⟨?_, HB.out⟩
    rw [extract_take s n, extract_drop s n]
    rfl
end Go.Proofs.YtogljgiefmfafaaGreat

namespace Go.Proofs.YtogljgiefmfafaaGreat
open Go.Shelf Go.RowKit
def rep_ren : Go.Shelf.Ren := ⟨fun | 105 => 102 | 212 => 159 | 99 => 160 | 165 => 161 | 166 => 96 | 170 => 162 | 169 => 99 | 263 => 208 | 264 => 209 | 206 => 210 | 240 => 155 | 241 => 211 | 276 => 207 | 277 => 252 | n => n, fun | 9 => 9 | 3 => 3 | 4 => 4 | 20 => 20 | 0 => 0 | 46 => 197 | 109 => 212 | 5 => 5 | 72 => 162 | 76 => 166 | 51 => 37 | 146 => 249 | 53 => 48 | 148 => 251 | 70 => 160 | 37 => 93 | 75 => 165 | 127 => 210 | 164 => 247 | 80 => 171 | n => n, fun | n => n⟩
theorem rep : Lays.n105 Tryz.prog rep_ren := {
  mixed := by kernel_rfl
  f99 := Tryz.func160.trans (congrArg some (by kernel_rfl))
  f105 := Tryz.func102.trans (congrArg some (by kernel_rfl))
  f165 := Tryz.func161.trans (congrArg some (by kernel_rfl))
  f166 := Tryz.func96.trans (congrArg some (by kernel_rfl))
  f169 := Tryz.func99.trans (congrArg some (by kernel_rfl))
  f170 := Tryz.func162.trans (congrArg some (by kernel_rfl))
  f206 := Tryz.func210.trans (congrArg some (by kernel_rfl))
  f212 := Tryz.func159.trans (congrArg some (by kernel_rfl))
  f240 := Tryz.func155.trans (congrArg some (by kernel_rfl))
  f241 := Tryz.func211.trans (congrArg some (by kernel_rfl))
  f263 := Tryz.func208.trans (congrArg some (by kernel_rfl))
  f264 := Tryz.func209.trans (congrArg some (by kernel_rfl))
  f276 := Tryz.func207.trans (congrArg some (by kernel_rfl))
  f277 := Tryz.func252.trans (congrArg some (by kernel_rfl))
  t0 := Tryz.underlying0
  a0 := Tryz.isAgg0
  z0 := Tryz.sizeOf0
  v0 := Tryz.zeroValue0
  t3 := Tryz.underlying3
  a3 := Tryz.isAgg3
  z3 := Tryz.sizeOf3
  v3 := Tryz.zeroValue3
  t4 := Tryz.underlying4
  a4 := Tryz.isAgg4
  z4 := Tryz.sizeOf4
  v4 := Tryz.zeroValue4
  t5 := Tryz.underlying5
  a5 := Tryz.isAgg5
  z5 := Tryz.sizeOf5
  v5 := Tryz.zeroValue5
  t9 := Tryz.underlying9
  a9 := Tryz.isAgg9
  z9 := Tryz.sizeOf9
  v9 := Tryz.zeroValue9
  t20 := Tryz.underlying20
  a20 := Tryz.isAgg20
  z20 := Tryz.sizeOf20
  v20 := Tryz.zeroValue20
  t37 := Tryz.underlying93
  a37 := Tryz.isAgg93
  z37 := Tryz.sizeOf93
  v37 := Tryz.zeroValue93
  t46 := Tryz.underlying197
  a46 := Tryz.isAgg197
  z46 := Tryz.sizeOf197
  v46 := Tryz.zeroValue197
  t51 := Tryz.underlying37
  a51 := Tryz.isAgg37
  z51 := Tryz.sizeOf37
  v51 := Tryz.zeroValue37
  t53 := Tryz.underlying48
  a53 := Tryz.isAgg48
  z53 := Tryz.sizeOf48
  v53 := Tryz.zeroValue48
  t70 := Tryz.underlying160
  a70 := Tryz.isAgg160
  z70 := Tryz.sizeOf160
  v70 := Tryz.zeroValue160
  t72 := Tryz.underlying162
  a72 := Tryz.isAgg162
  z72 := Tryz.sizeOf162
  v72 := Tryz.zeroValue162
  t75 := Tryz.underlying165
  a75 := Tryz.isAgg165
  z75 := Tryz.sizeOf165
  v75 := Tryz.zeroValue165
  t76 := Tryz.underlying166
  a76 := Tryz.isAgg166
  z76 := Tryz.sizeOf166
  v76 := Tryz.zeroValue166
  t109 := Tryz.underlying212
  a109 := Tryz.isAgg212
  z109 := Tryz.sizeOf212
  v109 := Tryz.zeroValue212
  t127 := Tryz.underlying210
  a127 := Tryz.isAgg210
  z127 := Tryz.sizeOf210
  v127 := Tryz.zeroValue210
  t146 := Tryz.underlying249
  a146 := Tryz.isAgg249
  z146 := Tryz.sizeOf249
  v146 := Tryz.zeroValue249
  t148 := Tryz.underlying251
  a148 := Tryz.isAgg251
  z148 := Tryz.sizeOf251
  v148 := Tryz.zeroValue251
  t164 := Tryz.underlying247
  a164 := Tryz.isAgg247
  z164 := Tryz.sizeOf247
  v164 := Tryz.zeroValue247 }
end Go.Proofs.YtogljgiefmfafaaGreat

namespace Go.Proofs.YtogljgiefmfafaaGreat
open Go.RowKit
theorem repX : Builder.Extra Tryz.prog rep_ren := {
  sizeBuilder := by kernel_rfl
  liesBuilder := by kernel_rfl
  t5 := Tryz.underlying5
  a5 := Tryz.isAgg5
  z5 := Tryz.sizeOf5
  v5 := Tryz.zeroValue5
  infoByte := by kernel_rfl
  cellsByte := by kernel_rfl
  sizeByte := by kernel_rfl
  neB5 := by decide }
/-- A builder that the call has made. -/
abbrev IsB (B b : Nat) (l : List UInt8) (w : World) : Prop := Lib.IsBuilderF 162 5 B b (Lib.byteCells l) w
abbrev KeptW (b : Nat) (w w' : World) : Prop := Lib.OthersKept 5 (some b) w w'
theorem b_write (B b : Nat) (l : List UInt8) (s : ByteArray) (w : World) (h : IsB B b l w) (hlen : l.length + s.size ≤ 140737488355328) (hBw : B ≤ w.heap.size) :
    Calls Tryz.prog 96 #[.pointer (some ⟨b, 0, none⟩), .string s] w fun e w' => e = .returned (.tuple #[.int .i64 s.size, .nilIface]) ∧ IsB B b (l ++ s.data.toList) w' ∧ Below B w w' ∧ KeptW b w w' := by
  refine (Any.Builder_WriteString_k (P := Tryz.prog) (ρ := rep_ren) { rep with } repX B b (Lib.byteCells l) s w h (by rw [show (Lib.byteCells l).length = l.length by simp [Lib.byteCells]]; exact hlen) hBw).mono ?_
  rintro e w' ⟨rfl, h1, h2, h3⟩
  refine ⟨rfl, ?_, h2, h3⟩
  right
  have : Lib.byteCells (l ++ s.data.toList) = Lib.byteCells l ++ Lib.strCells s := by
    simp [Lib.byteCells, Lib.strCells]
  rw [this]
  exact h1
theorem b_string (B b : Nat) (l : List UInt8) (w : World) (h : IsB B b l w) (hBw : B ≤ w.heap.size) :
    Calls Tryz.prog 99 #[.pointer (some ⟨b, 0, none⟩)] w fun e w' => e = .returned (.string ⟨l.toArray⟩) ∧ Below B w w' := by
  refine (Any.Builder_String_any_f (P := Tryz.prog) (ρ := rep_ren) { rep with } repX B b l w h hBw).mono ?_
  rintro e w' ⟨rfl, _, h2⟩
  exact ⟨rfl, h2⟩
theorem IsB.below {B b : Nat} {l : List UInt8} {w w' : World} (h : IsB B b l w) (hb : Below w.heap.size w w') : IsB B b l w' := by
  have hg : w.grownBy w' none := ⟨hb.os, hb.tape, hb.output, hb.size, fun k hk _ => hb.block k hk⟩
  have key : ∀ p, Lib.BuilderAtF 162 5 B b p (Lib.byteCells l) w → Lib.BuilderAtF 162 5 B b p (Lib.byteCells l) w' := fun p ⟨h1, v, h2, h3, h4⟩ =>
    ⟨h1, v, (hb.block b (Array.getElem?_eq_some_iff.1 h2).1).trans h2, h3.kept hg (by cases hv : v.ownBlock with | none => exact .inl rfl | some x => exact .inr (by simp)), h4⟩
  rcases h with h | h
  · exact .inl (key _ h)
  · exact .inr (key _ h)
theorem IsB.new (B : Nat) (w : World) (hB : B ≤ w.heap.size) : IsB B w.heap.size [] (w.alloc (.cells #[.pointer none, .slice none 0 0] 162)) :=
  .inl ⟨hB, _, heap_alloc_new _ _, World.ownsRowF_nil _ _ _ _, by simp [Value.ownBlock]⟩
theorem IsB.lt {B b : Nat} {l : List UInt8} {w : World} (h : IsB B b l w) : b < w.heap.size := by
  rcases h with ⟨_, v, h2, _⟩ | ⟨_, v, h2, _⟩ <;> exact (Array.getElem?_eq_some_iff.1 h2).1
theorem s_repeat (s : ByteArray) (c : Nat) (w : World) (hc : c ≤ 9223372036854775807) (hlen : s.size * c ≤ 140737488355328) :
    Calls Tryz.prog 102 #[.string s, .int .i64 c] w fun e w' => e = .returned (.string ⟨(Lib.repeatL s.data.toList c).toArray⟩) ∧ Below w.heap.size w w' :=
  Any.strings_Repeat (P := Tryz.prog) (ρ := rep_ren) rep repX s c w hc hlen
end Go.Proofs.YtogljgiefmfafaaGreat

namespace Go.Proofs.YtogljgiefmfafaaGreat
open Go.RowKit Go.Maps
/-- A block of texts. -/
def TextsAt (w : World) (g : Nat) (ss : List ByteArray) : Prop := w.heap[g]? = some (.cells (ss.map Value.string).toArray 9 (0, 0))
def flatB (ss : List ByteArray) : List UInt8 := ss.flatMap fun s => s.data.toList
theorem TextsAt.cell {w : World} {g : Nat} {ss : List ByteArray} (h : TextsAt w g ss) {k : Nat} (hk : k < ss.length) : w.cell? ⟨g, k, none⟩ = some (.string ss[k]) := by
  unfold TextsAt at h
  simp only [World.cell?, h]
  simp [hk]
theorem TextsAt.kept {w w' : World} {g b : Nat} {ss : List ByteArray} (h : TextsAt w g ss) (hg : g ≠ b) (hk : KeptW b w w') : TextsAt w' g ss :=
  hk g _ h (fun e => hg (by injection e)) (fun c fz e => by injection e with _ e; cases e)
theorem flatB_take (ss : List ByteArray) (k : Nat) (hk : k < ss.length) : flatB (ss.take (k + 1)) = flatB (ss.take k) ++ ss[k].data.toList := by
  unfold flatB
  rw [List.take_succ_eq_append_getElem hk, List.flatMap_append]
  simp
theorem flatB_le (ss : List ByteArray) (k : Nat) : (flatB (ss.take k)).length ≤ (flatB ss).length := by
  unfold flatB
  conv => rhs; rw [← List.take_append_drop k ss]
  rw [List.flatMap_append, List.length_append]
  omega
set_option maxRecDepth 100000 in
set_option maxHeartbeats 2000000 in
theorem t_put1 (is : Bool) (ss : List ByteArray) (n g B b : Nat) (l : List UInt8) (w : World) (hn : ss.length = n) (hn2 : n ≤ 60000) (hs : TextsAt w g ss) (hgb : g ≠ b) (hB : IsB B b l w) (hBw : B ≤ w.heap.size)
    (hlen : l.length + (flatB ss).length ≤ 140737488355328) :
    Calls Tryz.prog 95 #[.bool is, .slice (some ⟨g, 0, none⟩) n n, .pointer (some ⟨b, 0, none⟩)] w fun e w' => e = .returned (.tuple #[]) ∧ IsB B b (l ++ onB is (flatB ss)) w' ∧ Below B w w' ∧ KeptW b w w' := by
  have HN := Lib.hid hn
  have HS := Lib.hid hs
  have HB := Lib.hid hB
  have HL := Lib.hid hlen
  clear hn hs hB hlen
  go_enter Tryz.func95, Tryz.ntmps95
  go_wp2
  go_loopw [9] (fun x wr => ∃ k : Nat, x = .int .i64 (k : Int) ∧ k ≤ n ∧ Hid (IsB B b (l ++ onB is (flatB (ss.take k))) wr ∧ Below B w wr ∧ KeptW b w wr)) (fun x _ => n - (intOf x).toNat)
  case atStart => exact ⟨0, rfl, Nat.zero_le _, by show _ ∧ _; refine ⟨?_, Below.refl _ _, Lib.OthersKept.refl _ _ _⟩; have := HB.out; cases is <;> simpa [flatB, onB] using this⟩
  case round =>
    obtain ⟨k, rfl, hk, HR⟩ := hrel
    by_cases he : k = n
    · have hf : ss.take k = ss := List.take_of_length_le (by rw [HN.out]; omega)
      have h1 := HR.out
      rw [hf] at h1
      have H1 := Lib.hid h1
      clear h1 hf
      go_wp2
      all_goals
        go_end0
        exact ⟨rfl, H1.out⟩
    · have hk2 : k < n := by omega
      have hk3 : k < ss.length := by rw [HN.out]; exact hk2
      have c1 := (HS.out.kept hgb HR.out.2.2).cell hk3
      have hle := flatB_le ss (k + 1)
      rw [flatB_take ss k hk3, List.length_append] at hle
      have hd : ss[k].data.toList.length = ss[k].size := by rw [← Lib.size_eq]
      rw [hd] at hle
      cases is
      · have HR2 : Hid (IsB B b (l ++ onB false (flatB (ss.take (k + 1)))) wr ∧ Below B w wr ∧ KeptW b w wr) := HR
        clear hle hd
        go_wp2
        refine ⟨⟨k + 1, rfl, hk2, HR2⟩, ?_⟩
        simp only [intOf]
        omega
      · have hl := HL.out
        have hlt : (l ++ onB true (flatB (ss.take k))).length + ss[k].size ≤ 140737488355328 := by show (l ++ flatB (ss.take k)).length + _ ≤ _; rw [List.length_append]; omega
        have HLT := Lib.hid hlt
        have HBW : Hid (B ≤ wr.heap.size) := Nat.le_trans hBw HR.out.2.1.size
        clear hle hd hl hlt
        go_wp2_with (go_at_call 96; (with_reducible refine (b_write B b _ _ _ HR.out.1 HLT.out HBW.out).mono ?_); rintro e w2 ⟨rfl, g1, g2, g3⟩; have HG := Lib.hid (And.intro g1 (And.intro g2 g3)); clear g1 g2 g3)
        refine ⟨⟨k + 1, rfl, hk2, ?_⟩, ?_⟩
        · show _ ∧ _
          obtain ⟨g1, g2, g3⟩ := HG.out
          refine ⟨?_, HR.out.2.1.trans g2, HR.out.2.2.trans g3⟩
          rw [flatB_take ss k hk3]
          simpa [onB] using g1
        · simp only [intOf]
          omega
end Go.Proofs.YtogljgiefmfafaaGreat

namespace Go.Proofs.YtogljgiefmfafaaGreat
open Go.RowKit Go.Maps
def nB (v n : Nat) : ByteArray := ⟨(leB v n).toArray⟩
def tB (s : ByteArray) : ByteArray := ⟨(leB s.size 1 ++ s.data.toList).toArray⟩
theorem nB_list (v n : Nat) : (nB v n).data.toList = leB v n := by simp [nB]
theorem tB_list (s : ByteArray) : (tB s).data.toList = leB s.size 1 ++ s.data.toList := by simp [tB]
theorem t_num8 (v : Int) (h0 : 0 ≤ v ∧ v ≤ 18446744073709551615) (w : World) : Calls Tryz.prog 97 #[.int .u64 v, .int .i64 8] w fun e w' => e = .returned (.string (nB v.toNat 8)) ∧ Below w.heap.size w w' := by
  have h := t_rnum v.toNat 8 (by omega) (by omega) w
  rw [Int.toNat_of_nonneg h0.1] at h
  exact h
theorem t_num4 (v : Int) (h0 : 0 ≤ v ∧ v ≤ 4294967295) (w : World) : Calls Tryz.prog 97 #[.int .u64 v, .int .i64 4] w fun e w' => e = .returned (.string (nB v.toNat 4)) ∧ Below w.heap.size w w' := by
  have h := t_rnum v.toNat 4 (by omega) (by omega) w
  rw [Int.toNat_of_nonneg h0.1] at h
  exact h
theorem t_num1 (v : Int) (h0 : 0 ≤ v ∧ v ≤ 255) (w : World) : Calls Tryz.prog 97 #[.int .u64 v, .int .i64 1] w fun e w' => e = .returned (.string (nB v.toNat 1)) ∧ Below w.heap.size w w' := by
  have h := t_rnum v.toNat 1 (by omega) (by omega) w
  rw [Int.toNat_of_nonneg h0.1] at h
  exact h
theorem t_textB (s : ByteArray) (hs : s.size ≤ 255) (w : World) : Calls Tryz.prog 98 #[.string s] w fun e w' => e = .returned (.string (tB s)) ∧ Below w.heap.size w w' := t_rtext s hs w
/-- Between two statements of put: what memory holds. -/
structure StP (r : R) (w : World) (B5 b : Nat) (wd : ByteArray) (f : Value) (l : List UInt8) (W : World) : Prop where
  rc : W.heap[w.heap.size]? = some (.cells #[.int .u64 r.stamp, .int .u8 r.act, .int .u32 r.dir, .string r.name, .int .u32 r.ino, .int .u8 r.kind, .int .u32 r.dir2, .string r.name2, .int .u32 r.old, .int .u32 r.size, .int .i64 r.page, .string r.data] 50 (0, 0))
  kd : W.heap[B5]? = some (.cells #[.string wd, .bool (kEntry r.act), .bool (kKind r.act), .bool (kMove r.act), .bool (kSized r.act), .bool (kData r.act), f] 118 (0, 0))
  sb : IsB w.heap.size b l W
  below : Below w.heap.size w W
  n1 : w.heap.size ≠ b
  n2 : B5 ≠ b
theorem KeptW.of_below {b : Nat} {W W' : World} (h : Below W.heap.size W W') : KeptW b W W' := fun k _o hk _ _ => (h.block k (Array.getElem?_eq_some_iff.1 hk).1).trans hk
section
variable {r : R} {w : World} {B5 b : Nat} {wd : ByteArray} {f : Value} {l l' : List UInt8} {W W' : World}
theorem StP.mono (h : StP r w B5 b wd f l W) (hb : Below W.heap.size W W') : StP r w B5 b wd f l W' := by
  have lt : ∀ (B : Nat) (o : Obj), W.heap[B]? = some o → B < W.heap.size := fun B o h => (Array.getElem?_eq_some_iff.1 h).1
  exact ⟨(hb.block _ (lt _ _ h.rc)).trans h.rc, (hb.block _ (lt _ _ h.kd)).trans h.kd, h.sb.below hb, h.below.trans (hb.mono h.below.size), h.n1, h.n2⟩
theorem StP.put (h : StP r w B5 b wd f l W) (hs : IsB w.heap.size b l' W') (hb : Below w.heap.size W W') (hk : KeptW b W W') : StP r w B5 b wd f l' W' :=
  ⟨hk _ _ h.rc (fun e => h.n1 (by injection e)) (fun c fz e => by injection e with _ e; cases e), hk _ _ h.kd (fun e => h.n2 (by injection e)) (fun c fz e => by injection e with _ e; cases e), hs, h.below.trans hb, h.n1, h.n2⟩
end
def stL (a b : List UInt8) : Nat → List UInt8
  | 0 => a
  | _ + 1 => b
/-- A slice of texts, in a block of its own. -/
def isTexts (b n : Nat) (ss : List ByteArray) : Ph := fun v W => ∃ g, v = .slice (some ⟨g, 0, none⟩) n n ∧ g ≠ b ∧ TextsAt W g ss
theorem isTexts.stays {b n : Nat} {ss : List ByteArray} : ∀ v W W', isTexts b n ss v W → KeptW b W W' → isTexts b n ss v W' := fun _ _ _ ⟨g, h1, h2, h3⟩ hk => ⟨g, h1, h2, h3.kept h2 hk⟩
theorem onB_len (c : Bool) (l : List UInt8) : (onB c l).length ≤ l.length := by unfold onB; split <;> simp
theorem put_bytes (r : R) (L1 L2 L3 L4 L5 L6 L7 : List UInt8) (h1 : ([] : List UInt8) ++ onB true (flatB [nB r.stamp.toNat 8, nB r.act.toNat 1]) = L1)
    (h2 : L1 ++ onB (kEntry r.act) (flatB [nB r.dir.toNat 4, tB r.name]) = L2) (h3 : L2 ++ onB true (flatB [nB r.ino.toNat 4]) = L3)
    (h4 : L3 ++ onB (kKind r.act) (flatB [nB r.kind.toNat 1]) = L4) (h5 : L4 ++ onB (kMove r.act) (flatB [nB r.dir2.toNat 4, tB r.name2, nB r.old.toNat 4]) = L5)
    (h6 : L5 ++ onB (kSized r.act) (flatB [nB r.size.toNat 4]) = L6) (h7 : L6 ++ onB (kData r.act) (flatB [nB r.page.toNat 1, r.data]) = L7) : L7 = r.bytes := by
  subst h1 h2 h3 h4 h5 h6 h7
  have hsz : ∀ s : ByteArray, s.size = s.data.toList.length := fun s => Lib.size_eq s
  unfold R.bytes
  cases kEntry r.act <;> cases kKind r.act <;> cases kMove r.act <;> cases kSized r.act <;> cases kData r.act <;>
    simp only [onB, flatB, List.flatMap_cons, List.flatMap_nil, nB_list, tB_list, List.append_assoc, List.append_nil, List.nil_append, hsz, if_true, if_false, Bool.false_eq_true]
end Go.Proofs.YtogljgiefmfafaaGreat

namespace Go.Proofs.YtogljgiefmfafaaGreat
open Go.RowKit Go.Maps
/-- The boxes of Get's closures: what is left, and whether something lacked. -/
structure RdAt (w : World) (Bs Bb : Nat) (d : Rd) : Prop where
  s : w.heap[Bs]? = some (.cells #[.string ⟨d.s.toArray⟩] 9 (0, 0))
  b : w.heap[Bb]? = some (.cells #[.bool d.bad] 4 (0, 0))
/-- What becomes of memory: the two boxes may be set. -/
structure Rel2 (Bs Bb : Nat) (W W' : World) : Prop where
  os : W'.os = W.os
  tape : W'.tape = W.tape
  output : W'.output = W.output
  size : W.heap.size ≤ W'.heap.size
  old : ∀ b, b < W.heap.size → b ≠ Bs → b ≠ Bb → W'.heap[b]? = W.heap[b]?
section
variable {w w' w2 : World} {Bs Bb : Nat} {d d' : Rd}
theorem Rel2.refl (w : World) : Rel2 Bs Bb w w := ⟨rfl, rfl, rfl, Nat.le_refl _, fun _ _ _ _ => rfl⟩
theorem Rel2.trans (h : Rel2 Bs Bb w w') (g : Rel2 Bs Bb w' w2) : Rel2 Bs Bb w w2 :=
  ⟨g.os.trans h.os, g.tape.trans h.tape, g.output.trans h.output, Nat.le_trans h.size g.size, fun b hb h1 h2 => (g.old b (Nat.lt_of_lt_of_le hb h.size) h1 h2).trans (h.old b hb h1 h2)⟩
theorem Rel2.of_below (h : Below w.heap.size w w') : Rel2 Bs Bb w w' := ⟨h.os, h.tape, h.output, h.size, fun b hb _ _ => h.block b hb⟩
theorem Rel2.of_s (h : w.grownBy w' (some Bs)) : Rel2 Bs Bb w w' := ⟨h.os, h.tape, h.output, h.size, fun b hb h1 _ => h.block b hb (fun e => h1 (by injection e))⟩
theorem Rel2.of_b (h : w.grownBy w' (some Bb)) : Rel2 Bs Bb w w' := ⟨h.os, h.tape, h.output, h.size, fun b hb _ h2 => h.block b hb (fun e => h2 (by injection e))⟩
theorem RdAt.below (h : RdAt w Bs Bb d) (hb : Below w.heap.size w w') : RdAt w' Bs Bb d :=
  ⟨(hb.block _ (Array.getElem?_eq_some_iff.1 h.s).1).trans h.s, (hb.block _ (Array.getElem?_eq_some_iff.1 h.b).1).trans h.b⟩
theorem RdAt.ne (h : RdAt w Bs Bb d) : Bs ≠ Bb := fun e => by
  have a := h.s
  rw [e, h.b] at a
  injection a with a
  injection a with _ a
  cases a
theorem RdAt.set_s (h : RdAt w Bs Bb d) (l : List UInt8) : RdAt (w.setCell ⟨Bs, 0, none⟩ (.string ⟨l.toArray⟩)) Bs Bb ⟨d.bad, l⟩ :=
  ⟨by rw [pheap_set w Bs 0 _ _ _ h.s]; rfl, ((pgrown_set w Bs 0 _).block _ (Array.getElem?_eq_some_iff.1 h.b).1 (fun e => h.ne (by injection e with e; exact e.symm))).trans h.b⟩
theorem RdAt.set_b (h : RdAt w Bs Bb d) (x : Bool) : RdAt (w.setCell ⟨Bb, 0, none⟩ (.bool x)) Bs Bb ⟨x, d.s⟩ :=
  ⟨((pgrown_set w Bb 0 _).block _ (Array.getElem?_eq_some_iff.1 h.s).1 (fun e => h.ne (by injection e))).trans h.s, by rw [pheap_set w Bb 0 _ _ _ h.b]; rfl⟩
theorem RdAt.cs (h : RdAt w Bs Bb d) : w.cell? ⟨Bs, 0, none⟩ = some (.string ⟨d.s.toArray⟩) := by simp only [World.cell?, h.s]; rfl
theorem RdAt.cb (h : RdAt w Bs Bb d) : w.cell? ⟨Bb, 0, none⟩ = some (.bool d.bad) := by simp only [World.cell?, h.b]; rfl
theorem RdAt.fs (h : RdAt w Bs Bb d) : w.frozen? ⟨Bs, 0, none⟩ = false := by simp [World.frozen?, h.s]
theorem RdAt.fb (h : RdAt w Bs Bb d) : w.frozen? ⟨Bb, 0, none⟩ = false := by simp [World.frozen?, h.b]
end
theorem repeat_zero (n : Nat) : Lib.repeatL ((⟨#[0]⟩ : ByteArray).data.toList) n = List.replicate n 0 := by
  induction n with
  | zero => rfl
  | succ n ih => show [0] ++ Lib.repeatL _ n = _; rw [ih]; rfl
set_option maxRecDepth 100000 in
set_option maxHeartbeats 2000000 in
theorem t_get1 (n : Nat) (hn : n ≤ 65536) (Bs Bb : Nat) (d : Rd) (w : World) (h : RdAt w Bs Bb d) (hl : d.s.length ≤ maxLen) :
    Calls Tryz.prog 100 #[.int .i64 (n : Int), .pointer (some ⟨Bs, 0, none⟩), .pointer (some ⟨Bb, 0, none⟩)] w fun e w' => e = .returned (.string ⟨(cutR n d).1.toArray⟩) ∧ RdAt w' Bs Bb (cutR n d).2 ∧ Rel2 Bs Bb w w' := by
  have cs := h.cs
  have hsz : (⟨d.s.toArray⟩ : ByteArray).size = d.s.length := by show d.s.toArray.size = _; simp
  obtain ⟨bad, s⟩ := d
  have H := Lib.hid h
  have HN := Lib.hid hn
  have HL := Lib.hid hl
  have HZ := Lib.hid hsz
  simp only at cs
  clear h hsz
  have hrp := fun w => s_repeat ⟨#[0]⟩ n w (Nat.le_trans hn (by decide)) (by show 1 * n ≤ _; omega)
  rw [repeat_zero] at hrp
  by_cases hc : s.length < n
  · have hr : cutR n ⟨bad, s⟩ = (List.replicate n 0, ⟨true, s⟩) := by unfold cutR; rw [if_pos (.inr hc)]
    rw [hr]
    clear hr
    cases bad <;>
      (go_enter Tryz.func100, Tryz.ntmps100
       go_wp2_with (first
         | (go_at_call 101; (with_reducible refine (t_ocut _ n (by rw [HZ.out]; exact HL.out) (Nat.le_trans HN.out (by decide)) _).mono ?_); rw [if_pos (by rw [HZ.out]; exact hc)]; rintro e w1 ⟨rfl, hb⟩; have H1 := Lib.hid (H.out.below hb); have HB1 := Lib.hid hb; have c1 := H1.out.cb; have f1 := H1.out.fb; clear hb)
         | (go_at_call 102; (with_reducible refine (hrp _).mono ?_); rintro e w2 ⟨rfl, hb⟩; have HB2 := Lib.hid hb; clear hb))
       go_ret
       refine ⟨rfl, (H1.out.set_b true).below HB2.out, ((Rel2.of_below HB1.out).trans (Rel2.of_b (pgrown_set _ Bb 0 _))).trans (Rel2.of_below HB2.out)⟩)
  · cases bad
    · have hr : cutR n ⟨false, s⟩ = (s.take n, ⟨false, s.drop n⟩) := by unfold cutR; rw [if_neg (by simp; omega)]
      rw [hr]
      clear hr
      go_enter Tryz.func100, Tryz.ntmps100
      go_wp2_with (go_at_call 101; (with_reducible refine (t_ocut _ n (by rw [HZ.out]; exact HL.out) (Nat.le_trans HN.out (by decide)) _).mono ?_); rw [if_neg (by rw [HZ.out]; exact hc)]; rintro e w1 ⟨rfl, hb⟩; have H1 := Lib.hid (H.out.below hb); have HB1 := Lib.hid hb; have c1 := H1.out.cb; have f1 := H1.out.fb; have H1' := Lib.hid (H1.out.set_b false); have c2 := H1'.out.cs; have f2 := H1'.out.fs; clear hb)
      go_ret
      exact ⟨rfl, H1'.out.set_s _, ((Rel2.of_below HB1.out).trans (Rel2.of_b (pgrown_set _ Bb 0 _))).trans (Rel2.of_s (pgrown_set _ Bs 0 _))⟩
    · have hr : cutR n ⟨true, s⟩ = (List.replicate n 0, ⟨true, s⟩) := by unfold cutR; rw [if_pos (.inl rfl)]
      rw [hr]
      clear hr
      go_enter Tryz.func100, Tryz.ntmps100
      go_wp2_with (first
         | (go_at_call 101; (with_reducible refine (t_ocut _ n (by rw [HZ.out]; exact HL.out) (Nat.le_trans HN.out (by decide)) _).mono ?_); rw [if_neg (by rw [HZ.out]; exact hc)]; rintro e w1 ⟨rfl, hb⟩; have H1 := Lib.hid (H.out.below hb); have HB1 := Lib.hid hb; have c1 := H1.out.cb; have f1 := H1.out.fb; clear hb)
         | (go_at_call 102; (with_reducible refine (hrp _).mono ?_); rintro e w2 ⟨rfl, hb⟩; have HB2 := Lib.hid hb; clear hb))
      go_ret
      refine ⟨rfl, (H1.out.set_b true).below HB2.out, ((Rel2.of_below HB1.out).trans (Rel2.of_b (pgrown_set _ Bb 0 _))).trans (Rel2.of_below HB2.out)⟩
theorem cut_len (n : Nat) (d : Rd) : (cutR n d).1.length = n := by
  unfold cutR
  split
  · simp
  · rename_i h
    simp only [List.length_take]
    have : ¬ d.s.length < n := fun e => h (.inr e)
    omega
theorem cut_left (n : Nat) (d : Rd) : (cutR n d).2.s.length ≤ d.s.length := by
  unfold cutR
  split
  · exact Nat.le_refl _
  · simp
theorem num1_lt (d : Rd) : (numR 1 d).1 < 256 := by
  have := leN_lt (cutR 1 d).1
  rw [cut_len] at this
  exact this
def rdW (d : Rd) : Nat → Rd
  | 0 => d
  | 1 => (numR 1 d).2
  | _ + 2 => (wordR d).2
theorem wrap_i64_nat (m : Nat) (h : m < 256) : IntKind.i64.wrap (m : Int) = m := by
  simp only [IntKind.wrap, IntKind.bits, IntKind.signed]
  simp
  omega
theorem size_mk (l : List UInt8) : (⟨l.toArray⟩ : ByteArray).size = l.length := by show l.toArray.size = _; simp
set_option maxRecDepth 100000 in
set_option maxHeartbeats 2000000 in
/-- number(n) -/
theorem t_get2 (n : Nat) (hn : n ≤ 8) (Bs Bb Bc : Nat) (d : Rd) (w : World) (h : RdAt w Bs Bb d) (hl : d.s.length ≤ maxLen)
    (hc : w.cell? ⟨Bc, 0, none⟩ = some (.func (.func 100) #[] #[.pointer (some ⟨Bs, 0, none⟩), .pointer (some ⟨Bb, 0, none⟩)])) :
    Calls Tryz.prog 103 #[.int .i64 (n : Int), .pointer (some ⟨Bc, 0, none⟩)] w fun e w' => e = .returned (.int .u64 ((numR n d).1 : Int)) ∧ RdAt w' Bs Bb (numR n d).2 ∧ Rel2 Bs Bb w w' := by
  have H := Lib.hid h
  have HL := Lib.hid hl
  clear h hl
  go_enter Tryz.func103, Tryz.ntmps103
  go_wp2_with (first
    | (go_at_call 100; (with_reducible refine (t_get1 n (by omega) Bs Bb d _ H.out HL.out).mono ?_); rintro e w1 ⟨rfl, g1, g2⟩; have H1 := Lib.hid (And.intro g1 g2); clear g1 g2)
    | (go_at_call 104; (with_reducible refine (t_oget _ (by rw [size_mk, cut_len]; exact hn) _).mono ?_); rintro e w2 ⟨rfl, hb⟩; have HB := Lib.hid hb; clear hb))
  go_ret
  refine ⟨?_, H1.out.1.below HB.out, H1.out.2.trans (Rel2.of_below HB.out)⟩
  unfold numR
  simp
set_option maxRecDepth 100000 in
set_option maxHeartbeats 2000000 in
/-- word() -/
theorem t_get3 (Bs Bb Bc Bn : Nat) (d : Rd) (w : World) (h : RdAt w Bs Bb d) (hl : d.s.length ≤ maxLen)
    (hc : w.heap[Bc]? = some (.cells #[.func (.func 100) #[] #[.pointer (some ⟨Bs, 0, none⟩), .pointer (some ⟨Bb, 0, none⟩)]] 175 (0, 0)))
    (hn : w.heap[Bn]? = some (.cells #[.func (.func 103) #[] #[.pointer (some ⟨Bc, 0, none⟩)]] 178 (0, 0))) :
    Calls Tryz.prog 105 #[.pointer (some ⟨Bc, 0, none⟩), .pointer (some ⟨Bn, 0, none⟩)] w fun e w' => e = .returned (.string ⟨(wordR d).1.toArray⟩) ∧ RdAt w' Bs Bb (wordR d).2 ∧ Rel2 Bs Bb w w' := by
  have c1 : w.cell? ⟨Bc, 0, none⟩ = some (.func (.func 100) #[] #[.pointer (some ⟨Bs, 0, none⟩), .pointer (some ⟨Bb, 0, none⟩)]) := by simp only [World.cell?, hc]; rfl
  have c2 : w.cell? ⟨Bn, 0, none⟩ = some (.func (.func 103) #[] #[.pointer (some ⟨Bc, 0, none⟩)]) := by simp only [World.cell?, hn]; rfl
  have ncs : Bc ≠ Bs := fun e => by rw [e, h.s] at hc; injection hc with hc; injection hc with _ hc; cases hc
  have ncb : Bc ≠ Bb := fun e => by rw [e, h.b] at hc; injection hc with hc; injection hc with _ hc; cases hc
  have nns : Bn ≠ Bs := fun e => by rw [e, h.s] at hn; injection hn with hn; injection hn with _ hn; cases hn
  have nnb : Bn ≠ Bb := fun e => by rw [e, h.b] at hn; injection hn with hn; injection hn with _ hn; cases hn
  have lc := (Array.getElem?_eq_some_iff.1 hc).1
  have ln := (Array.getElem?_eq_some_iff.1 hn).1
  have hm := num1_lt d
  have hml : (numR 1 d).2.s.length ≤ maxLen := Nat.le_trans (cut_left 1 d) hl
  obtain ⟨m, hm2⟩ : ∃ m, (numR 1 d).1 = m := ⟨_, rfl⟩
  rw [hm2] at hm
  have HM := Lib.hid hm2
  have H := Lib.hid h
  have HL := Lib.hid hl
  have HML := Lib.hid hml
  clear h hl hc hn hm2 hml
  go_enter Tryz.func105, Tryz.ntmps105
  go_wp2
  refine wp_region_st (fun n W => RdAt W Bs Bb (rdW d n) ∧ Rel2 Bs Bb w W) (fun W W' => Below W.heap.size W W') (Rel2 Bs Bb) [2, 4] (phi [isV (.func (.func 100) #[] #[.pointer (some ⟨Bs, 0, none⟩), .pointer (some ⟨Bb, 0, none⟩)]), isV (.func (.func 103) #[] #[.pointer (some ⟨Bc, 0, none⟩)]), isV (.int .u64 (m : Int)), isV (.int .i64 (m : Int)), isV (.string ⟨(wordR d).1.toArray⟩), isV (.string ⟨(wordR d).1.toArray⟩)]) (by kernel_rfl) (by kernel_rfl) (by kernel_rfl) (by kernel_rfl) (by kernel_rfl) ⟨H.out.below (below_drew _), Rel2.of_below (below_drew _)⟩ (fun _ _ _ h hr => ⟨h.1.below hr, h.2.trans (Rel2.of_below hr)⟩) (fun _ _ h => Rel2.of_below h) ?_ ?_ ?_
  · refine stays_phiR ?_
    simp only [List.forall_mem_cons]
    exact ⟨fun _ _ _ h _ => h, fun _ _ _ h _ => h, fun _ _ _ h _ => h, fun _ _ _ h _ => h, fun _ _ _ h _ => h, fun _ _ _ h _ => h, fun _ h => absurd h (by simp)⟩
  · refine ⟨?_, ?_, ?_, ?_, ?_, ?_, trivial⟩
    · refine opS_mk rfl rfl fun a W2 n hJ hp hq K hK => ?_
      have e0 : a.tmps[0]?.getD undef = .pointer (some ⟨Bc, 0, none⟩) := hp 0 (by kernel_rfl)
      have cc := (World.cell?_of_block (a := ⟨Bc, 0, none⟩) (hJ.2.old Bc lc ncs ncb)).trans c1
      clear hp hq hJ
      go_simp
      exact hK _ _ (Below.refl _ _) rfl
    · refine opS_mk rfl rfl fun a W2 n hJ hp hq K hK => ?_
      have e1 : a.tmps[1]?.getD undef = .pointer (some ⟨Bn, 0, none⟩) := hp 1 (by kernel_rfl)
      have cc := (World.cell?_of_block (a := ⟨Bn, 0, none⟩) (hJ.2.old Bn ln nns nnb)).trans c2
      clear hp hq hJ
      go_simp
      exact hK _ _ (Below.refl _ _) rfl
    · refine opS_at (m := 0) rfl rfl fun a W2 hJ hp hq K hK => ?_
      have e4 : a.tmps[4]?.getD undef = .func (.func 103) #[] #[.pointer (some ⟨Bc, 0, none⟩)] := hq 1 _ (by kernel_rfl) rfl
      have cc := (World.cell?_of_block (a := ⟨Bc, 0, none⟩) (hJ.2.old Bc lc ncs ncb)).trans c1
      have HJ := Lib.hid hJ
      clear hp hq hJ
      go_simp
      refine (t_get2 1 (by decide) Bs Bb Bc d W2 HJ.out.1 HL.out cc).mono ?_
      rintro e w2 ⟨rfl, g1, g2⟩
      exact hK _ _ g2 ⟨g1, HJ.out.2.trans g2⟩ (by show _ = _; rw [HM.out])
    · refine opS_mk rfl rfl fun a W2 n hJ hp hq K hK => ?_
      have e5 : a.tmps[5]?.getD undef = .int .u64 (m : Int) := hq 2 _ (by kernel_rfl) rfl
      clear hp hq hJ
      go_simp
      have hwr : IntKind.i64.wrap (m : Int) = m := wrap_i64_nat m (by omega)
      first | (rw [hwr]; exact hK _ _ (Below.refl _ _) rfl) | exact hK _ _ (Below.refl _ _) (by show _ = _; rw [hwr])
    · refine opS_at (m := 1) rfl rfl fun a W2 hJ hp hq K hK => ?_
      have e3 : a.tmps[3]?.getD undef = .func (.func 100) #[] #[.pointer (some ⟨Bs, 0, none⟩), .pointer (some ⟨Bb, 0, none⟩)] := hq 0 _ (by kernel_rfl) rfl
      have e6 : a.tmps[6]?.getD undef = .int .i64 (m : Int) := hq 3 _ (by kernel_rfl) rfl
      have HJ := Lib.hid hJ
      clear hp hq hJ
      go_simp
      refine (t_get1 m (by omega) Bs Bb (numR 1 d).2 W2 HJ.out.1 HML.out).mono ?_
      rintro e w2 ⟨rfl, g1, g2⟩
      have hw : wordR d = cutR m (numR 1 d).2 := by unfold wordR; rw [HM.out]
      exact hK _ _ g2 ⟨by show RdAt w2 Bs Bb (wordR d).2; rw [hw]; exact g1, HJ.out.2.trans g2⟩ (by show _ = _; rw [hw])
    · refine opS_mk rfl rfl fun a W2 n hJ hp hq K hK => ?_
      have e7 : a.tmps[7]?.getD undef = .string ⟨(wordR d).1.toArray⟩ := hq 4 _ (by kernel_rfl) rfl
      clear hp hq hJ
      go_simp
      exact hK _ _ (Below.refl _ _) rfl
  · intro vs W3 hJ3 hv _
    have H3 : Hid (RdAt W3 Bs Bb (wordR d).2 ∧ Rel2 Bs Bb w W3) := hJ3
    have hv5 : vs 5 = .string ⟨(wordR d).1.toArray⟩ := hv 5 _ rfl rfl
    clear hJ3 hv
    simp only [putAll, Act.put, List.setIfInBounds_toArray, List.set_cons_succ, List.set_cons_zero, Nat.zero_add, Nat.reduceAdd, hv5]
    go_wp2
    go_ret
    exact ⟨rfl, H3.out⟩
end Go.Proofs.YtogljgiefmfafaaGreat
