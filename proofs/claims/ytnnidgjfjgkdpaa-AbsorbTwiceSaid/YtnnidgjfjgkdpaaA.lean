/- Records in memory: what a slice of records reads as; Long, Same, keep. -/
import Derived.Test.YtnnidgjfjgkdpaaRows
import Derived.WalkKit
import Derived.WalkSpells
import Derived.WalkLawsBesides
import Derived.Lib.Hide
import Derived.Deep.Draws
import Derived.LoopTactic
import Derived.BigQuiet
import Derived.Deep.MidRow
namespace Go.Proofs.Ytnnidgjfjgkdpaa
open Go.RowKit

/-- A record. -/
structure R where
  stamp : Int
  act : Int
  dir : Int
  name : ByteArray
  ino : Int
  kind : Int
  dir2 : Int
  name2 : ByteArray
  old : Int
  size : Int
  page : Int
  data : ByteArray

/-- Its cells. -/
def R.cells (r : R) : List Value := [.int .u64 r.stamp, .int .u8 r.act, .int .u32 r.dir, .string r.name, .int .u32 r.ino, .int .u8 r.kind, .int .u32 r.dir2, .string r.name2, .int .u32 r.old, .int .u32 r.size, .int .i64 r.page, .string r.data]
/-- Its value. -/
def R.val (r : R) : Value := .agg #[.int .u64 r.stamp, .int .u8 r.act, .int .u32 r.dir, .string r.name, .int .u32 r.ino, .int .u8 r.kind, .int .u32 r.dir2, .string r.name2, .int .u32 r.old, .int .u32 r.size, .int .i64 r.page, .string r.data]
/-- Its numbers fit, its texts are texts. -/
structure R.Ok (r : R) : Prop where
  dir : 0 ≤ r.dir ∧ r.dir ≤ 4294967295
  name : r.name.size ≤ 140737488355328
  name2 : r.name2.size ≤ 140737488355328
  data : r.data.size ≤ 140737488355328
  ino : 0 ≤ r.ino ∧ r.ino ≤ 4294967295
  act : 0 ≤ r.act ∧ r.act ≤ 255

/-- At an address lies a record. -/
structure RecAt (w : World) (b o : Nat) (r : R) : Prop where
  c0 : w.cell? ⟨b, o, none⟩ = some (.int .u64 r.stamp)
  c1 : w.cell? ⟨b, o + 1, none⟩ = some (.int .u8 r.act)
  c2 : w.cell? ⟨b, o + 2, none⟩ = some (.int .u32 r.dir)
  c3 : w.cell? ⟨b, o + 3, none⟩ = some (.string r.name)
  c4 : w.cell? ⟨b, o + 4, none⟩ = some (.int .u32 r.ino)
  c5 : w.cell? ⟨b, o + 5, none⟩ = some (.int .u8 r.kind)
  c6 : w.cell? ⟨b, o + 6, none⟩ = some (.int .u32 r.dir2)
  c7 : w.cell? ⟨b, o + 7, none⟩ = some (.string r.name2)
  c8 : w.cell? ⟨b, o + 8, none⟩ = some (.int .u32 r.old)
  c9 : w.cell? ⟨b, o + 9, none⟩ = some (.int .u32 r.size)
  c10 : w.cell? ⟨b, o + 10, none⟩ = some (.int .i64 r.page)
  c11 : w.cell? ⟨b, o + 11, none⟩ = some (.string r.data)

theorem RecAt.of_same {w w' : World} {b o : Nat} {r : R} (h : RecAt w b o r) (hs : ∀ i, w'.cell? ⟨b, i, none⟩ = w.cell? ⟨b, i, none⟩) : RecAt w' b o r :=
  ⟨(hs _).trans h.c0, (hs _).trans h.c1, (hs _).trans h.c2, (hs _).trans h.c3, (hs _).trans h.c4, (hs _).trans h.c5, (hs _).trans h.c6, (hs _).trans h.c7, (hs _).trans h.c8, (hs _).trans h.c9, (hs _).trans h.c10, (hs _).trans h.c11⟩

theorem RecAt.range {w : World} {b o : Nat} {r : R} (h : RecAt w b o r) : w.rangeAt b o r.cells := by
  intro j v hj
  match j, hj with
  | 0, hj => simp [R.cells] at hj; subst hj; exact h.c0
  | 1, hj => simp [R.cells] at hj; subst hj; exact h.c1
  | 2, hj => simp [R.cells] at hj; subst hj; exact h.c2
  | 3, hj => simp [R.cells] at hj; subst hj; exact h.c3
  | 4, hj => simp [R.cells] at hj; subst hj; exact h.c4
  | 5, hj => simp [R.cells] at hj; subst hj; exact h.c5
  | 6, hj => simp [R.cells] at hj; subst hj; exact h.c6
  | 7, hj => simp [R.cells] at hj; subst hj; exact h.c7
  | 8, hj => simp [R.cells] at hj; subst hj; exact h.c8
  | 9, hj => simp [R.cells] at hj; subst hj; exact h.c9
  | 10, hj => simp [R.cells] at hj; subst hj; exact h.c10
  | 11, hj => simp [R.cells] at hj; subst hj; exact h.c11
  | n + 12, hj => simp [R.cells] at hj
theorem RecAt.load {w : World} {b o : Nat} {r : R} (h : RecAt w b o r) : (Instr.loadAt 31 (.pointer (some ⟨b, o, none⟩))).run Try.prog w = .ok r.val w :=
  run_loadAt_mid w b o 31 r.cells _ h.range Try.underlying31 rfl (by kernel_rfl)

/-- A slice of n records, below block B. -/
structure Recs (w : World) (B : Nat) (A : Option Addr) (n : Nat) (rs : List R) : Prop where
  len : rs.length = n
  at_ : 0 < n → ∃ b o, A = some ⟨b, o, none⟩ ∧ b < B ∧ ∀ k r, rs[k]? = some r → RecAt w b (o + k * 12) r
  ok : ∀ r ∈ rs, r.Ok

theorem Recs.get {w : World} {B : Nat} {A : Option Addr} {n : Nat} {rs : List R} (h : Recs w B A n rs) {k : Nat} (hk : k < n) : ∃ b o r, A = some ⟨b, o, none⟩ ∧ b < B ∧ rs[k]? = some r ∧ RecAt w b (o + k * 12) r ∧ r.Ok := by
  obtain ⟨b, o, hA, hb, hr⟩ := h.at_ (by omega)
  have hl : k < rs.length := by rw [h.len]; exact hk
  exact ⟨b, o, rs[k], hA, hb, List.getElem?_eq_getElem hl, hr k _ (List.getElem?_eq_getElem hl), h.ok _ (List.getElem_mem hl)⟩
theorem Recs.keep {w w' : World} {B B' : Nat} {A : Option Addr} {n : Nat} {rs : List R} (h : Recs w B A n rs) (hB : B ≤ B') (hk : ∀ p : Addr, p.block < B → w'.cell? p = w.cell? p) : Recs w' B' A n rs :=
  ⟨h.len, fun hn => by
    obtain ⟨b, o, hA, hb, hr⟩ := h.at_ hn
    exact ⟨b, o, hA, by omega, fun k r e => (hr k r e).of_same fun i => hk _ hb⟩, h.ok⟩
theorem Recs.below {w w' : World} {B B' C : Nat} {A : Option Addr} {n : Nat} {rs : List R} (h : Recs w B A n rs) (hb : Below C w w') (hC : B ≤ C) (hB : B ≤ B') : Recs w' B' A n rs :=
  h.keep hB fun _ hp => hb.cell (Nat.lt_of_lt_of_le hp hC)

/-- How many letters the first k have. -/
def letters : List R → Nat → Nat
  | _, 0 => 0
  | [], _ + 1 => 0
  | r :: rs, k + 1 => r.name.size + r.name2.size + r.data.size + letters rs k
theorem letters_snoc : ∀ (rs : List R) (k : Nat) (r : R), rs[k]? = some r → letters rs (k + 1) = letters rs k + (r.name.size + r.name2.size + r.data.size)
  | [], k, r, h => by simp at h
  | x :: rs, 0, r, h => by simp at h; subst h; simp [letters]
  | x :: rs, k + 1, r, h => by
    have := letters_snoc rs k r (by simpa using h)
    show _ + letters rs (k + 1) = _ + letters rs k + _
    omega
theorem letters_le {rs : List R} (h : ∀ r ∈ rs, r.Ok) : ∀ k, letters rs k ≤ k * 422212465065984 := by
  induction rs with
  | nil => intro k; cases k <;> simp [letters]
  | cons r rs ih =>
    intro k
    cases k with
    | zero => simp [letters]
    | succ k =>
      have h1 := ih (fun r hr => h r (List.mem_cons_of_mem _ hr)) k
      obtain ⟨_, h2, h3, h4, _⟩ := h r (List.mem_cons_self ..)
      show _ + letters rs k ≤ _
      omega

/-- Long's answer. -/
def longB (rs : List R) : Bool := decide (60 < rs.length) || decide (8192 < letters rs (min rs.length 100))

set_option maxHeartbeats 1000000 in
theorem long_any (A : Option Addr) (n c B : Nat) (rs : List R) (w : World) (h : Recs w B A n rs) (hn : n ≤ maxLen) :
    Calls Try.prog 5 #[.slice A n c] w fun e w' => e = .returned (.bool (longB rs)) ∧ ∃ k, w.drewN k = w' := by
  unfold maxLen at hn
  have hl := letters_le h.ok
  have HL := Lib.hid hl
  clear hl
  go_enter Try.func5, Try.ntmps5
  go_wp2
  go_loopw [3, 4] (fun t i wr => ∃ k q : Nat, k ≤ min n 100 ∧ i = .int .i64 k ∧ t = .int .i64 (letters rs k : Nat) ∧ w.drewN q = wr) (fun _ i _ => 101 - (intOf i).toNat)
  case atStart => exact ⟨0, 0, Nat.zero_le _, rfl, by cases rs <;> rfl, rfl⟩
  case round =>
    obtain ⟨k, q, hk, rfl, rfl, rfl⟩ := hrel
    have hb := HL.out k
    by_cases he : k = min n 100
    · have hfin : longB rs = (decide (60 < n) || decide (8192 < letters rs k)) := by unfold longB; rw [h.len, he]
      have hf := Lib.hid hfin
      have hq1 : ∃ q', w.drewN q' = w.drewN q := ⟨q, rfl⟩
      have hq := Lib.hid hq1
      clear hfin hq1
      have h1 : ¬ ((k : Int) < n ∧ (k : Int) < 100) := by omega
      by_cases hkn : (k : Int) < n
      · have h2 : ¬ (k : Int) < 100 := fun hh => h1 ⟨hkn, hh⟩
        have h60 : (60 : Int) < n := by omega
        clear h1 he
        go_wp2
        go_ret
        exact ⟨by rw [hf.out]; simp; omega, hq.out⟩
      · clear h1 he
        by_cases h60 : (60 : Int) < n
        · go_wp2
          go_ret
          exact ⟨by rw [hf.out]; simp; omega, hq.out⟩
        · by_cases h8 : (8192 : Int) < (letters rs k : Nat)
          · go_wp2
            go_ret
            exact ⟨by rw [hf.out]; simp; omega, hq.out⟩
          · go_wp2
            go_ret
            exact ⟨by rw [hf.out]; simp; omega, hq.out⟩
    · have hk1 : k < n := by omega
      have hk2 : k < 100 := by omega
      obtain ⟨b, o, r, rfl, _, hr, hat, hok⟩ := h.get hk1
      have hs := Lib.hid (letters_snoc rs k r hr)
      have c3 := hat.c3
      have c7 := hat.c7
      have c11 := hat.c11
      obtain ⟨_, z1, z2, z3, _⟩ := hok
      go_wp2
      go_quiet (fail)
      go_wp2
      go_roundw
      case rel => exact ⟨k + 1, _, by omega, by go_num, by rw [hs.out]; go_num, rfl⟩
      case measure => simp [intOf]; omega
end Go.Proofs.Ytnnidgjfjgkdpaa
