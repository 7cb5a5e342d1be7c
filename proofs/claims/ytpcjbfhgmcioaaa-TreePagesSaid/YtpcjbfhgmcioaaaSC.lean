/- The steps that come in, and Long. -/
import Derived.Test.YtpcjbfhgmcioaaaSB
namespace Go.Proofs.Ytpcjbfhgmcioaaa
open Go.RowKit Go.Maps

structure PStep where
  what : Int
  dir : Int
  ino : Int
  name : ByteArray
  toN : ByteArray
  kind : Int
  n : Int
  data : ByteArray
structure StepAt (w : World) (b o : Nat) (s : PStep) : Prop where
  c0 : w.cell? ⟨b, o, none⟩ = some (.int .i64 s.what)
  c1 : w.cell? ⟨b, o + 1, none⟩ = some (.int .u32 s.dir)
  c2 : w.cell? ⟨b, o + 2, none⟩ = some (.int .u32 s.ino)
  c3 : w.cell? ⟨b, o + 3, none⟩ = some (.string s.name)
  c4 : w.cell? ⟨b, o + 4, none⟩ = some (.string s.toN)
  c5 : w.cell? ⟨b, o + 5, none⟩ = some (.int .u8 s.kind)
  c6 : w.cell? ⟨b, o + 6, none⟩ = some (.int .i64 s.n)
  c7 : w.cell? ⟨b, o + 7, none⟩ = some (.string s.data)
theorem StepAt.below {B : Nat} {w w' : World} {b o : Nat} {s : PStep} (h : StepAt w b o s) (hb : Below B w w') (hlt : b < B) : StepAt w' b o s :=
  have key : ∀ j, w'.cell? ⟨b, j, none⟩ = w.cell? ⟨b, j, none⟩ := fun j => hb.cell (p := ⟨b, j, none⟩) hlt
  ⟨(key _).trans h.c0, (key _).trans h.c1, (key _).trans h.c2, (key _).trans h.c3, (key _).trans h.c4, (key _).trans h.c5, (key _).trans h.c6, (key _).trans h.c7⟩
structure StepFits (s : PStep) : Prop where
  dir : U32 s.dir
  ino : U32 s.ino
  name : s.name.size ≤ maxLen
  toN : s.toN.size ≤ maxLen
  kind : 0 ≤ s.kind ∧ s.kind ≤ 255
  data : s.data.size ≤ maxLen
structure Steps (w : World) (A : Option Addr) (n : Nat) (f : Nat → PStep) : Prop where
  at_ : 0 < n → ∃ b o, A = some ⟨b, o, none⟩ ∧ b < w.heap.size ∧ ∀ k, k < n → StepAt w b (o + k * 8) (f k)
  fits : ∀ k, k < n → StepFits (f k)
theorem Steps.below {w w' : World} {A : Option Addr} {n : Nat} {f : Nat → PStep} (h : Steps w A n f) (hb : Below w.heap.size w w') : Steps w' A n f :=
  ⟨fun h0 => by
    obtain ⟨b, o, e, hlt, hs⟩ := h.at_ h0
    exact ⟨b, o, e, Nat.lt_of_lt_of_le hlt hb.size, fun k hk => (hs k hk).below hb hlt⟩, h.fits⟩

def LongQ (n : Nat) (w : World) (e : Ending) (w' : World) : Prop := ∃ b, e = .returned (.bool b) ∧ (b = false → n ≤ 150) ∧ Below w.heap.size w w'
set_option maxRecDepth 100000 in
set_option maxHeartbeats 4000000 in
theorem t_long (A : Option Addr) (n c : Nat) (f : Nat → PStep) (w : World) (hs : Steps w A n f) (hn : n ≤ maxLen) :
    Calls Try.prog 4 #[.slice A n c] w (LongQ n w) := by
  unfold maxLen at hn
  have HS := Lib.hid hs
  clear hs
  go_enter Try.func4, Try.ntmps4
  go_wp2
  go_loopw [3, 4] (fun s i W => ∃ (k : Nat) (x : Int), i = .int .i64 k ∧ s = .int .i64 x ∧ k ≤ n ∧ k ≤ 300 ∧ Below w.heap.size w W) (fun _ i _ => n - (intOf i).toNat)
  case atStart => exact ⟨0, 0, rfl, rfl, Nat.zero_le _, by omega, Below.refl _ _⟩
  case round =>
    obtain ⟨k, x, rfl, rfl, hk, hk3, hB⟩ := hrel
    have HBW := Lib.hid hB
    clear hB
    by_cases he : k = n ∨ k = 300
    · go_wp2
      all_goals go_ret
      all_goals exact ⟨_, rfl, fun hf => by first | (cases hf; done) | omega | (simp at hf; omega), HBW.out⟩
    · have hkn : k < n := by omega
      have hk4 : k < 300 := by omega
      obtain ⟨b, o, rfl, hlt, hc⟩ := HS.out.at_ (by omega)
      have hst := (hc k hkn).below HBW.out hlt
      have c3 := hst.c3
      have c4 := hst.c4
      have c7 := hst.c7
      clear hst hc he
      go_wp2
      go_quiet (fail)
      generalize hw2 : wr.drewN _ = w2
      have HB : Hid (Below w.heap.size w w2) := by rw [← hw2]; exact pbelow_drewN HBW.out _
      clear hw2
      go_wp2
      go_roundw
      case rel => exact ⟨k + 1, _, by go_num, rfl, by omega, by omega, HB.out⟩
      case measure => simp [intOf]; omega
end Go.Proofs.Ytpcjbfhgmcioaaa
