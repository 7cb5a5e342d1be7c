/- Whether one of a row is as a function value says: slices.ContainsFunc. -/
import Derived.Test.YtpcjbfhgmcioaaaGreatRB
import Derived.Shelf.Abstract
namespace Go.Proofs.YtpcjbfhgmcioaaaGreat
open Go.RowKit

/-- A slice's elements, of one cell each. -/
def SliceAt (w : World) (A : Option Addr) (xs : List Value) : Prop :=
  0 < xs.length → ∃ b o, A = some ⟨b, o, none⟩ ∧ b < w.heap.size ∧ ∀ j x, xs[j]? = some x → w.cell? ⟨b, o + j, none⟩ = some x
theorem SliceAt.below {w w' : World} {A : Option Addr} {xs : List Value} (h : SliceAt w A xs) (hb : Below w.heap.size w w') : SliceAt w' A xs := fun h0 => by
  obtain ⟨b, o, h1, h2, h3⟩ := h h0
  exact ⟨b, o, h1, Nat.lt_of_lt_of_le h2 hb.size, fun j x hx => (hb.cell (p := ⟨b, o + j, none⟩) h2).trans (h3 j x hx)⟩
/-- A slice that was built of values. -/
theorem SliceAt.built (w : World) (xs : List Value) (T : TypeId) : SliceAt (w.alloc (.cells xs.toArray T)) (some ⟨w.heap.size, 0, none⟩) xs := fun _ =>
  ⟨_, 0, rfl, by simp, fun j x hx => by simp [World.cell?_alloc_new, hx]⟩
/-- A function value that says yes or no. -/
def PredV (w : World) (g : Nat) (lb : Array Value) (p : Value → Bool) (xs : List Value) : Prop :=
  ∀ W x, x ∈ xs → Below w.heap.size w W → Calls Tryz.prog g (#[x] ++ lb) W fun e W' => e = .returned (.bool (p x)) ∧ Below W.heap.size W W'
theorem ptrans {a b c : World} (h : Below a.heap.size a b) (k : Below b.heap.size b c) : Below a.heap.size a c := h.trans (k.mono h.size)
def FoundI (b : Bool) (e : Ending) : Prop := ∃ k : Int, e = .returned (.int .i64 k) ∧ decide (0 ≤ k) = b
theorem any_take_false {xs : List Value} {p : Value → Bool} {j : Nat} {x : Value} (h : (xs.take j).any p = false) (hx : xs[j]? = some x) (hp : p x = false) : (xs.take (j + 1)).any p = false := by
  rw [List.take_add_one, hx]; simp [h, hp]
theorem any_hit {xs : List Value} {p : Value → Bool} {x : Value} (hx : x ∈ xs) (hp : p x = true) : xs.any p = true := List.any_eq_true.2 ⟨x, hx, hp⟩

set_option maxHeartbeats 2000000 in
theorem t_indexStr (A : Option Addr) (n c : Nat) (xs : List Value) (g : Nat) (lb : Array Value) (p : Value → Bool) (w : World) (hl : xs.length = n) (hn : n ≤ maxLen) (hs : SliceAt w A xs)
    (eg : ∀ args w, (callFunc g args).run Tryz.prog w = .ok (.enter g args) w) (hp : PredV w g lb p xs) :
    Calls Tryz.prog 118 #[.slice A n c, .func (.func g) #[] lb] w fun e w' => FoundI (xs.any p) e ∧ Below w.heap.size w w' := by
  subst hl
  unfold maxLen at hn
  have HP := Lib.hid hp
  have HS := Lib.hid hs
  clear hp hs
  go_enter Tryz.func118, Tryz.ntmps118
  go_wp2
  go_loopw [8] (fun i wr => ∃ j : Nat, j ≤ xs.length ∧ i = .int .i64 j ∧ Hid ((xs.take j).any p = false) ∧ Below w.heap.size w wr) (fun i _ => xs.length - (intOf i).toNat)
  case atStart => exact ⟨0, Nat.zero_le _, rfl, rfl, Below.refl _ _⟩
  case round =>
    obtain ⟨j, hj, rfl, hno, hb⟩ := hrel
    by_cases hjn : j < xs.length
    · obtain ⟨b, o, rfl, hlt, hc⟩ := HS.out (by omega)
      have hx := List.getElem?_eq_getElem hjn
      have c1 := (hb.cell (p := ⟨b, o + j, none⟩) hlt).trans (hc j _ hx)
      have cS := HP.out wr xs[j] (List.getElem_mem hjn) hb
      have HX := Lib.hid hx
      obtain ⟨x, hxe⟩ : ∃ x, xs[j] = x := ⟨_, rfl⟩
      have HM : Hid (x ∈ xs) := by rw [← hxe]; exact List.getElem_mem hjn
      rw [hxe] at c1 cS HX
      clear hx hc hxe
      cases hpx : p x with
      | true =>
        rw [hpx] at cS
        have HF : Hid (FoundI (xs.any p) (.returned (.int .i64 (j : Int)))) := ⟨_, rfl, by rw [any_hit HM.out hpx]; simp⟩
        clear hpx
        go_wp2_with (go_at_fn g; refine cS.mono ?_; rintro e W' ⟨rfl, hb2⟩)
        go_ret
        exact ⟨HF.out, ptrans hb hb2⟩
      | false =>
        rw [hpx] at cS
        have HF : Hid ((xs.take (j + 1)).any p = false) := any_take_false hno.out HX.out hpx
        clear hpx
        go_wp2_with (go_at_fn g; refine cS.mono ?_; rintro e W' ⟨rfl, hb2⟩)
        go_roundw
        case rel => exact ⟨j + 1, by omega, by go_num, HF, ptrans hb hb2⟩
        case measure => simp [intOf]; omega
    · have HF : Hid (FoundI (xs.any p) (.returned (.int .i64 (-1)))) := ⟨_, rfl, by rw [List.take_of_length_le (by omega)] at hno; rw [hno.out]; rfl⟩
      go_wp2
      go_ret
      exact ⟨HF.out, hb⟩
set_option maxHeartbeats 2000000 in
theorem t_indexU32 (A : Option Addr) (n c : Nat) (xs : List Value) (g : Nat) (lb : Array Value) (p : Value → Bool) (w : World) (hl : xs.length = n) (hn : n ≤ maxLen) (hs : SliceAt w A xs)
    (eg : ∀ args w, (callFunc g args).run Tryz.prog w = .ok (.enter g args) w) (hp : PredV w g lb p xs) :
    Calls Tryz.prog 121 #[.slice A n c, .func (.func g) #[] lb] w fun e w' => FoundI (xs.any p) e ∧ Below w.heap.size w w' := by
  subst hl
  unfold maxLen at hn
  have HP := Lib.hid hp
  have HS := Lib.hid hs
  clear hp hs
  go_enter Tryz.func121, Tryz.ntmps121
  go_wp2
  go_loopw [8] (fun i wr => ∃ j : Nat, j ≤ xs.length ∧ i = .int .i64 j ∧ Hid ((xs.take j).any p = false) ∧ Below w.heap.size w wr) (fun i _ => xs.length - (intOf i).toNat)
  case atStart => exact ⟨0, Nat.zero_le _, rfl, rfl, Below.refl _ _⟩
  case round =>
    obtain ⟨j, hj, rfl, hno, hb⟩ := hrel
    by_cases hjn : j < xs.length
    · obtain ⟨b, o, rfl, hlt, hc⟩ := HS.out (by omega)
      have hx := List.getElem?_eq_getElem hjn
      have c1 := (hb.cell (p := ⟨b, o + j, none⟩) hlt).trans (hc j _ hx)
      have cS := HP.out wr xs[j] (List.getElem_mem hjn) hb
      have HX := Lib.hid hx
      obtain ⟨x, hxe⟩ : ∃ x, xs[j] = x := ⟨_, rfl⟩
      have HM : Hid (x ∈ xs) := by rw [← hxe]; exact List.getElem_mem hjn
      rw [hxe] at c1 cS HX
      clear hx hc hxe
      cases hpx : p x with
      | true =>
        rw [hpx] at cS
        have HF : Hid (FoundI (xs.any p) (.returned (.int .i64 (j : Int)))) := ⟨_, rfl, by rw [any_hit HM.out hpx]; simp⟩
        clear hpx
        go_wp2_with (go_at_fn g; refine cS.mono ?_; rintro e W' ⟨rfl, hb2⟩)
        go_ret
        exact ⟨HF.out, ptrans hb hb2⟩
      | false =>
        rw [hpx] at cS
        have HF : Hid ((xs.take (j + 1)).any p = false) := any_take_false hno.out HX.out hpx
        clear hpx
        go_wp2_with (go_at_fn g; refine cS.mono ?_; rintro e W' ⟨rfl, hb2⟩)
        go_roundw
        case rel => exact ⟨j + 1, by omega, by go_num, HF, ptrans hb hb2⟩
        case measure => simp [intOf]; omega
    · have HF : Hid (FoundI (xs.any p) (.returned (.int .i64 (-1)))) := ⟨_, rfl, by rw [List.take_of_length_le (by omega)] at hno; rw [hno.out]; rfl⟩
      go_wp2
      go_ret
      exact ⟨HF.out, hb⟩
theorem t_containsStr (A : Option Addr) (n c : Nat) (xs : List Value) (g : Nat) (lb : Array Value) (p : Value → Bool) (r : Bool) (hr : xs.any p = r) (w : World) (hl : xs.length = n) (hn : n ≤ maxLen) (hs : SliceAt w A xs)
    (eg : ∀ args w, (callFunc g args).run Tryz.prog w = .ok (.enter g args) w) (hp : PredV w g lb p xs) :
    Calls Tryz.prog 88 #[.slice A n c, .func (.func g) #[] lb] w fun e w' => e = .returned (.bool r) ∧ Below w.heap.size w w' := by
  have HR := Lib.hid hr
  clear hr
  have HP := Lib.hid (t_indexStr A n c xs g lb p w hl hn hs eg hp)
  clear hp hs
  go_enter Tryz.func88, Tryz.ntmps88
  go_wp2_with (go_at_call 118; refine HP.out.mono ?_; rintro e w' ⟨⟨k, rfl, hk⟩, hb⟩; have HN : Hid (decide (0 ≤ k) = r) := hk.trans HR.out; clear hk)
  go_ret
  exact ⟨pret_bool HN.out, hb⟩
theorem t_containsU32 (A : Option Addr) (n c : Nat) (xs : List Value) (g : Nat) (lb : Array Value) (p : Value → Bool) (r : Bool) (hr : xs.any p = r) (w : World) (hl : xs.length = n) (hn : n ≤ maxLen) (hs : SliceAt w A xs)
    (eg : ∀ args w, (callFunc g args).run Tryz.prog w = .ok (.enter g args) w) (hp : PredV w g lb p xs) :
    Calls Tryz.prog 93 #[.slice A n c, .func (.func g) #[] lb] w fun e w' => e = .returned (.bool r) ∧ Below w.heap.size w w' := by
  have HR := Lib.hid hr
  clear hr
  have HP := Lib.hid (t_indexU32 A n c xs g lb p w hl hn hs eg hp)
  clear hp hs
  go_enter Tryz.func93, Tryz.ntmps93
  go_wp2_with (go_at_call 121; refine HP.out.mono ?_; rintro e w' ⟨⟨k, rfl, hk⟩, hb⟩; have HN : Hid (decide (0 ≤ k) = r) := hk.trans HR.out; clear hk)
  go_ret
  exact ⟨pret_bool HN.out, hb⟩
end Go.Proofs.YtpcjbfhgmcioaaaGreat
