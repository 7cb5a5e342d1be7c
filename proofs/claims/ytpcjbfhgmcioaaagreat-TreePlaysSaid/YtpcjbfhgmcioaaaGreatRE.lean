/- Questions that are asked one behind the other: check. -/
import Derived.Test.YtpcjbfhgmcioaaaGreatRD
namespace Go.Proofs.YtpcjbfhgmcioaaaGreat
open Go.RowKit Go.Maps

def Enters (g : Nat) : Prop := ∀ args w, (callFunc g args).run Tryz.prog w = .ok (.enter g args) w
/-- A function value that, whenever it is called, does so. -/
def Does (w : World) (v : Value) (R : World → Int → World → Prop) : Prop :=
  ∃ g lb, v = .func (.func g) #[] lb ∧ Enters g ∧ ∀ W, Below w.heap.size w W → Calls Tryz.prog g lb W fun e W' => ∃ x, e = .returned (.int .i64 x) ∧ R W x W'
/-- It answers e, and turns nothing. -/
def Quiet (e : Int) : World → Int → World → Prop := fun W x W' => x = e ∧ Below W.heap.size W W'
abbrev Question (w : World) (v : Value) (e : Int) : Prop := Does w v (Quiet e)
theorem Does.later {w w' : World} {v : Value} {R : World → Int → World → Prop} (h : Does w v R) (hb : Below w.heap.size w w') : Does w' v R := by
  obtain ⟨g, lb, h1, h2, h3⟩ := h
  exact ⟨g, lb, h1, h2, fun W hW => h3 W (ptrans hb hW)⟩

def CheckPost (w : World) (R : World → Int → World → Prop) (e : Ending) (w' : World) : Prop := ∃ x W, e = .returned (.int .i64 x) ∧ Below w.heap.size w W ∧ R W x w'
def CheckRel (w : World) (R : World → Int → World → Prop) (k n : Nat) (j : Nat) (wr : World) : Prop := (j ≤ k ∧ Below w.heap.size w wr) ∨ (j = n ∧ ∃ W, Below w.heap.size w W ∧ R W 0 wr)
set_option maxHeartbeats 4000000 in
theorem t_check (a : Addr) (A : Option Addr) (vs : List Value) (c k : Nat) (R : World → Int → World → Prop) (w : World) (hn : vs.length ≤ maxLen) (hs : SliceAt w A vs)
    (hq : ∀ j v, j < k → vs[j]? = some v → Question w v 0) (v : Value) (hv : vs[k]? = some v) (hd : Does w v R) (hstop : ∀ W x W', R W x W' → x ≠ 0 ∨ k + 1 = vs.length) :
    Calls Tryz.prog 37 #[.pointer (some a), .slice A vs.length c] w (CheckPost w R) := by
  have HQ := Lib.hid hq
  have HS := Lib.hid hs
  have HV := Lib.hid hv
  have HD := Lib.hid hd
  have HT := Lib.hid hstop
  have hk : k < vs.length := (List.getElem?_eq_some_iff.1 hv).1
  unfold maxLen at hn
  clear hq hs hv hd hstop
  go_enter Tryz.func37, Tryz.ntmps37
  go_wp2
  go_loopw [12] (fun i wr => ∃ j : Nat, j ≤ vs.length ∧ i = .int .i64 j ∧ CheckRel w R k vs.length j wr) (fun i _ => vs.length - (intOf i).toNat)
  case atStart => exact ⟨0, Nat.zero_le _, rfl, .inl ⟨Nat.zero_le _, Below.refl _ _⟩⟩
  case round =>
    obtain ⟨j, hj, rfl, hrl⟩ := hrel
    rcases hrl with ⟨hjk, hb⟩ | ⟨hjn, hend⟩
    · have hjn : j < vs.length := by omega
      obtain ⟨b, o, rfl, hlt, hc⟩ := HS.out (by omega)
      by_cases hjk2 : j = k
      · have c1 := (hb.cell (p := ⟨b, o + j, none⟩) hlt).trans (hc j v (by rw [hjk2]; exact HV.out))
        have HJ := Lib.hid hjk2
        obtain ⟨g, lb, rfl, eg, hcall⟩ := HD.out
        have cS := hcall wr hb
        unfold Enters at eg
        clear hc hcall hjk2
        have HB := Lib.hid hb
        have HXX : Hid (∀ x W', R wr x W' → x ≠ 0 ∨ j + 1 = vs.length) := fun x W' h => (HT.out wr x W' h).imp id (fun h => by rw [HJ.out]; exact h)
        clear hb
        go_wp2_with (go_at_fn g; refine cS.mono ?_; rintro e W' ⟨x, rfl, hR⟩; have HR := Lib.hid hR; clear hR)
        · go_ret
          exact ⟨x, wr, rfl, HB.out, HR.out⟩
        · have hx : x = 0 := by have h : (x != 0) = false := by assumption
                                simpa using h
          subst hx
          go_roundw
          case rel => exact ⟨j + 1, by omega, by go_num, .inr ⟨(HXX.out 0 W' HR.out).resolve_left (fun h => h rfl), wr, HB.out, HR.out⟩⟩
          case measure => simp [intOf]; omega
      · have hjk3 : j < k := by omega
        have hx := List.getElem?_eq_getElem hjn
        have c1 := (hb.cell (p := ⟨b, o + j, none⟩) hlt).trans (hc j _ hx)
        obtain ⟨g, lb, hxe, eg, hcall⟩ := HQ.out j _ hjk3 hx
        have cS := hcall wr hb
        rw [hxe] at c1
        unfold Enters at eg
        clear hc hcall hx hxe
        go_wp2_with (go_at_fn g; refine cS.mono ?_; rintro e W' ⟨x, rfl, rfl, hb2⟩)
        go_roundw
        case rel => exact ⟨j + 1, by omega, by go_num, .inl ⟨by omega, ptrans hb hb2⟩⟩
        case measure => simp [intOf]; omega
    · have hjn' : ¬ j < vs.length := by omega
      have HE : Hid (CheckPost w R (.returned (.int .i64 0)) wr) := by
        obtain ⟨W, h1, h2⟩ := hend
        exact ⟨0, W, rfl, h1, h2⟩
      clear hend hjn
      go_wp2
      go_ret
      exact HE.out
end Go.Proofs.YtpcjbfhgmcioaaaGreat
