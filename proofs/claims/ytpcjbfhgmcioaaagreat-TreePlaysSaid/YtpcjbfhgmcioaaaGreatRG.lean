/- The other questions of the program's tree. -/
import Derived.Test.YtpcjbfhgmcioaaaGreatRF
import Derived.Deep.QuietTactic
namespace Go.Proofs.YtpcjbfhgmcioaaaGreat
open Go.RowKit Go.Maps

theorem pbelow_drewN {B : Nat} {a w : World} (h : Below B a w) (n : Nat) : Below B a (w.drewN n) := ⟨h.os, h.tape, h.output, h.size, h.block⟩
theorem quiet_eq {P : Program} {f : FuncId} {args : Array Value} {w : World} {n : Nat} {v : Value}
    (h : Calls P f args (w.drewN n) fun e w' => e = .returned v ∧ w.drewN n = w') : Calls P f args (w.drewN n) fun e w'' => e = .returned v ∧ ∃ m, w'' = w.drewN m :=
  h.mono fun _ _ ⟨he, hm⟩ => ⟨he, n, hm.symm⟩
def AQ (r : Int) (w : World) (e : Ending) (w' : World) : Prop := ∃ x, e = .returned (.int .i64 x) ∧ Quiet r w x w'
theorem AQ.mk {r : Int} {w w' : World} {a : Int} (h : a = r) (hb : Below w.heap.size w w') : AQ r w (.returned (.int .i64 a)) w' := ⟨a, rfl, h, hb⟩

def kindsE (k : Int) : Int := if (k != 1 && k != 2) = true then 2 else 0
theorem t_kinds1 (B : Nat) (k r : Int) (hr : kindsE k = r) (w : World) (hc : w.cell? ⟨B, 0, none⟩ = some (.int .u8 k)) :
    Calls Tryz.prog 91 #[.pointer (some ⟨B, 0, none⟩)] w (AQ r w) := by
  cases h1 : (k != 1) with
  | false =>
    have HR : Hid ((if false = true then (2 : Int) else 0) = r) := by show _ = _; rw [← hr]; simp [kindsE, h1]
    clear hr
    go_enter Tryz.func91, Tryz.ntmps91
    go_wp2_with (go_at_call 44; refine (t_as false 2 _ HR.out _).mono ?_; rintro e w' ⟨rfl, rfl⟩)
    go_ret
    exact AQ.mk rfl (Below.refl _ _)
  | true =>
    obtain ⟨b, hb⟩ : ∃ b, (k != 2) = b := ⟨_, rfl⟩
    have HR : Hid ((if b = true then (2 : Int) else 0) = r) := by show _ = _; rw [← hr]; simp [kindsE, h1, hb]
    clear hr
    go_enter Tryz.func91, Tryz.ntmps91
    go_wp2_with (go_at_call 44; refine (t_as b 2 _ HR.out _).mono ?_; rintro e w' ⟨rfl, rfl⟩)
    go_ret
    exact AQ.mk rfl (Below.refl _ _)
def pagedE (p : Int) : Int := if p < 0 ∨ 36 ≤ p then 2 else 0
theorem t_paged1 (B : Nat) (p r : Int) (hr : pagedE p = r) (w : World) (hc : w.cell? ⟨B, 0, none⟩ = some (.int .i64 p)) :
    Calls Tryz.prog 99 #[.pointer (some ⟨B, 0, none⟩)] w (AQ r w) := by
  by_cases h1 : p < 0
  · have HR : Hid ((if true = true then (2 : Int) else 0) = r) := by show _ = _; rw [← hr]; simp [pagedE, h1]
    clear hr
    go_enter Tryz.func99, Tryz.ntmps99
    go_wp2_with (go_at_call 44; refine (t_as true 2 _ HR.out _).mono ?_; rintro e w' ⟨rfl, rfl⟩)
    go_ret
    exact AQ.mk rfl (Below.refl _ _)
  · obtain ⟨b, hb⟩ : ∃ b, decide (36 ≤ p) = b := ⟨_, rfl⟩
    have HR : Hid ((if b = true then (2 : Int) else 0) = r) := by
      show _ = _; rw [← hr, ← hb]; simp [pagedE, h1]
    clear hr
    go_enter Tryz.func99, Tryz.ntmps99
    go_wp2_with (go_at_call 44; refine (t_as b 2 _ HR.out _).mono ?_; rintro e w' ⟨rfl, rfl⟩)
    go_ret
    exact AQ.mk rfl (Below.refl _ _)
def sizedE (n : Int) : Int := if 2304 < n then 2 else 0
theorem t_resize1 (B : Nat) (n r : Int) (hr : sizedE n = r) (w : World) (hc : w.cell? ⟨B, 0, none⟩ = some (.int .u32 n)) :
    Calls Tryz.prog 84 #[.pointer (some ⟨B, 0, none⟩)] w (AQ r w) := by
  obtain ⟨b, hb⟩ : ∃ b, decide (2304 < n) = b := ⟨_, rfl⟩
  have HR : Hid ((if b = true then (2 : Int) else 0) = r) := by
    show _ = _; rw [← hr, ← hb]; unfold sizedE; simp
  clear hr
  go_enter Tryz.func84, Tryz.ntmps84
  go_wp2_with (go_at_call 44; refine (t_as b 2 _ HR.out _).mono ?_; rintro e w' ⟨rfl, rfl⟩)
  go_ret
  exact AQ.mk rfl (Below.refl _ _)
def dataE (d : ByteArray) : Int := if d.size = 0 ∨ 64 < d.size then 2 else 0
theorem t_write1 (B : Nat) (d : ByteArray) (r : Int) (hr : dataE d = r) (w : World) (hd : d.size ≤ maxLen) (hc : w.cell? ⟨B, 0, none⟩ = some (.string d)) :
    Calls Tryz.prog 50 #[.pointer (some ⟨B, 0, none⟩)] w (AQ r w) := by
  unfold maxLen at hd
  have hl := ptoList_length d
  by_cases h1 : d.size = 0
  · have h2 : (d.toList == []) = true := by rw [List.eq_nil_of_length_eq_zero (hl.trans h1)]; rfl
    have HR : Hid ((if true = true then (2 : Int) else 0) = r) := by show _ = _; rw [← hr]; simp [dataE, h1]
    clear hr hl h1
    go_enter Tryz.func50, Tryz.ntmps50
    go_wp2_with (go_at_call 44; refine (t_as true 2 _ HR.out _).mono ?_; rintro e w' ⟨rfl, rfl⟩)
    go_ret
    exact AQ.mk rfl (Below.refl _ _)
  · have h2 : (d.toList == []) = false := by
      rw [Bool.eq_false_iff]; intro h
      have : d.toList = [] := by simpa using h
      rw [this] at hl; simp at hl; omega
    obtain ⟨b, hb⟩ : ∃ b, decide (64 < d.size) = b := ⟨_, rfl⟩
    have hb2 : decide (64 < (d.size : Int)) = b := by rw [← hb, decide_eq_decide]; omega
    have HR : Hid ((if b = true then (2 : Int) else 0) = r) := by
      show _ = _; rw [← hr, ← hb]; simp [dataE, h1]
    clear hr hl h1
    go_enter Tryz.func50, Tryz.ntmps50
    go_wp2_with (go_at_call 44; refine (t_as b 2 _ HR.out _).mono ?_; rintro e w' ⟨rfl, rfl⟩)
    go_ret
    exact AQ.mk rfl (Below.refl _ _)

section
variable {F : Nat → Prop} {P N : Nat} {y : Lay} {t : PT}
def fileQE (x : PN) : Int := if (x.kind == 2) = true then 181 else 0
theorem t_file1 (i : Int) (x : PN) (B1 B2 : Nat) (r : Int) (hr : fileQE x = r) (w : World) (h : TreeM w F P N y t) (hx : t.n i = some x) (hc1 : w.cell? ⟨B1, 0, none⟩ = some (.pointer (some ⟨P, 0, none⟩))) (hc2 : w.cell? ⟨B2, 0, none⟩ = some (.int .u32 i)) :
    Calls Tryz.prog 98 #[.pointer (some ⟨B1, 0, none⟩), .pointer (some ⟨B2, 0, none⟩)] w (AQ r w) := by
  have c1 := h.c1
  have hl : ∀ n, (Instr.lookup 66 (.map (some y.M)) (.int .u32 i) false).run Tryz.prog (w.drewN n) = .ok (.pointer (some ⟨y.f i, 0, none⟩)) (w.drewN n) := fun n => (h.below (pbelow_drewN (Below.refl _ _) n)).look_some hx
  have k0 := (h.node i x hx).cell 0
  obtain ⟨d, hd⟩ : ∃ d, (x.kind == 2) = d := ⟨_, rfl⟩
  have HD := Lib.hid hd
  have HR : Hid ((if d = true then (181 : Int) else 0) = r) := by show _ = _; rw [← hr, ← hd]; rfl
  have HK : Hid (∀ n, (w.drewN n).cell? ⟨y.f i, 0, none⟩ = some (.int .u8 x.kind)) := fun _ => k0
  clear hr hx h hd k0
  go_enter Tryz.func98, Tryz.ntmps98
  go_wp2
  go_quiet ((first | (go_at_call 47; exact quiet_eq (t_isdir (y.f i) x.kind d HD.out _ (HK.out _))) | (go_at_call 44; exact quiet_eq (t_as d 181 _ HR.out _))))
  go_wp2
  go_ret
  exact AQ.mk rfl (pbelow_drewN (Below.refl _ _) _)
end
end Go.Proofs.YtpcjbfhgmcioaaaGreat
