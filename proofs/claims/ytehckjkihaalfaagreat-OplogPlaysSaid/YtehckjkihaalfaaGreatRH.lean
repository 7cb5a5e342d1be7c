/- The questions of the program's tree that read an inode, and those that write a number down. -/
import Derived.Test.YtehckjkihaalfaaGreatRG
import Derived.StillTailTactics
import Derived.RegionTactic
import Derived.ChangeAlike
import Derived.BigRegion
namespace Go.Proofs.YtehckjkihaalfaaGreat
open Go.RowKit Go.Maps

theorem pgrown_set (w : World) (G j : Nat) (v : Value) : w.grownBy (w.setCell ⟨G, j, none⟩ v) (some G) :=
  ⟨rfl, rfl, rfl, by simp [World.setCell], fun i _ hne => Below.heap_setCell w ⟨G, j, none⟩ v i (fun e => hne (by rw [e]))⟩
theorem pgrown_drew {a b : World} {r : Option Nat} (h : a.grownBy b r) : a.grownBy b.drew r := ⟨h.os, h.tape, h.output, h.size, h.block⟩
theorem pgrown_trans {a b c : World} {r : Option Nat} (h : a.grownBy b r) (k : b.grownBy c r) : a.grownBy c r :=
  ⟨k.os.trans h.os, k.tape.trans h.tape, k.output.trans h.output, Nat.le_trans h.size k.size, fun i hi hne => (k.block i (Nat.lt_of_lt_of_le hi h.size) hne).trans (h.block i hi hne)⟩
theorem pheap_set (w : World) (G j : Nat) (v : Value) (cs : Array Value) (t : TypeId) (h : w.heap[G]? = some (.cells cs t (0, 0))) : (w.setCell ⟨G, j, none⟩ v).heap[G]? = some (.cells (cs.setIfInBounds j v) t (0, 0)) := by
  simp [World.setCell, Array.getElem?_modify, h]
theorem pcell_set {w : World} {B : Nat} {v0 : Value} {T : TypeId} (h : w.heap[B]? = some (.cells #[v0] T (0, 0))) (v : Value) : (w.setCell ⟨B, 0, none⟩ v).drew.cell? ⟨B, 0, none⟩ = some v := by
  have := pheap_set w B 0 v #[v0] T h
  simp [World.cell?, World.drew, this]

section
variable {F : Nat → Prop} {P N : Nat} {y : Lay} {t : PT}
theorem TreeM.drewN {w : World} (h : TreeM w F P N y t) (n : Nat) : TreeM (w.drewN n) F P N y t := h.below (pbelow_drewN (Below.refl _ _) n)
def freshE (x : PN) (s : ByteArray) : Int := if ((x.l s.data.toList).getD 0 != 0) = true then 9 else 0
theorem t_fresh1 (i : Int) (x : PN) (s : ByteArray) (B1 B2 B3 : Nat) (r : Int) (hr : freshE x s = r) (w : World) (h : TreeM w F P N y t) (hx : t.n i = some x) (hs : s.size ≤ maxLen)
    (hc1 : w.cell? ⟨B1, 0, none⟩ = some (.pointer (some ⟨P, 0, none⟩))) (hc2 : w.cell? ⟨B2, 0, none⟩ = some (.int .u32 i)) (hc3 : w.cell? ⟨B3, 0, none⟩ = some (.string s)) :
    Calls Tryz.prog 205 #[.pointer (some ⟨B1, 0, none⟩), .pointer (some ⟨B2, 0, none⟩), .pointer (some ⟨B3, 0, none⟩)] w (AQ r w) := by
  have c1 := h.c1
  have hl : ∀ n, (Instr.lookup 153 (.map (some y.M)) (.int .u32 i) false).run Tryz.prog (w.drewN n) = .ok (.pointer (some ⟨y.f i, 0, none⟩)) (w.drewN n) := fun n => (h.drewN n).look_some hx
  have hl2 : ∀ n, (Instr.lookup 182 (.map (some (y.L i))) (.string s) false).run Tryz.prog (w.drewN n) = .ok (.int .u32 ((x.l s.data.toList).getD 0)) (w.drewN n) := fun n => ((h.drewN n).node i x hx).look hs
  have k3 : w.cell? ⟨y.f i, 3, none⟩ = some (.map (some (y.L i))) := (h.node i x hx).cell 3
  have hr' : (if ((x.l s.data.toList).getD 0 != 0) = true then (9 : Int) else 0) = r := hr
  obtain ⟨v, hv⟩ : ∃ v, (x.l s.data.toList).getD 0 = v := ⟨_, rfl⟩
  rw [hv] at hr' hl2
  obtain ⟨d, hd⟩ : ∃ d, (v != 0) = d := ⟨_, rfl⟩
  rw [hd] at hr'
  have HR := Lib.hid hr'
  clear hr hr' hx h hv
  go_enter Tryz.func205, Tryz.ntmps205
  go_wp2
  go_quiet ((go_at_call 165; exact quiet_eq (t_as d 9 _ HR.out _)))
  go_wp2
  go_ret
  exact AQ.mk rfl (pbelow_drewN (Below.refl _ _) _)
def roomE (t : PT) (i : Int) : Int := if i < 1 ∨ t.room < i then 2 else 0
theorem t_makeAt1 (i : Int) (B1 B2 : Nat) (r : Int) (hr : roomE t i = r) (w : World) (h : TreeM w F P N y t)
    (hc1 : w.cell? ⟨B1, 0, none⟩ = some (.int .u32 i)) (hc2 : w.cell? ⟨B2, 0, none⟩ = some (.pointer (some ⟨P, 0, none⟩))) :
    Calls Tryz.prog 164 #[.pointer (some ⟨B1, 0, none⟩), .pointer (some ⟨B2, 0, none⟩)] w (AQ r w) := by
  have c0 := h.c0
  by_cases h1 : i < 1
  · have HR : Hid ((if true = true then (2 : Int) else 0) = r) := by show _ = _; rw [← hr]; simp [roomE, h1]
    have g1 : decide (i < 1) = true := by simpa using h1
    clear hr h
    go_enter Tryz.func164, Tryz.ntmps164
    go_wp2
    go_quiet ((go_at_call 165; exact quiet_eq (t_as true 2 _ HR.out _)))
    go_wp2
    go_ret
    exact AQ.mk rfl (pbelow_drewN (Below.refl _ _) _)
  · have g1 : decide (i < 1) = false := by simpa using h1
    obtain ⟨b, hb⟩ : ∃ b, decide (t.room < i) = b := ⟨_, rfl⟩
    have HR : Hid ((if b = true then (2 : Int) else 0) = r) := by show _ = _; rw [← hr, ← hb]; simp [roomE, h1]
    clear hr h
    go_enter Tryz.func164, Tryz.ntmps164
    go_wp2
    go_quiet ((go_at_call 165; exact quiet_eq (t_as b 2 _ HR.out _)))
    go_wp2
    go_ret
    exact AQ.mk rfl (pbelow_drewN (Below.refl _ _) _)
def haveE (t : PT) (i : Int) : Int := if (t.n i).isSome = true then 9 else 0
theorem t_makeAt2 (i : Int) (B1 B2 : Nat) (r : Int) (hr : haveE t i = r) (w : World) (h : TreeM w F P N y t) (hi : U32 i)
    (hc1 : w.cell? ⟨B1, 0, none⟩ = some (.pointer (some ⟨P, 0, none⟩))) (hc2 : w.cell? ⟨B2, 0, none⟩ = some (.int .u32 i)) :
    Calls Tryz.prog 169 #[.pointer (some ⟨B1, 0, none⟩), .pointer (some ⟨B2, 0, none⟩)] w (AQ r w) := by
  have c1 := h.c1
  cases hx : t.n i with
  | none =>
    have hl : ∀ n, (Instr.lookup 153 (.map (some y.M)) (.int .u32 i) false).run Tryz.prog (w.drewN n) = .ok (.pointer none) (w.drewN n) := fun n => (h.drewN n).look_none hi hx
    have HR : Hid ((if false = true then (9 : Int) else 0) = r) := by show _ = _; rw [← hr]; simp [haveE, hx]
    clear hr hx h
    go_enter Tryz.func169, Tryz.ntmps169
    go_wp2
    go_quiet ((go_at_call 165; exact quiet_eq (t_as false 9 _ HR.out _)))
    go_wp2
    go_ret
    exact AQ.mk rfl (pbelow_drewN (Below.refl _ _) _)
  | some x =>
    have hl : ∀ n, (Instr.lookup 153 (.map (some y.M)) (.int .u32 i) false).run Tryz.prog (w.drewN n) = .ok (.pointer (some ⟨y.f i, 0, none⟩)) (w.drewN n) := fun n => (h.drewN n).look_some hx
    have HR : Hid ((if true = true then (9 : Int) else 0) = r) := by show _ = _; rw [← hr]; simp [haveE, hx]
    clear hr hx h
    go_enter Tryz.func169, Tryz.ntmps169
    go_wp2
    go_quiet ((go_at_call 165; exact quiet_eq (t_as true 9 _ HR.out _)))
    go_wp2
    go_ret
    exact AQ.mk rfl (pbelow_drewN (Below.refl _ _) _)
def linksE (x : PN) : Int := if 200 ≤ x.links then 184 else 0
theorem t_link1 (i : Int) (x : PN) (B1 B2 : Nat) (r : Int) (hr : linksE x = r) (w : World) (h : TreeM w F P N y t) (hx : t.n i = some x)
    (hc1 : w.cell? ⟨B1, 0, none⟩ = some (.pointer (some ⟨P, 0, none⟩))) (hc2 : w.cell? ⟨B2, 0, none⟩ = some (.int .u32 i)) :
    Calls Tryz.prog 172 #[.pointer (some ⟨B1, 0, none⟩), .pointer (some ⟨B2, 0, none⟩)] w (AQ r w) := by
  have c1 := h.c1
  have hl : ∀ n, (Instr.lookup 153 (.map (some y.M)) (.int .u32 i) false).run Tryz.prog (w.drewN n) = .ok (.pointer (some ⟨y.f i, 0, none⟩)) (w.drewN n) := fun n => (h.drewN n).look_some hx
  have k1 : w.cell? ⟨y.f i, 1, none⟩ = some (.int .i64 x.links) := (h.node i x hx).cell 1
  obtain ⟨b, hb⟩ : ∃ b, decide (200 ≤ x.links) = b := ⟨_, rfl⟩
  have HR : Hid ((if b = true then (184 : Int) else 0) = r) := by show _ = _; rw [← hr, ← hb]; simp [linksE]
  clear hr hx h
  go_enter Tryz.func172, Tryz.ntmps172
  go_wp2
  go_quiet ((go_at_call 165; exact quiet_eq (t_as b 184 _ HR.out _)))
  go_wp2
  go_ret
  exact AQ.mk rfl (pbelow_drewN (Below.refl _ _) _)

/-- A number is written down in a block of one cell. -/
def Puts (B : Nat) (v r : Int) : World → Int → World → Prop := fun W x W' => x = r ∧ W.grownBy W' (some B) ∧ ∃ v0, W'.heap[B]? = some (.cells #[v0] 32 (0, 0)) ∧ v0 = .int .u32 v
theorem t_look1 (i : Int) (x : PN) (s : ByteArray) (B1 B2 B3 B4 : Nat) (v0 : Value) (v r : Int) (hv : (x.l s.data.toList).getD 0 = v) (hr : (if v = 0 then 3 else 0) = r) (w : World) (h : TreeM w F P N y t) (hx : t.n i = some x) (hs : s.size ≤ maxLen)
    (hc1 : w.cell? ⟨B1, 0, none⟩ = some (.pointer (some ⟨P, 0, none⟩))) (hc2 : w.cell? ⟨B2, 0, none⟩ = some (.int .u32 i)) (hc3 : w.cell? ⟨B3, 0, none⟩ = some (.string s)) (hc4 : w.heap[B4]? = some (.cells #[v0] 32 (0, 0))) :
    Calls Tryz.prog 177 #[.pointer (some ⟨B1, 0, none⟩), .pointer (some ⟨B2, 0, none⟩), .pointer (some ⟨B3, 0, none⟩), .pointer (some ⟨B4, 0, none⟩)] w fun e w' => ∃ x, e = .returned (.int .i64 x) ∧ Puts B4 v r w x w' := by
  have c1 := h.c1
  have hl : ∀ n, (Instr.lookup 153 (.map (some y.M)) (.int .u32 i) false).run Tryz.prog (w.drewN n) = .ok (.pointer (some ⟨y.f i, 0, none⟩)) (w.drewN n) := fun n => (h.drewN n).look_some hx
  have hl2 : ∀ n, (Instr.lookup 182 (.map (some (y.L i))) (.string s) false).run Tryz.prog (w.drewN n) = .ok (.int .u32 v) (w.drewN n) := fun n => by rw [← hv]; exact ((h.drewN n).node i x hx).look hs
  have hl' : (Instr.lookup 153 (.map (some y.M)) (.int .u32 i) false).run Tryz.prog w.drew = .ok (.pointer (some ⟨y.f i, 0, none⟩)) w.drew := hl 1
  have hl2' : (Instr.lookup 182 (.map (some (y.L i))) (.string s) false).run Tryz.prog w.drew = .ok (.int .u32 v) w.drew := hl2 1
  have k3 : w.cell? ⟨y.f i, 3, none⟩ = some (.map (some (y.L i))) := (h.node i x hx).cell 3
  have hc5 : w.cell? ⟨B4, 0, none⟩ = some v0 := by simp [World.cell?, hc4]
  have hf : w.frozen? ⟨B4, 0, none⟩ = false := by simp [World.frozen?, hc4]
  obtain ⟨d, hd⟩ : ∃ d, (v == 0) = d := ⟨_, rfl⟩
  have HR : Hid ((if d = true then (3 : Int) else 0) = r) := by show _ = _; rw [← hr, ← hd]; simp
  have H4 := Lib.hid hc4
  clear hr hx h hv hl hl2 hc4
  go_enter Tryz.func177, Tryz.ntmps177
  go_wp2
  go_region
  go_wp2_with (go_at_call 165; refine (t_as d 3 _ HR.out _).mono ?_; rintro e w' ⟨rfl, rfl⟩)
  go_ret
  exact ⟨r, rfl, rfl, pgrown_drew (pgrown_set _ _ _ _), _, pheap_set _ _ _ _ _ _ H4.out, rfl⟩

def boxN (w : World) (B : Nat) : Nat := match w.cell? ⟨B, 0, none⟩ with | some (.int _ n) => n.toNat | _ => 0
theorem pgrown_drewN {a b : World} {r : Option Nat} (h : a.grownBy b r) (n : Nat) : a.grownBy (b.drewN n) r := ⟨h.os, h.tape, h.output, h.size, h.block⟩
theorem grown_refl (a : World) (r : Option Nat) : a.grownBy a r := ⟨rfl, rfl, rfl, Nat.le_refl _, fun _ _ _ => rfl⟩
/-- Which numbers are taken. -/
def Least (t : PT) (m : Int) : Prop := 1 ≤ m ∧ m ≤ 4294967295 ∧ t.n m = none ∧ ∀ j, 1 ≤ j → j < m → (t.n j).isSome = true
end
end Go.Proofs.YtehckjkihaalfaaGreat
