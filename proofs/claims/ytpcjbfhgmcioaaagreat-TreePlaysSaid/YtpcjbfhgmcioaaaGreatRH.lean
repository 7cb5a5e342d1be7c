/- The questions of the program's tree that read an inode, and those that write a number down. -/
import Derived.Test.YtpcjbfhgmcioaaaGreatRG
import Derived.StillTailTactics
import Derived.RegionTactic
import Derived.ChangeAlike
import Derived.BigRegion
namespace Go.Proofs.YtpcjbfhgmcioaaaGreat
open Go.RowKit Go.Maps

theorem pgrown_set (w : World) (G j : Nat) (v : Value) : w.grownBy (w.setCell ⟨G, j, none⟩ v) (some G) :=
  ⟨rfl, rfl, rfl, by simp [World.setCell], fun i _ hne => Below.heap_setCell w ⟨G, j, none⟩ v i (fun e => hne (by rw [e]))⟩
theorem pgrown_drew {a b : World} {r : Option Nat} (h : a.grownBy b r) : a.grownBy b.drew r := ⟨h.os, h.tape, h.output, h.size, h.block⟩
theorem pgrown_trans {a b c : World} {r : Option Nat} (h : a.grownBy b r) (k : b.grownBy c r) : a.grownBy c r :=
  ⟨k.os.trans h.os, k.tape.trans h.tape, k.output.trans h.output, Nat.le_trans h.size k.size, fun i hi hne => (k.block i (Nat.lt_of_lt_of_le hi h.size) hne).trans (h.block i hi hne)⟩
theorem pheap_set (w : World) (G j : Nat) (v : Value) (cs : Array Value) (t : TypeId) (h : w.heap[G]? = some (.cells cs t (0, 0))) : (w.setCell ⟨G, j, none⟩ v).heap[G]? = some (.cells (cs.setIfInBounds j v) t (0, 0)) := by
  simp [World.setCell, Array.getElem?_modify, h]
theorem pcell_set {w : World} {B : Nat} {v0 : Value} {T : TypeId} (h : w.heap[B]? = some (.cells #[v0] T (0, 0))) (v : Value) : (w.setCell ⟨B, 0, none⟩ v).drew.cell? ⟨B, 0, none⟩ = some v := by
  have := pheap_set w B 0 v #[v0] T h
  simp [World.cell?, World.drew, this]

section
variable {F : Nat → Prop} {P N : Nat} {y : Lay} {t : PT}
theorem TreeM.drewN {w : World} (h : TreeM w F P N y t) (n : Nat) : TreeM (w.drewN n) F P N y t := h.below (pbelow_drewN (Below.refl _ _) n)
def freshE (x : PN) (s : ByteArray) : Int := if ((x.l s.data.toList).getD 0 != 0) = true then 9 else 0
theorem t_fresh1 (i : Int) (x : PN) (s : ByteArray) (B1 B2 B3 : Nat) (r : Int) (hr : freshE x s = r) (w : World) (h : TreeM w F P N y t) (hx : t.n i = some x) (hs : s.size ≤ maxLen)
    (hc1 : w.cell? ⟨B1, 0, none⟩ = some (.pointer (some ⟨P, 0, none⟩))) (hc2 : w.cell? ⟨B2, 0, none⟩ = some (.int .u32 i)) (hc3 : w.cell? ⟨B3, 0, none⟩ = some (.string s)) :
    Calls Tryz.prog 97 #[.pointer (some ⟨B1, 0, none⟩), .pointer (some ⟨B2, 0, none⟩), .pointer (some ⟨B3, 0, none⟩)] w (AQ r w) := by
  have c1 := h.c1
  have hl : ∀ n, (Instr.lookup 66 (.map (some y.M)) (.int .u32 i) false).run Tryz.prog (w.drewN n) = .ok (.pointer (some ⟨y.f i, 0, none⟩)) (w.drewN n) := fun n => (h.drewN n).look_some hx
  have hl2 : ∀ n, (Instr.lookup 78 (.map (some (y.L i))) (.string s) false).run Tryz.prog (w.drewN n) = .ok (.int .u32 ((x.l s.data.toList).getD 0)) (w.drewN n) := fun n => ((h.drewN n).node i x hx).look hs
  have k3 : w.cell? ⟨y.f i, 3, none⟩ = some (.map (some (y.L i))) := (h.node i x hx).cell 3
  have hr' : (if ((x.l s.data.toList).getD 0 != 0) = true then (9 : Int) else 0) = r := hr
  obtain ⟨v, hv⟩ : ∃ v, (x.l s.data.toList).getD 0 = v := ⟨_, rfl⟩
  rw [hv] at hr' hl2
  obtain ⟨d, hd⟩ : ∃ d, (v != 0) = d := ⟨_, rfl⟩
  rw [hd] at hr'
  have HR := Lib.hid hr'
  clear hr hr' hx h hv
  go_enter Tryz.func97, Tryz.ntmps97
  go_wp2
  go_quiet ((go_at_call 44; exact quiet_eq (t_as d 9 _ HR.out _)))
  go_wp2
  go_ret
  exact AQ.mk rfl (pbelow_drewN (Below.refl _ _) _)
def roomE (t : PT) (i : Int) : Int := if i < 1 ∨ t.room < i then 2 else 0
theorem t_makeAt1 (i : Int) (B1 B2 : Nat) (r : Int) (hr : roomE t i = r) (w : World) (h : TreeM w F P N y t)
    (hc1 : w.cell? ⟨B1, 0, none⟩ = some (.int .u32 i)) (hc2 : w.cell? ⟨B2, 0, none⟩ = some (.pointer (some ⟨P, 0, none⟩))) :
    Calls Tryz.prog 82 #[.pointer (some ⟨B1, 0, none⟩), .pointer (some ⟨B2, 0, none⟩)] w (AQ r w) := by
  have c0 := h.c0
  by_cases h1 : i < 1
  · have HR : Hid ((if true = true then (2 : Int) else 0) = r) := by show _ = _; rw [← hr]; simp [roomE, h1]
    have g1 : decide (i < 1) = true := by simpa using h1
    clear hr h
    go_enter Tryz.func82, Tryz.ntmps82
    go_wp2
    go_quiet ((go_at_call 44; exact quiet_eq (t_as true 2 _ HR.out _)))
    go_wp2
    go_ret
    exact AQ.mk rfl (pbelow_drewN (Below.refl _ _) _)
  · have g1 : decide (i < 1) = false := by simpa using h1
    obtain ⟨b, hb⟩ : ∃ b, decide (t.room < i) = b := ⟨_, rfl⟩
    have HR : Hid ((if b = true then (2 : Int) else 0) = r) := by show _ = _; rw [← hr, ← hb]; simp [roomE, h1]
    clear hr h
    go_enter Tryz.func82, Tryz.ntmps82
    go_wp2
    go_quiet ((go_at_call 44; exact quiet_eq (t_as b 2 _ HR.out _)))
    go_wp2
    go_ret
    exact AQ.mk rfl (pbelow_drewN (Below.refl _ _) _)
def haveE (t : PT) (i : Int) : Int := if (t.n i).isSome = true then 9 else 0
theorem t_makeAt2 (i : Int) (B1 B2 : Nat) (r : Int) (hr : haveE t i = r) (w : World) (h : TreeM w F P N y t) (hi : U32 i)
    (hc1 : w.cell? ⟨B1, 0, none⟩ = some (.pointer (some ⟨P, 0, none⟩))) (hc2 : w.cell? ⟨B2, 0, none⟩ = some (.int .u32 i)) :
    Calls Tryz.prog 83 #[.pointer (some ⟨B1, 0, none⟩), .pointer (some ⟨B2, 0, none⟩)] w (AQ r w) := by
  have c1 := h.c1
  cases hx : t.n i with
  | none =>
    have hl : ∀ n, (Instr.lookup 66 (.map (some y.M)) (.int .u32 i) false).run Tryz.prog (w.drewN n) = .ok (.pointer none) (w.drewN n) := fun n => (h.drewN n).look_none hi hx
    have HR : Hid ((if false = true then (9 : Int) else 0) = r) := by show _ = _; rw [← hr]; simp [haveE, hx]
    clear hr hx h
    go_enter Tryz.func83, Tryz.ntmps83
    go_wp2
    go_quiet ((go_at_call 44; exact quiet_eq (t_as false 9 _ HR.out _)))
    go_wp2
    go_ret
    exact AQ.mk rfl (pbelow_drewN (Below.refl _ _) _)
  | some x =>
    have hl : ∀ n, (Instr.lookup 66 (.map (some y.M)) (.int .u32 i) false).run Tryz.prog (w.drewN n) = .ok (.pointer (some ⟨y.f i, 0, none⟩)) (w.drewN n) := fun n => (h.drewN n).look_some hx
    have HR : Hid ((if true = true then (9 : Int) else 0) = r) := by show _ = _; rw [← hr]; simp [haveE, hx]
    clear hr hx h
    go_enter Tryz.func83, Tryz.ntmps83
    go_wp2
    go_quiet ((go_at_call 44; exact quiet_eq (t_as true 9 _ HR.out _)))
    go_wp2
    go_ret
    exact AQ.mk rfl (pbelow_drewN (Below.refl _ _) _)
def linksE (x : PN) : Int := if 200 ≤ x.links then 184 else 0
theorem t_link1 (i : Int) (x : PN) (B1 B2 : Nat) (r : Int) (hr : linksE x = r) (w : World) (h : TreeM w F P N y t) (hx : t.n i = some x)
    (hc1 : w.cell? ⟨B1, 0, none⟩ = some (.pointer (some ⟨P, 0, none⟩))) (hc2 : w.cell? ⟨B2, 0, none⟩ = some (.int .u32 i)) :
    Calls Tryz.prog 77 #[.pointer (some ⟨B1, 0, none⟩), .pointer (some ⟨B2, 0, none⟩)] w (AQ r w) := by
  have c1 := h.c1
  have hl : ∀ n, (Instr.lookup 66 (.map (some y.M)) (.int .u32 i) false).run Tryz.prog (w.drewN n) = .ok (.pointer (some ⟨y.f i, 0, none⟩)) (w.drewN n) := fun n => (h.drewN n).look_some hx
  have k1 : w.cell? ⟨y.f i, 1, none⟩ = some (.int .i64 x.links) := (h.node i x hx).cell 1
  obtain ⟨b, hb⟩ : ∃ b, decide (200 ≤ x.links) = b := ⟨_, rfl⟩
  have HR : Hid ((if b = true then (184 : Int) else 0) = r) := by show _ = _; rw [← hr, ← hb]; simp [linksE]
  clear hr hx h
  go_enter Tryz.func77, Tryz.ntmps77
  go_wp2
  go_quiet ((go_at_call 44; exact quiet_eq (t_as b 184 _ HR.out _)))
  go_wp2
  go_ret
  exact AQ.mk rfl (pbelow_drewN (Below.refl _ _) _)

/-- A number is written down in a block of one cell. -/
def Puts (B : Nat) (v r : Int) : World → Int → World → Prop := fun W x W' => x = r ∧ W.grownBy W' (some B) ∧ ∃ v0, W'.heap[B]? = some (.cells #[v0] 23 (0, 0)) ∧ v0 = .int .u32 v
theorem t_look1 (i : Int) (x : PN) (s : ByteArray) (B1 B2 B3 B4 : Nat) (v0 : Value) (v r : Int) (hv : (x.l s.data.toList).getD 0 = v) (hr : (if v = 0 then 3 else 0) = r) (w : World) (h : TreeM w F P N y t) (hx : t.n i = some x) (hs : s.size ≤ maxLen)
    (hc1 : w.cell? ⟨B1, 0, none⟩ = some (.pointer (some ⟨P, 0, none⟩))) (hc2 : w.cell? ⟨B2, 0, none⟩ = some (.int .u32 i)) (hc3 : w.cell? ⟨B3, 0, none⟩ = some (.string s)) (hc4 : w.heap[B4]? = some (.cells #[v0] 23 (0, 0))) :
    Calls Tryz.prog 71 #[.pointer (some ⟨B1, 0, none⟩), .pointer (some ⟨B2, 0, none⟩), .pointer (some ⟨B3, 0, none⟩), .pointer (some ⟨B4, 0, none⟩)] w fun e w' => ∃ x, e = .returned (.int .i64 x) ∧ Puts B4 v r w x w' := by
  have c1 := h.c1
  have hl : ∀ n, (Instr.lookup 66 (.map (some y.M)) (.int .u32 i) false).run Tryz.prog (w.drewN n) = .ok (.pointer (some ⟨y.f i, 0, none⟩)) (w.drewN n) := fun n => (h.drewN n).look_some hx
  have hl2 : ∀ n, (Instr.lookup 78 (.map (some (y.L i))) (.string s) false).run Tryz.prog (w.drewN n) = .ok (.int .u32 v) (w.drewN n) := fun n => by rw [← hv]; exact ((h.drewN n).node i x hx).look hs
  have hl' : (Instr.lookup 66 (.map (some y.M)) (.int .u32 i) false).run Tryz.prog w.drew = .ok (.pointer (some ⟨y.f i, 0, none⟩)) w.drew := hl 1
  have hl2' : (Instr.lookup 78 (.map (some (y.L i))) (.string s) false).run Tryz.prog w.drew = .ok (.int .u32 v) w.drew := hl2 1
  have k3 : w.cell? ⟨y.f i, 3, none⟩ = some (.map (some (y.L i))) := (h.node i x hx).cell 3
  have hc5 : w.cell? ⟨B4, 0, none⟩ = some v0 := by simp [World.cell?, hc4]
  have hf : w.frozen? ⟨B4, 0, none⟩ = false := by simp [World.frozen?, hc4]
  obtain ⟨d, hd⟩ : ∃ d, (v == 0) = d := ⟨_, rfl⟩
  have HR : Hid ((if d = true then (3 : Int) else 0) = r) := by show _ = _; rw [← hr, ← hd]; simp
  have H4 := Lib.hid hc4
  clear hr hx h hv hl hl2 hc4
  go_enter Tryz.func71, Tryz.ntmps71
  go_wp2
  go_region
  go_wp2_with (go_at_call 44; refine (t_as d 3 _ HR.out _).mono ?_; rintro e w' ⟨rfl, rfl⟩)
  go_ret
  exact ⟨r, rfl, rfl, pgrown_drew (pgrown_set _ _ _ _), _, pheap_set _ _ _ _ _ _ H4.out, rfl⟩

def boxN (w : World) (B : Nat) : Nat := match w.cell? ⟨B, 0, none⟩ with | some (.int _ n) => n.toNat | _ => 0
theorem pgrown_drewN {a b : World} {r : Option Nat} (h : a.grownBy b r) (n : Nat) : a.grownBy (b.drewN n) r := ⟨h.os, h.tape, h.output, h.size, h.block⟩
theorem grown_refl (a : World) (r : Option Nat) : a.grownBy a r := ⟨rfl, rfl, rfl, Nat.le_refl _, fun _ _ _ => rfl⟩
/-- Which numbers are taken. -/
def Least (t : PT) (m : Int) : Prop := 1 ≤ m ∧ m ≤ 4294967295 ∧ t.n m = none ∧ ∀ j, 1 ≤ j → j < m → (t.n j).isSome = true
theorem t_make1 (m : Int) (B1 B2 : Nat) (v0 : Value) (r : Int) (hm : Least t m) (hr : (if t.room < m then 4 else 0) = r) (w : World) (h : TreeM w F P N y t) (hF : ¬ F B1)
    (hc1 : w.heap[B1]? = some (.cells #[v0] 23 (0, 0))) (hne : B1 ≠ B2) (hc2 : w.cell? ⟨B2, 0, none⟩ = some (.pointer (some ⟨P, 0, none⟩))) :
    Calls Tryz.prog 43 #[.pointer (some ⟨B1, 0, none⟩), .pointer (some ⟨B2, 0, none⟩)] w fun e w' => ∃ x, e = .returned (.int .i64 x) ∧ Puts B1 m r w x w' := by
  have c1 := h.c1
  have hc5 : w.cell? ⟨B1, 0, none⟩ = some v0 := by simp [World.cell?, hc1]
  have hf : w.frozen? ⟨B1, 0, none⟩ = false := by simp [World.frozen?, hc1]
  have HM := Lib.hid hm
  have HT := Lib.hid h
  have HR := Lib.hid hr
  obtain ⟨m1, m2, _, _⟩ := hm
  have hB : B1 < w.heap.size := (Array.getElem?_eq_some_iff.1 hc1).1
  have H1 := Lib.hid hc1
  have HF := Lib.hid hF
  clear hr h hc1 hF
  go_enter Tryz.func43, Tryz.ntmps43
  go_wp2
  go_loopw [] (fun wr => ∃ j : Int, 1 ≤ j ∧ j ≤ m ∧ wr.heap[B1]? = some (.cells #[.int .u32 j] 23 (0, 0)) ∧ w.grownBy wr (some B1)) (fun wr => m.toNat - boxN wr B1)
  case atStart => exact ⟨1, Int.le_refl _, m1, pheap_set _ _ _ _ _ _ H1.out, pgrown_set _ _ _ _⟩
  case round =>
    obtain ⟨j, j1, j2, hbox, hg⟩ := hrel
    have hTr : TreeM wr F P N y t := HT.out.same (fun b hb => hg.block b (HT.out.lt b hb) (fun e => HF.out (by injection e with e; rw [← e]; exact hb))) hg.size
    have d1 := hTr.c1
    have d0 := hTr.c0
    have q1 : wr.cell? ⟨B1, 0, none⟩ = some (.int .u32 j) := by simp [World.cell?, hbox]
    have q2 : wr.cell? ⟨B2, 0, none⟩ = some (.pointer (some ⟨P, 0, none⟩)) := hg.cell hc2 (fun e => hne (by injection e with e; exact e.symm))
    have qf : wr.frozen? ⟨B1, 0, none⟩ = false := by simp [World.frozen?, hbox]
    have hbn : boxN wr B1 = j.toNat := by simp [boxN, q1]
    have HG := Lib.hid hg
    have HBX := Lib.hid hbox
    have HBN := Lib.hid hbn
    clear hg hbox hc5 hf hbn
    by_cases hj : j = m
    · subst hj
      have hl : ∀ n, (Instr.lookup 66 (.map (some y.M)) (.int .u32 j) false).run Tryz.prog (wr.drewN n) = .ok (.pointer none) (wr.drewN n) := fun n => (hTr.drewN n).look_none ⟨by omega, m2⟩ HM.out.2.2.1
      obtain ⟨b, hb⟩ : ∃ b, decide (t.room < j) = b := ⟨_, rfl⟩
      have HR2 : Hid ((if b = true then (4 : Int) else 0) = r) := by show _ = _; rw [← HR.out, ← hb]; simp
      clear hTr
      go_wp2
      go_quiet (fail)
      go_wp2
      clear hl
      generalize hw2 : wr.drewN _ = w2
      have e0 : w2.cell? ⟨P, 0, none⟩ = some (.int .u32 t.room) := by rw [← hw2]; exact d0
      have e1 : w2.cell? ⟨B1, 0, none⟩ = some (.int .u32 j) := by rw [← hw2]; exact q1
      have e2 : w2.cell? ⟨B2, 0, none⟩ = some (.pointer (some ⟨P, 0, none⟩)) := by rw [← hw2]; exact q2
      have HG2 : Hid (w.grownBy w2 (some B1)) := by rw [← hw2]; exact pgrown_drewN HG.out _
      have HBX2 : Hid (w2.heap[B1]? = some (.cells #[.int .u32 j] 23 (0, 0))) := by rw [← hw2]; exact HBX.out
      clear hw2 d0 d1 q1 q2 qf HBX HBN HG
      go_quiet ((go_at_call 44; exact quiet_eq (t_as b 4 _ HR2.out _)))
      go_wp2
      go_ret
      exact ⟨r, rfl, rfl, pgrown_drewN HG2.out _, _, HBX2.out, rfl⟩
    · obtain ⟨x, hx⟩ := Option.isSome_iff_exists.1 (HM.out.2.2.2 j j1 (by omega))
      have hl : ∀ n, (Instr.lookup 66 (.map (some y.M)) (.int .u32 j) false).run Tryz.prog (wr.drewN n) = .ok (.pointer (some ⟨y.f j, 0, none⟩)) (wr.drewN n) := fun n => (hTr.drewN n).look_some hx
      clear hTr hx
      go_wp2
      go_quiet (fail)
      go_wp2
      go_roundw
      case rel => exact ⟨j + 1, by omega, by omega, pheap_set _ _ _ _ _ _ HBX.out, pgrown_trans HG.out (pgrown_trans (pgrown_drewN (grown_refl _ _) _) (pgrown_set _ _ _ _))⟩
      case measure =>
        have hp := pheap_set (wr.drewN nq) B1 0 (.int .u32 (j + 1)) _ _ HBX.out
        rw [HBN.out]
        simp [boxN, World.cell?, hp]
        omega
end
end Go.Proofs.YtpcjbfhgmcioaaaGreat
