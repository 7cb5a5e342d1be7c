/- A record in a block; what stays. -/
import Derived.Test.YtogljgiefmfafaaGreatPa03
import Derived.Test.YtogljgiefmfafaaGreatPa11
import Derived.Test.YtogljgiefmfafaaGreatPa13
import Derived.StillTailTactics
import Derived.IntWalk
namespace Go.Proofs.YtogljgiefmfafaaGreat
open Go.RowKit Go.Maps
abbrev cellsR (r : R) : Array Value := #[.int .u64 r.stamp, .int .u8 r.act, .int .u32 r.dir, .string r.name, .int .u32 r.ino, .int .u8 r.kind, .int .u32 r.dir2, .string r.name2, .int .u32 r.old, .int .u32 r.size, .int .i64 r.page, .string r.data]
theorem lt_heap {W : World} {B : Nat} {o : Obj} (h : W.heap[B]? = some o) : B < W.heap.size := (Array.getElem?_eq_some_iff.1 h).1
theorem below_a1' (w : World) (a : Obj) : Below w.heap.size w (w.alloc a) := (Below.refl _ _).alloc (Nat.le_refl _) _
theorem rec_cell0 {w : World} {B : Nat} {r : R} (h : w.heap[B]? = some (.cells (cellsR r) 50 (0, 0))) (i : Nat) (v : Value) (hv : (cellsR r)[i]? = some v) : w.cell? ⟨B, i, none⟩ = some v := by
  simp only [World.cell?, h]; exact hv
def RelB (W W' : World) : Prop := Below W.heap.size W W'
theorem RelB.refl (W : World) : RelB W W := Below.refl _ _
theorem RelB.of {W W' : World} (h : Below W.heap.size W W') : RelB W W' := h
theorem RelB.trans {W W' W'' : World} (h : RelB W W') (g : RelB W' W'') : RelB W W'' := ptrans h g
theorem RelB.rec {W W' : World} {B : Nat} {o : Obj} (h : RelB W W') (ho : W.heap[B]? = some o) : W'.heap[B]? = some o := (Below.block h B (lt_heap ho)).trans ho
theorem below_drew (w : World) : Below w.heap.size w w.drew := ⟨rfl, rfl, rfl, Nat.le_refl _, fun _ _ => rfl⟩
/-- A record that may be has nothing but what its kind has a use for. -/
theorem bare_of_check {r : R} (hr : r.Ok) (h : checkB r = true) : r.Bare := by
  have hsz : ∀ s : ByteArray, s.data.toList.length = s.size := fun s => (Lib.size_eq s).symm
  have hnil : ∀ s : ByteArray, s.size = 0 → s.data.toList = [] := fun s h => List.eq_nil_of_length_eq_zero (by rw [hsz]; exact h)
  unfold checkB fitB at h
  simp only [Bool.and_eq_true, Bool.or_eq_true, Bool.not_eq_true', decide_eq_true_eq, beq_iff_eq] at h
  obtain ⟨⟨⟨⟨⟨⟨⟨a1, a2⟩, a3⟩, h1⟩, h2⟩, h3⟩, h4⟩, h5⟩ := h
  have hp : ∀ s : ByteArray, pnameB s = true → s.size ≤ 27 := fun s hs => by
    unfold pnameB at hs
    simp only [Bool.and_eq_true, decide_eq_true_eq] at hs
    exact hs.1.1.1.2
  refine ⟨hr, ?_, ?_, ?_, ?_, ?_, ?_, ?_, ?_, ?_, ?_, ?_, ?_, ?_⟩
  · intro c; rcases h1 with ⟨e, _⟩ | ⟨_, e⟩
    · rw [c] at e; cases e
    · exact e.1
  · intro c; rcases h1 with ⟨e, _⟩ | ⟨_, e⟩
    · rw [c] at e; cases e
    · exact hnil _ e.2
  · rcases h1 with ⟨_, e⟩ | ⟨_, e⟩
    · rw [hsz]; have := hp _ e.2; omega
    · rw [hsz]; omega
  · intro c; rcases h2 with ⟨e, _⟩ | ⟨_, e⟩
    · rw [c] at e; cases e
    · exact e
  · intro c; rcases h3 with ⟨e, _⟩ | ⟨_, e⟩
    · rw [c] at e; cases e
    · exact e.1.1
  · intro c; rcases h3 with ⟨e, _⟩ | ⟨_, e⟩
    · rw [c] at e; cases e
    · exact hnil _ e.1.2
  · rcases h3 with ⟨_, e⟩ | ⟨_, e⟩
    · rw [hsz]; have := hp _ e.1.2; omega
    · rw [hsz]; omega
  · intro c; rcases h3 with ⟨e, _⟩ | ⟨_, e⟩
    · rw [c] at e; cases e
    · exact e.2
  · intro c; rcases h4 with ⟨e, _⟩ | ⟨_, e⟩
    · rw [c] at e; cases e
    · exact e
  · intro c; rcases h5 with ⟨e, _⟩ | ⟨_, e⟩
    · rw [c] at e; cases e
    · exact e.1
  · rcases h5 with ⟨_, e⟩ | ⟨_, e⟩
    · omega
    · omega
  · intro c; rcases h5 with ⟨e, _⟩ | ⟨_, e⟩
    · rw [c] at e; cases e
    · exact hnil _ e.2
  · intro c; rcases h5 with ⟨_, e⟩ | ⟨e, _⟩
    · rw [hsz]; exact e.2
    · rw [c] at e; cases e
end Go.Proofs.YtogljgiefmfafaaGreat

namespace Go.Proofs.YtogljgiefmfafaaGreat
open Go.RowKit Go.Maps
section
variable {t : PT}
/-- Whose the entry is, if it is the record's. -/
def lookA (t : PT) (r : R) : Int := if (lookP t r.dir r.name).2 = 0 ∧ (lookP t r.dir r.name).1 ≠ r.ino then 2 else (lookP t r.dir r.name).2
def madeA (t : PT) (r : R) : Int × PT := if (makeAtP t r.dir r.name r.kind r.ino).1 ≠ 0 ∨ r.kind = 2 then makeAtP t r.dir r.name r.kind r.ino else holdP (makeAtP t r.dir r.name r.kind r.ino).2 r.ino
def linkA (t : PT) (r : R) : Int × PT := linkP t r.dir r.name r.ino
noncomputable def unlinkA (t : PT) (r : R) : Int × PT :=
  if lookA t r ≠ 0 then (lookA t r, t)
  else if r.kind = 2 then ((dropP t r.dir r.name rmdirE).1.2, (dropP t r.dir r.name rmdirE).2)
  else ((dropP t r.dir r.name unlinkE).1.2, (dropP t r.dir r.name unlinkE).2)
def kindAt (t : PT) (i : Int) : Int := match t.n i with | some x => x.kind | none => 0
def oldAt (t : PT) (r : R) : Int := if (lookP t r.dir2 r.name2).2 = 0 then (lookP t r.dir2 r.name2).1 else 0
noncomputable def renameA (t : PT) (r : R) : Int × PT :=
  if lookA t r ≠ 0 then (lookA t r, t)
  else if kindAt t r.ino ≠ r.kind ∨ oldAt t r ≠ r.old then (2, t)
  else renameP t r.dir r.name r.dir2 r.name2
def sizeA (t : PT) (r : R) : Int × PT := resizeP t r.ino r.size
def pageA (t : PT) (r : R) : Int × PT := if (writeP t r.ino r.page r.data).1 ≠ 0 then writeP t r.ino r.page r.data else resizeP (writeP t r.ino r.page r.data).2 r.ino r.size
def freeA (t : PT) (r : R) : Int × PT := match t.n r.ino with
  | none => (3, t)
  | some x => if 0 < x.links then (2, t) else unholdP t r.ino
/-- What a record that may be does: what is answered, and the tree behind it. -/
noncomputable def actA (t : PT) (r : R) : Int × PT :=
  if r.act = 1 then madeA t r
  else if r.act = 2 then linkA t r
  else if r.act = 3 then unlinkA t r
  else if r.act = 4 then renameA t r
  else if r.act = 5 then sizeA t r
  else if r.act = 6 then pageA t r
  else freeA t r
noncomputable def playA (t : PT) (r : R) : Int × PT := if checkB r = true then actA t r else (2, t)
theorem WellP.actA_ (h : WellP t) {r : R} (hr : r.Ok) : WellP (actA t r).2 := by
  have hs := hr.size
  unfold actA
  split
  · unfold madeA
    split
    · exact h.makeAtP_ _ _ _ _
    · exact (h.makeAtP_ _ _ _ _).holdP_ _
  · split
    · exact h.linkP_ _ _ _
    · split
      · unfold unlinkA
        split
        · exact h
        · split
          · exact h.rmdirP _ _
          · exact h.unlinkP _ _
      · split
        · unfold renameA
          split
          · exact h
          · split
            · exact h
            · exact h.renameP_ _ _ _ _
        · split
          · exact h.resizeP_ _ _ (by omega)
          · split
            · unfold pageA
              split
              · exact h.writeP_ _ _ _
              · exact (h.writeP_ _ _ _).resizeP_ _ _ (by omega)
            · unfold freeA
              split
              · exact h
              · split
                · exact h
                · exact h.unholdP_ _
theorem WellP.playA_ (h : WellP t) {r : R} (hr : r.Ok) : WellP (playA t r).2 := by
  unfold playA
  split
  · exact h.actA_ hr
  · exact h
theorem HeldK.actA_ {K : Int} (h : HeldK K t) (hK : 0 ≤ K) (r : R) : HeldK (K + 1) (actA t r).2 := by
  have hk : K ≤ K + 1 := by omega
  unfold actA
  split
  · unfold madeA
    split
    · exact (h.makeAtP_ hK _).mono hk
    · exact (h.makeAtP_ hK _).holdP_
  · split
    · exact h.linkP_.mono hk
    · split
      · unfold unlinkA
        split
        · exact h.mono hk
        · split
          · exact (h.dropP_ _).mono hk
          · exact (h.dropP_ _).mono hk
      · split
        · unfold renameA
          split
          · exact h.mono hk
          · split
            · exact h.mono hk
            · exact (h.renameP_ _ _).mono hk
        · split
          · exact (h.resizeP_ _).mono hk
          · split
            · unfold pageA
              split
              · exact (h.writeP_ _ _).mono hk
              · exact ((h.writeP_ _ _).resizeP_ _).mono hk
            · unfold freeA
              split
              · exact h.mono hk
              · split
                · exact h.mono hk
                · exact h.unholdP_.mono hk
theorem HeldK.playA_ {K : Int} (h : HeldK K t) (hK : 0 ≤ K) (r : R) : HeldK (K + 1) (playA t r).2 := by
  unfold playA
  split
  · exact h.actA_ hK r
  · exact h.mono (by omega)
end
end Go.Proofs.YtogljgiefmfafaaGreat

namespace Go.Proofs.YtogljgiefmfafaaGreat
open Go.RowKit Go.Maps
section
variable {F : Nat → Prop} {P N : Nat} {y : Lay} {t : PT}
theorem asked2 {W : World} {i : Int} {v1 v2 : Value} (q1 : Question W v1 (thereE t [i])) (q2 : (t.n i).isSome = true → Question W v2 (fileE' t i)) : Asked W [v1, v2] [thereE t [i], fileE' t i] := by
  refine Asked.of W _ _ rfl fun j e v he hv h0 => ?_
  match j with
  | 0 => simp at he hv; subst he; subst hv; exact q1
  | 1 => simp at he hv; subst he; subst hv; exact q2 (there_one (h0 0 _ (by omega) rfl))
  | j + 2 => simp at he
theorem asked2h {W : World} {i : Int} {v1 v2 : Value} (q1 : Question W v1 (thereE t [i])) (q2 : (t.n i).isSome = true → Question W v2 (heldE' t i)) : Asked W [v1, v2] [thereE t [i], heldE' t i] := by
  refine Asked.of W _ _ rfl fun j e v he hv h0 => ?_
  match j with
  | 0 => simp at he hv; subst he; subst hv; exact q1
  | 1 => simp at he hv; subst he; subst hv; exact q2 (there_one (h0 0 _ (by omega) rfl))
  | j + 2 => simp at he
set_option maxHeartbeats 2000000 in
theorem t_holdP (i r : Int) (t' : PT) (hr : holdP t i = (r, t')) (w : World) (h : TreeM w F P N y t) (hi : U32 i) (hK : HeldK 1000000000 t) (hK0 : ∀ x, t.n i = some x → 0 ≤ x.held) :
    Calls Tryz.prog 170 #[.pointer (some ⟨P, 0, none⟩), .int .u32 i] w fun e w' => e = .returned (.int .i64 r) ∧ Became w w' F P N t' := by
  have HTh := Lib.hid (there_later h i hi)
  have HFl := Lib.hid (file_later h i)
  have HT := Lib.hid h
  obtain ⟨q, hq⟩ : ∃ q, holdE t i = q := ⟨_, rfl⟩
  have HE : Hid (firstE [thereE t [i], fileE' t i] = q) := hq
  by_cases hz : q = 0
  · subst hz
    have hz := HE.out
    obtain ⟨z1, hz⟩ := firstE_cons hz
    obtain ⟨z2, hz⟩ := firstE_cons hz
    obtain ⟨x, hx⟩ := Option.isSome_iff_exists.1 (there_one z1)
    have HX := Lib.hid hx
    have HP : Hid (r = 0 ∧ t' = t.set i { x with held := x.held + 1 }) := by
      unfold holdP at hr
      rw [if_pos hq, hx] at hr
      injection hr with a b
      exact ⟨a.symm, b.symm⟩
    have hh := hK i x hx
    have hh0 := hK0 x hx
    clear h hi hK hK0 hr z1 z2 hz hx hq
    go_enter Tryz.func170, Tryz.ntmps170
    go_wp2_with (first
      | (go_at_call 48; (with_reducible refine (HTh.out _ _ _ (below_a1 w _) (SliceAt.built' _ [.int .u32 i] _ (w.heap.size) rfl)).mono ?_); rintro e w1 hq; obtain ⟨g1, l1, rfl, hq1, hb1⟩ := hq.get; have HQ1 := Lib.hid hq1; have HB1 := Lib.hid (ptrans (below_a1 w _) hb1); clear hq hq1 hb1)
      | (go_at_call 49; (with_reducible refine (HFl.out _ HB1.out).mono ?_); rintro e w2 ⟨g2, l2, rfl, hq2, hb2⟩; have HQ2 := Lib.hid hq2; have HB2 := Lib.hid (ptrans HB1.out hb2); have HQ1' := Lib.hid (HQ1.out.later hb2); clear hq2 hb2)
      | (go_at_call 47; (with_reducible refine (check_built w2 P [.func (.func g1) #[] l1, .func (.func g2) #[] l2] 2 [thereE t [i], fileE' t i] 0 HE.out _ rfl (by omega) (asked2 HQ1'.out HQ2.out) (by simp)).mono ?_); rintro e w4 ⟨rfl, hb4⟩
         have hb : Below w.heap.size w w4 := ptrans (ptrans HB2.out (below_a1 _ _)) hb4
         have hT := HT.out.below hb
         have c1 := hT.c1
         have hlk := hT.look_some HX.out
         have n5 : w4.cell? ⟨y.f i, 5, none⟩ = some (.int .i64 x.held) := (hT.node i x HX.out).cell 5
         have nf5 := (hT.node i x HX.out).frozen 5
         have hTF := hT.store HX.out 5 (.int .i64 (x.held + 1)) (x' := { x with held := x.held + 1 }) rfl rfl rfl
         have HTF := Lib.hid hTF
         have HUF := Lib.hid ((Turn.of_below F hb).trans (turn_store F w4 (y.f i) 5 (.int .i64 (x.held + 1)) (hT.foot_f HX.out)))
         clear hTF hb hb4 hT HQ1 HQ2 HQ1' HB1 HB2))
    go_ret
    obtain ⟨rfl, rfl⟩ := HP.out
    exact ⟨rfl, y, F, HTF.out, HUF.out⟩
  · have HP : Hid (r = q ∧ t' = t) := by
      unfold holdP at hr
      rw [if_neg (by rw [hq]; exact hz), hq] at hr
      injection hr with a b
      exact ⟨a.symm, b.symm⟩
    have hq0 : (q == 0) = false := by simpa using hz
    clear h hi hK hK0 hr hq hz
    go_enter Tryz.func170, Tryz.ntmps170
    go_wp2_with (first
      | (go_at_call 48; (with_reducible refine (HTh.out _ _ _ (below_a1 w _) (SliceAt.built' _ [.int .u32 i] _ (w.heap.size) rfl)).mono ?_); rintro e w1 hq; obtain ⟨g1, l1, rfl, hq1, hb1⟩ := hq.get; have HQ1 := Lib.hid hq1; have HB1 := Lib.hid (ptrans (below_a1 w _) hb1); clear hq hq1 hb1)
      | (go_at_call 49; (with_reducible refine (HFl.out _ HB1.out).mono ?_); rintro e w2 ⟨g2, l2, rfl, hq2, hb2⟩; have HQ2 := Lib.hid hq2; have HB2 := Lib.hid (ptrans HB1.out hb2); have HQ1' := Lib.hid (HQ1.out.later hb2); clear hq2 hb2)
      | (go_at_call 47; (with_reducible refine (check_built w2 P [.func (.func g1) #[] l1, .func (.func g2) #[] l2] 2 [thereE t [i], fileE' t i] q HE.out _ rfl (by omega) (asked2 HQ1'.out HQ2.out) (by simp)).mono ?_); rintro e w4 ⟨rfl, hb4⟩
         have HB := Lib.hid (ptrans (ptrans HB2.out (below_a1 _ _)) hb4)
         clear hb4 HQ1 HQ2 HQ1' HB1 HB2))
    go_ret
    obtain ⟨rfl, rfl⟩ := HP.out
    exact ⟨rfl, became_below HT.out (Nat.le_refl _) HB.out⟩
/-- Held. -/
def heldR (t : PT) (i : Int) : Int := match t.n i with | some x => x.held | none => 0
theorem t_heldP (i : Int) (w : World) (h : TreeM w F P N y t) (hi : U32 i) :
    Calls Tryz.prog 39 #[.pointer (some ⟨P, 0, none⟩), .int .u32 i] w fun e w' => e = .returned (.int .i64 (heldR t i)) ∧ w = w' := by
  have c1 := h.c1
  cases hx : t.n i with
  | none =>
    have hlk := h.look_none hi hx
    have HR : Hid (heldR t i = 0) := by show _ = _; unfold heldR; rw [hx]
    clear h hi hx
    go_enter Tryz.func39, Tryz.ntmps39
    go_wp2
    go_ret
    rw [HR.out]
    exact ⟨rfl, rfl⟩
  | some x =>
    have hlk := h.look_some hx
    have n5 : w.cell? ⟨y.f i, 5, none⟩ = some (.int .i64 x.held) := (h.node i x hx).cell 5
    have HR : Hid (heldR t i = x.held) := by show _ = _; unfold heldR; rw [hx]
    clear h hi hx
    go_enter Tryz.func39, Tryz.ntmps39
    go_wp2
    go_ret
    rw [HR.out]
    exact ⟨rfl, rfl⟩
theorem t_drop1 (i : Int) (x : PN) (B1 B2 : Nat) (r : Int) (hr : heldE x = r) (w : World) (h : TreeM w F P N y t) (hx : t.n i = some x)
    (hc1 : w.cell? ⟨B1, 0, none⟩ = some (.pointer (some ⟨P, 0, none⟩))) (hc2 : w.cell? ⟨B2, 0, none⟩ = some (.int .u32 i)) :
    Calls Tryz.prog 228 #[.pointer (some ⟨B1, 0, none⟩), .pointer (some ⟨B2, 0, none⟩)] w (AQ r w) := by
  have c1 := h.c1
  have hl : ∀ n, (Instr.lookup 75 (.map (some y.M)) (.int .u32 i) false).run Tryz.prog (w.drewN n) = .ok (.pointer (some ⟨y.f i, 0, none⟩)) (w.drewN n) := fun n => (h.drewN n).look_some hx
  have k1 : w.cell? ⟨y.f i, 5, none⟩ = some (.int .i64 x.held) := (h.node i x hx).cell 5
  obtain ⟨b, hb⟩ : ∃ b, (x.held == 0) = b := ⟨_, rfl⟩
  have HR : Hid ((if b = true then (3 : Int) else 0) = r) := by show _ = _; rw [← hr, ← hb]; simp [heldE]
  clear hr hx h
  go_enter Tryz.func228, Tryz.ntmps228
  go_wp2
  go_quiet ((go_at_call 89; exact quiet_eq (t_as b 3 _ HR.out _)))
  go_wp2
  go_ret
  exact AQ.mk rfl (pbelow_drewN (Below.refl _ _) _)
theorem enters_drop : Enters 228 := enters_of Tryz.func228 (by kernel_rfl) rfl
theorem q_drop {w : World} {B1 B2 : Nat} {i r : Int} (hx : (t.n i).isSome = true) (hr : heldE' t i = r) (h : TreeM w F P N y t) (hB1 : B1 < w.heap.size) (hB2 : B2 < w.heap.size) (hc1 : w.cell? ⟨B1, 0, none⟩ = some (.pointer (some ⟨P, 0, none⟩))) (hc2 : w.cell? ⟨B2, 0, none⟩ = some (.int .u32 i)) :
    Question w (.func (.func 228) #[] #[.pointer (some ⟨B1, 0, none⟩), .pointer (some ⟨B2, 0, none⟩)]) r := by
  obtain ⟨x, hx⟩ := Option.isSome_iff_exists.1 hx
  exact ⟨_, _, rfl, enters_drop, fun W hW => t_drop1 i x B1 B2 r (by rw [← hr]; unfold heldE'; rw [hx]) W (h.below hW) hx (cell_below hW hB1 hc1) (cell_below hW hB2 hc2)⟩
end
end Go.Proofs.YtogljgiefmfafaaGreat
namespace Go.Proofs.YtogljgiefmfafaaGreat
open Go.RowKit Go.Maps
section
variable {F : Nat → Prop} {P N : Nat} {y : Lay} {t : PT}
set_option maxRecDepth 100000 in
set_option maxHeartbeats 8000000 in
theorem t_unholdP (i r : Int) (t' : PT) (hr : unholdP t i = (r, t')) (w : World) (h : TreeM w F P N y t) (hi : U32 i) (hK : HeldK 1000000000 t) (hK0 : ∀ x, t.n i = some x → 0 ≤ x.held) :
    Calls Tryz.prog 178 #[.pointer (some ⟨P, 0, none⟩), .int .u32 i] w fun e w' => e = .returned (.int .i64 r) ∧ Became w w' F P N t' := by
  go_enter Tryz.func178, Tryz.ntmps178
  go_wp2
  obtain ⟨w0, hw0⟩ : ∃ w0, (w.alloc (.cells #[.pointer (some ⟨P, 0, none⟩)] 26)).alloc (.cells #[.int .u32 i] 37) = w0 := ⟨_, rfl⟩
  obtain ⟨hBw, b2, b3, hsz⟩ := two_boxes w (.pointer (some ⟨P, 0, none⟩)) (.int .u32 i) 26 37
  rw [hw0] at hBw b2 b3 hsz ⊢
  have hT : TreeM w0 F P N y t := h.below hBw
  clear hw0
  refine wp_region_all (phi [isV (.pointer (some ⟨P, 0, none⟩)), isV (.pointer (some ⟨P, 0, none⟩)), isV (.int .u32 i), isSl [.int .u32 i], isQ True (thereE t [i]), isV (.func (.func 228) #[] #[.pointer (some ⟨w.heap.size, 0, none⟩), .pointer (some ⟨w.heap.size + 1, 0, none⟩)]), isAsk 2 [thereE t [i], heldE' t i], isV (.int .i64 (firstE [thereE t [i], heldE' t i])), isV (.int .i64 (firstE [thereE t [i], heldE' t i]))]) (by kernel_rfl) (by kernel_rfl) ?_ ?_ ?_
  · refine stays_phi ?_
    simp only [List.forall_mem_cons]
    exact ⟨stays_V _, stays_V _, stays_V _, stays_Sl _, stays_Q _ _, stays_V _, stays_Ask _ _, stays_V _, stays_V _, fun _ h => absurd h (by simp)⟩
  · refine ⟨?_, ?_, ?_, ?_, ?_, ?_, ?_, ?_, ?_, trivial⟩
    · refine op_mk rfl fun a W hB hp hq K hK => ?_
      have e2 : a.tmps[2]?.getD undef = .pointer (some ⟨w.heap.size, 0, none⟩) := hp 2 (by kernel_rfl)
      have cc := box_at hB b2
      clear hp hq
      go_simp
      exact hK _ _ (Below.refl _ _) rfl
    · refine op_mk rfl fun a W hB hp hq K hK => ?_
      have e2 : a.tmps[2]?.getD undef = .pointer (some ⟨w.heap.size, 0, none⟩) := hp 2 (by kernel_rfl)
      have cc := box_at hB b2
      clear hp hq
      go_simp
      exact hK _ _ (Below.refl _ _) rfl
    · refine op_mk rfl fun a W hB hp hq K hK => ?_
      have e3 : a.tmps[3]?.getD undef = .pointer (some ⟨w.heap.size + 1, 0, none⟩) := hp 3 (by kernel_rfl)
      have cc := box_at hB b3
      clear hp hq
      go_simp
      exact hK _ _ (Below.refl _ _) rfl
    · refine op_mk rfl fun a W hB hp hq K hK => ?_
      have e8 : a.tmps[8]?.getD undef = .int .u32 i := hq 2 8 (by kernel_rfl) (by kernel_rfl)
      clear hp hq
      go_simp
      exact hK _ _ ((Below.refl _ _).alloc (Nat.le_refl _) _) ⟨_, _, rfl, SliceAt.built _ _ _⟩
    · refine op_mk rfl fun a W hB hp hq K hK => ?_
      have e7 : a.tmps[7]?.getD undef = .pointer (some ⟨P, 0, none⟩) := hq 1 7 (by kernel_rfl) (by kernel_rfl)
      obtain ⟨A, c, e9, hA⟩ : isSl [.int .u32 i] (a.tmps[9]?.getD undef) W := hq 3 9 (by kernel_rfl) (by kernel_rfl)
      have HA := Lib.hid hA
      clear hA
      have HB := Lib.hid hB
      clear hp hq hB
      go_simp
      refine (t_there [i] A 1 c _ rfl W (hT.below HB.out) rfl (by simpa using hi) (by simp [maxLen]) HA.out).mono ?_
      rintro e w' ⟨v, rfl, hv, hb⟩
      exact hK _ _ hb (isQ.of hv)
    · refine op_mk rfl fun a W hB hp hq K hK => ?_
      have e2 : a.tmps[2]?.getD undef = .pointer (some ⟨w.heap.size, 0, none⟩) := hp 2 (by kernel_rfl)
      have e3 : a.tmps[3]?.getD undef = .pointer (some ⟨w.heap.size + 1, 0, none⟩) := hp 3 (by kernel_rfl)
      clear hp hq
      go_simp
      exact hK _ _ (Below.refl _ _) rfl
    · refine op_mk rfl fun a W hB hp hq K hK => ?_
      obtain ⟨g1, l1, q1, h1⟩ : isQ True (thereE t [i]) (a.tmps[10]?.getD undef) W := hq 4 10 (by kernel_rfl) (by kernel_rfl)
      have q2 : a.tmps[11]?.getD undef = (.func (.func 228) #[] #[.pointer (some ⟨w.heap.size, 0, none⟩), .pointer (some ⟨w.heap.size + 1, 0, none⟩)]) := hq 5 11 (by kernel_rfl) (by kernel_rfl)
      have H1 := Lib.hid h1
      clear h1
      have HB := Lib.hid hB
      clear hp hq hB
      go_simp
      have hb := (Below.refl W.heap.size W).alloc (Nat.le_refl _) (.cells #[.func (.func g1) #[] l1, (.func (.func 228) #[] #[.pointer (some ⟨w.heap.size, 0, none⟩), .pointer (some ⟨w.heap.size + 1, 0, none⟩)])] 82)
      have q2' := fun hx => q_drop (i := i) hx rfl (hT.below HB.out) (Nat.lt_of_lt_of_le (by omega) HB.out.size) (Nat.lt_of_lt_of_le (by omega) HB.out.size) (box_at HB.out b2) (box_at HB.out b3)
      exact hK _ _ hb ⟨_, _, _, rfl, rfl, SliceAt.built _ _ _, (asked2h (H1.out trivial) q2').later hb⟩
    · refine op_mk rfl fun a W hB hp hq K hK => ?_
      have e6 : a.tmps[6]?.getD undef = .pointer (some ⟨P, 0, none⟩) := hq 0 6 (by kernel_rfl) (by kernel_rfl)
      obtain ⟨A, c, vs, e12, hl, hA, hq1⟩ : isAsk 2 [thereE t [i], heldE' t i] (a.tmps[12]?.getD undef) W := hq 6 12 (by kernel_rfl) (by kernel_rfl)
      have HA := Lib.hid hA
      have HQ := Lib.hid hq1
      clear hp hq hA hq1
      go_simp
      refine (t_checkL ⟨P, 0, none⟩ A vs 2 c [thereE t [i], heldE' t i] _ rfl W hl (by rw [hl]; simp [maxLen]) HA.out HQ.out (by simp)).mono ?_
      rintro e w' ⟨rfl, hb⟩
      exact hK _ _ hb rfl
    · refine op_mk rfl fun a W hB hp hq K hK => ?_
      have e13 : a.tmps[13]?.getD undef = .int .i64 (firstE [thereE t [i], heldE' t i]) := hq 7 13 (by kernel_rfl) (by kernel_rfl)
      clear hp hq
      go_simp
      exact hK _ _ (Below.refl _ _) rfl
  · intro vs W hB hv
    have f7 : vs 7 = .int .i64 (unholdE t i) := hv 7 (by decide) (by kernel_rfl)
    have f8 : vs 8 = .int .i64 (unholdE t i) := hv 8 (by decide) (by kernel_rfl)
    clear hv
    have hBW : Below w.heap.size w W := ptrans hBw hB
    have hTW : TreeM W F P N y t := h.below hBW
    have d2 := box_at hB b2
    have d3 := box_at hB b3
    clear hB b2 b3 hT hBw
    simp only [putAll, Act.put, List.setIfInBounds_toArray, List.set_cons_succ, List.set_cons_zero, Nat.zero_add, Nat.reduceAdd, f7, f8]
    by_cases he : unholdE t i = 0
    · have he0 := he
      unfold unholdE at he0
      obtain ⟨z1, he0⟩ := firstE_cons he0
      obtain ⟨z2, _⟩ := firstE_cons he0
      obtain ⟨x, hx⟩ := Option.isSome_iff_exists.1 (there_one z1)
      have hP : Hid (r = 0 ∧ t' = unholdT t i x) := by
        unfold unholdP at hr
        rw [if_pos he, hx] at hr
        injection hr with a b
        exact ⟨a.symm, b.symm⟩
      have c1 := hTW.c1
      have hlk : (Instr.lookup 75 (.map (some y.M)) (.int .u32 i) false).run Tryz.prog W.drew = .ok (.pointer (some ⟨y.f i, 0, none⟩)) W.drew := (hTW.drewN 1).look_some hx
      have n5 : W.cell? ⟨y.f i, 5, none⟩ = some (.int .i64 x.held) := (hTW.node i x hx).cell 5
      have nf5 := (hTW.node i x hx).frozen 5
      have hh := hK i x hx
      have hh0 := hK0 x hx
      have hwr : IntKind.i64.wrap (x.held - 1) = x.held - 1 := IntWalk.i64_in _ (by omega)
      have HTW := Lib.hid hTW
      have HBW := Lib.hid hBW
      have HX := Lib.hid hx
      have HF := Lib.hid h
      rw [he]
      clear hr he z1 z2 hx hTW hBW f7 f8 h hK hK0
      go_wp2
      go_still_tail 12, (by kernel_rfl)
      change wpList _ _ _ _ _ W.drew
      have HD : Hid (Below W.heap.size W W.drew) := pbelow_drewN (Below.refl _ _) 1
      clear hlk n5 c1 nf5
      generalize W.drew = w2 at *
      have hT2 : TreeM w2 F P N y t := HTW.out.below HD.out
      have c1 := hT2.c1
      have n5 : w2.cell? ⟨y.f i, 5, none⟩ = some (.int .i64 x.held) := (hT2.node i x HX.out).cell 5
      have nf5 := (hT2.node i x HX.out).frozen 5
      have hnF : ¬ F w.heap.size := fun hh => by have := HF.out.lt _ hh; omega
      have hnF1 : ¬ F (w.heap.size + 1) := fun hh => by have := HF.out.lt _ hh; omega
      have ne2 : y.f i ≠ w.heap.size := fun e => hnF (e ▸ hT2.foot_f HX.out)
      have ne3 : y.f i ≠ w.heap.size + 1 := fun e => hnF1 (e ▸ hT2.foot_f HX.out)
      have ot : ∀ B v, y.f i ≠ B → w2.cell? ⟨B, 0, none⟩ = some v → (w2.setCell ⟨y.f i, 5, none⟩ (.int .i64 (x.held - 1))).cell? ⟨B, 0, none⟩ = some v := fun B v hB hc => (World.cell?_of_block (Below.heap_setCell w2 ⟨y.f i, 5, none⟩ _ B (Ne.symm hB))).trans hc
      have dd2 := ot _ _ ne2 (box_at HD.out d2)
      have dd3 := ot _ _ ne3 (box_at HD.out d3)
      have hTF := hT2.store HX.out 5 (.int .i64 (x.held - 1)) (x' := { x with held := x.held - 1 }) rfl rfl rfl
      have hU := ((Turn.of_below F HBW.out).trans (Turn.of_below F HD.out)).trans (turn_store F w2 (y.f i) 5 (.int .i64 (x.held - 1)) (hT2.foot_f HX.out))
      have hi2 : (t.set i { x with held := x.held - 1 }).n i = some { x with held := x.held - 1 } := by rw [PT.set_n, if_pos rfl]
      have HFR := Lib.hid (t_freeP i _ _ hTF hi2)
      have HUF := Lib.hid hU
      clear d2 d3 hnF hnF1 ne2 ne3 ot hTF hU hi2 hT2 hh hh0
      go_wp2_with (go_at_call 225; refine HFR.out.mono ?_; rintro e w3 ⟨rfl, hT3, hU3⟩; have HT3 := Lib.hid hT3; have HU3 := Lib.hid (HUF.out.trans hU3); clear hT3 hU3)
      go_ret
      obtain ⟨rfl, rfl⟩ := hP.out
      exact ⟨rfl, y, F, HT3.out, HU3.out⟩
    · have hP : Hid (r = unholdE t i ∧ t' = t) := by
        unfold unholdP at hr
        rw [if_neg he] at hr
        injection hr with a b
        exact ⟨a.symm, b.symm⟩
      have HH : Hid (TreeM W F P N y t ∧ Below w.heap.size w W) := ⟨hTW, hBW⟩
      generalize unholdE t i = q at *
      have he' : (q == 0) = false := by simpa using he
      clear hr he hTW hBW f7 f8 d2 d3 h hK hK0
      go_wp2
      go_ret
      obtain ⟨rfl, rfl⟩ := hP.out
      exact ⟨rfl, _, _, HH.out.1, Turn.of_below F HH.out.2⟩
end
end Go.Proofs.YtogljgiefmfafaaGreat
