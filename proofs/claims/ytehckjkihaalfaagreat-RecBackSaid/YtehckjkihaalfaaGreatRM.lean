/- The program's tree: free, gives, below, a new inode, New. -/
import Derived.Test.YtehckjkihaalfaaGreatRL
namespace Go.Proofs.YtehckjkihaalfaaGreat
open Go.RowKit Go.Maps

section
variable {F : Nat → Prop} {P N : Nat} {y : Lay} {t : PT}
/-- Must an inode be gone? -/
def goneB (i : Int) (x : PN) : Bool := i != 1 && (x.held == 0 && (if (x.kind == 2) = true then x.up == 0 else x.links == 0))
def freeP (t : PT) (i : Int) (x : PN) : PT := if goneB i x = true then t.del i else t
set_option maxHeartbeats 4000000 in
theorem t_freeP (i : Int) (x : PN) (w : World) (h : TreeM w F P N y t) (hx : t.n i = some x) :
    Calls Tryz.prog 181 #[.pointer (some ⟨P, 0, none⟩), .int .u32 i] w fun e w' => e = .returned (.tuple #[]) ∧ TreeM w' F P N y (freeP t i x) ∧ Turn w w' F F := by
  have c1 := h.c1
  have hl1 := h.look_some hx
  have hp := h.pos i x hx
  obtain ⟨w1, hrun0, hM, ht⟩ := h.nodes.drop law32 Tryz.underlying153 (pkey32 (i := i) ⟨by omega, hp.2⟩) 0
  have hrun : ∀ ty, (Builtin.delete_ #[153, 32] ty #[.map (some y.M), .int .u32 i]).run Tryz.prog w = .ok (.tuple #[]) w1 := fun ty => hrun0
  have hg := ht.grown
  have hT1 : TreeM w1 F P N y (t.del i) := h.delNode hM (fun b hb hne => hg.block b (h.lt b hb) (fun e => hne (by injection e))) hg.size
  have hU := turn_map ht h.fM
  have k0 : w.cell? ⟨y.f i, 0, none⟩ = some (.int .u8 x.kind) := (h.node i x hx).cell 0
  have k1 : w.cell? ⟨y.f i, 1, none⟩ = some (.int .i64 x.links) := (h.node i x hx).cell 1
  have k5 : w.cell? ⟨y.f i, 5, none⟩ = some (.int .i64 x.held) := (h.node i x hx).cell 5
  have k6 : w.cell? ⟨y.f i, 6, none⟩ = some (.int .u32 x.up) := (h.node i x hx).cell 6
  have HT := Lib.hid h
  have H1 : Hid (goneB i x = true → TreeM w1 F P N y (freeP t i x) ∧ Turn w w1 F F) := fun hb => by unfold freeP; rw [if_pos hb]; exact ⟨hT1, hU⟩
  have H0 : Hid (goneB i x = false → TreeM w F P N y (freeP t i x) ∧ Turn w w F F) := fun hb => by unfold freeP; rw [if_neg (by rw [hb]; simp)]; exact ⟨HT.out, Turn.refl _ _⟩
  clear h hx hM ht hg hT1 hU hrun0
  cases g1 : (i != 1) with
  | false =>
    have R := Lib.hid (H0.out (by unfold goneB; rw [g1]; rfl))
    go_enter Tryz.func181, Tryz.ntmps181
    go_wp2
    go_end0
    exact ⟨rfl, R.out⟩
  | true =>
    cases g2 : (x.held == 0) with
    | false =>
      have R := Lib.hid (H0.out (by unfold goneB; rw [g1, g2]; rfl))
      go_enter Tryz.func181, Tryz.ntmps181
      go_wp2
      go_end0
      exact ⟨rfl, R.out⟩
    | true =>
      cases g3 : (x.kind == 2) with
      | true =>
        have hD := t_isdir (y.f i) x.kind true g3 w k0
        have HD := Lib.hid hD
        clear hD
        cases g4 : (x.up == 0) with
        | true =>
          have R := Lib.hid (H1.out (by unfold goneB; rw [g1, g2, g3, g4]; rfl))
          clear g3
          go_enter Tryz.func181, Tryz.ntmps181
          go_wp2_with (go_at_call 175; refine HD.out.mono ?_; rintro e w' ⟨rfl, rfl⟩)
          go_end0
          exact ⟨rfl, R.out⟩
        | false =>
          have R := Lib.hid (H0.out (by unfold goneB; rw [g1, g2, g3, g4]; rfl))
          clear g3
          go_enter Tryz.func181, Tryz.ntmps181
          go_wp2_with (go_at_call 175; refine HD.out.mono ?_; rintro e w' ⟨rfl, rfl⟩)
          go_end0
          exact ⟨rfl, R.out⟩
      | false =>
        have hD := t_isdir (y.f i) x.kind false g3 w k0
        have HD := Lib.hid hD
        clear hD
        cases g4 : (x.links == 0) with
        | true =>
          have R := Lib.hid (H1.out (by unfold goneB; rw [g1, g2, g3, g4]; rfl))
          clear g3
          go_enter Tryz.func181, Tryz.ntmps181
          go_wp2_with (go_at_call 175; refine HD.out.mono ?_; rintro e w' ⟨rfl, rfl⟩)
          go_end0
          exact ⟨rfl, R.out⟩
        | false =>
          have R := Lib.hid (H0.out (by unfold goneB; rw [g1, g2, g3, g4]; rfl))
          clear g3
          go_enter Tryz.func181, Tryz.ntmps181
          go_wp2_with (go_at_call 175; refine HD.out.mono ?_; rintro e w' ⟨rfl, rfl⟩)
          go_end0
          exact ⟨rfl, R.out⟩

/-- Has a directory no entry? -/
noncomputable def emptyB (l : List UInt8 → Option Int) : Bool := @decide (∀ k, l k = none) (Classical.propDecidable _)
theorem emptyB_iff {l : List UInt8 → Option Int} : emptyB l = true ↔ ∀ k, l k = none := by unfold emptyB; simp
theorem NodeM.len {w : World} {Q L G : Nat} {x : PN} (h : NodeM w Q L G N x) : ∃ n : Nat, (∀ ty, (Builtin.len_ #[182] ty #[.map (some L)]).run Tryz.prog w = .ok (.int .i64 n) w) ∧ decide (0 < n) = !emptyB x.l := by
  obtain ⟨n, h1, h2, h3⟩ := h.ents.len lawS Tryz.underlying182 0
  refine ⟨n, fun ty => h2, ?_⟩
  rw [Bool.eq_iff_iff]
  simp only [decide_eq_true_eq, Bool.not_eq_true', Bool.eq_false_iff, ne_eq, emptyB_iff]
  constructor
  · intro hn hall
    have : n = 0 := h3.2 (fun kl _ => by cases kl <;> simp [entsM, hall])
    omega
  · intro hne
    refine Nat.pos_of_ne_zero fun h0 => hne fun k => ?_
    have := h3.1 h0 (.string k) trivial
    simpa [entsM] using this
noncomputable def givesE (x old : PN) : Int :=
  if (old.kind == 2 && !(x.kind == 2)) = true then 181 else if (!(old.kind == 2) && x.kind == 2) = true then 180 else if emptyB old.l = true then 0 else 182
set_option maxHeartbeats 2000000 in
theorem t_gives (Q1 L1 G1 Q2 L2 G2 : Nat) (x old : PN) (r : Int) (hr : givesE x old = r) (w : World) (h1 : NodeM w Q1 L1 G1 N x) (h2 : NodeM w Q2 L2 G2 N old) :
    Calls Tryz.prog 179 #[.pointer (some ⟨Q1, 0, none⟩), .pointer (some ⟨Q2, 0, none⟩)] w fun e w' => e = .returned (.int .i64 r) ∧ w = w' := by
  have k1 : w.cell? ⟨Q1, 0, none⟩ = some (.int .u8 x.kind) := h1.cell 0
  have k2 : w.cell? ⟨Q2, 0, none⟩ = some (.int .u8 old.kind) := h2.cell 0
  have k3 : w.cell? ⟨Q2, 3, none⟩ = some (.map (some L2)) := h2.cell 3
  obtain ⟨n, hlen, hn⟩ := h2.len
  obtain ⟨b, hb⟩ : ∃ b, decide (0 < n) = b := ⟨_, rfl⟩
  have hb2 : decide ((0 : Int) < (n : Int)) = b := by rw [← hb, decide_eq_decide]; omega
  rw [hb] at hn
  have HR := Lib.hid hr
  clear h1 h2 hr
  cases g1 : (old.kind == 2) with
  | true =>
    have HD2 := Lib.hid (t_isdir Q2 old.kind true g1 w k2)
    cases g2 : (x.kind == 2) with
    | true =>
      have HD1 := Lib.hid (t_isdir Q1 x.kind true g2 w k1)
      have HA : Hid ((if b = true then (182 : Int) else 0) = r) := by
        show _ = _; rw [← HR.out]; unfold givesE; rw [g1, g2, hn]; cases emptyB old.l <;> rfl
      clear g1 g2 hn k1 k2
      go_enter Tryz.func179, Tryz.ntmps179
      go_wp2_with (first | (go_at_call 175; (with_reducible refine HD2.out.mono ?_); rintro e w' ⟨rfl, rfl⟩) | (go_at_call 175; (with_reducible refine HD1.out.mono ?_); rintro e w' ⟨rfl, rfl⟩) | (go_at_call 165; refine (t_as b 182 _ HA.out _).mono ?_; rintro e w' ⟨rfl, rfl⟩))
      go_ret
      exact ⟨rfl, rfl⟩
    | false =>
      have HD1 := Lib.hid (t_isdir Q1 x.kind false g2 w k1)
      have HA : Hid (181 = r) := by
        show _ = _; rw [← HR.out]; unfold givesE; rw [g1, g2]; rfl
      clear g1 g2 hn k1 k2
      go_enter Tryz.func179, Tryz.ntmps179
      go_wp2_with (first | (go_at_call 175; (with_reducible refine HD2.out.mono ?_); rintro e w' ⟨rfl, rfl⟩) | (go_at_call 175; (with_reducible refine HD1.out.mono ?_); rintro e w' ⟨rfl, rfl⟩))
      go_ret
      exact ⟨pret_i64 HA.out, rfl⟩
  | false =>
    have HD2 := Lib.hid (t_isdir Q2 old.kind false g1 w k2)
    cases g2 : (x.kind == 2) with
    | true =>
      have HD1 := Lib.hid (t_isdir Q1 x.kind true g2 w k1)
      have HA : Hid (180 = r) := by
        show _ = _; rw [← HR.out]; unfold givesE; rw [g1, g2]; rfl
      clear g1 g2 hn k1 k2
      go_enter Tryz.func179, Tryz.ntmps179
      go_wp2_with (first | (go_at_call 175; (with_reducible refine HD2.out.mono ?_); rintro e w' ⟨rfl, rfl⟩) | (go_at_call 175; (with_reducible refine HD1.out.mono ?_); rintro e w' ⟨rfl, rfl⟩))
      go_ret
      exact ⟨pret_i64 HA.out, rfl⟩
    | false =>
      have HD1 := Lib.hid (t_isdir Q1 x.kind false g2 w k1)
      have HA : Hid ((if b = true then (182 : Int) else 0) = r) := by
        show _ = _; rw [← HR.out]; unfold givesE; rw [g1, g2, hn]; cases emptyB old.l <;> rfl
      clear g1 g2 hn k1 k2
      go_enter Tryz.func179, Tryz.ntmps179
      go_wp2_with (first | (go_at_call 175; (with_reducible refine HD2.out.mono ?_); rintro e w' ⟨rfl, rfl⟩) | (go_at_call 175; (with_reducible refine HD1.out.mono ?_); rintro e w' ⟨rfl, rfl⟩) | (go_at_call 165; refine (t_as b 182 _ HA.out _).mono ?_; rintro e w' ⟨rfl, rfl⟩))
      go_ret
      exact ⟨rfl, rfl⟩

/-- The way up. -/
def upAt (t : PT) (i : Int) : Int := match t.n i with | some x => x.up | none => 0
def Ends (t : PT) : Nat → Int → Prop
  | 0, d => d = 0
  | k + 1, d => d = 0 ∨ ((t.n d).isSome = true ∧ Ends t k (upAt t d))
def belowP (t : PT) (top : Int) : Nat → Int → Bool
  | 0, _ => false
  | k + 1, d => if d = 0 then false else if d = top then true else belowP t top k (upAt t d)
theorem belowP_zero (t : PT) (top : Int) (k : Nat) : belowP t top k 0 = false := by cases k <;> simp [belowP]
set_option maxHeartbeats 2000000 in
theorem t_belowP (dir top : Int) (k : Nat) (r : Bool) (hr : belowP t top k dir = r) (hk : Ends t k dir) (w : World) (h : TreeM w F P N y t) :
    Calls Tryz.prog 178 #[.pointer (some ⟨P, 0, none⟩), .int .u32 dir, .int .u32 top] w fun e w' => e = .returned (.bool r) ∧ w = w' := by
  have HT := Lib.hid h
  have HR := Lib.hid hr
  have HK := Lib.hid hk
  have c1 := h.c1
  clear h hr hk
  go_enter Tryz.func178, Tryz.ntmps178
  go_wp2
  go_loopg [1] k (fun gf d wx => ∃ i : Int, d = .int .u32 i ∧ Hid (Ends t gf i) ∧ Hid (belowP t top gf i = r) ∧ w = wx)
  case atStart => exact ⟨dir, rfl, HK, HR, rfl⟩
  case round =>
    obtain ⟨i, rfl, hE, hB, rfl⟩ := hrel
    by_cases hi : i = 0
    · subst hi
      have HX : Hid (false = r) := by show _ = _; rw [← hB.out, belowP_zero]
      go_wp2
      go_ret
      exact ⟨pret_bool HX.out, rfl⟩
    · have hi' : (i != 0) = true := by simpa using hi
      obtain ⟨g', rfl⟩ : ∃ g', gk = g' + 1 := by
        cases gk with
        | zero => exact absurd hE.out hi
        | succ g => exact ⟨g, rfl⟩
      have hE2 := hE.out.resolve_left hi
      obtain ⟨x, hx⟩ := Option.isSome_iff_exists.1 hE2.1
      by_cases ht : i = top
      · have ht' : (i == top) = true := by simpa using ht
        have HX : Hid (true = r) := by show _ = _; rw [← hB.out]; simp only [belowP]; rw [if_neg hi, if_pos ht]
        clear ht hi hE2 hx
        go_wp2
        go_ret
        exact ⟨pret_bool HX.out, rfl⟩
      · have ht' : (i == top) = false := by simpa using ht
        have hup : upAt t i = x.up := by unfold upAt; rw [hx]
        have HX : Hid (Ends t g' x.up) := by rw [← hup]; exact hE2.2
        have HY : Hid (belowP t top g' x.up = r) := by
          show _ = _
          have := hB.out
          simp only [belowP] at this
          rw [if_neg hi, if_neg ht, hup] at this
          exact this
        have hl := HT.out.look_some hx
        have k6 : w.cell? ⟨y.f i, 6, none⟩ = some (.int .u32 x.up) := (HT.out.node i x hx).cell 6
        clear ht hi hE2 hx hup
        go_wp2
        go_roundg g'
        case measure => omega
        case rel => exact ⟨x.up, rfl, HX, HY, rfl⟩
end
end Go.Proofs.YtehckjkihaalfaaGreat
