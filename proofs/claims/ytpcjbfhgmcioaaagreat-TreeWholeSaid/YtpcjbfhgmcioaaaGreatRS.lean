/- The program's tree: Unlink, Rmdir. -/
import Derived.Test.YtpcjbfhgmcioaaaGreatRR
namespace Go.Proofs.YtpcjbfhgmcioaaaGreat
open Go.RowKit Go.Maps

/-- A tree whose entries lead to inodes that are there. -/
structure GoodP (t : PT) : Prop where
  ent : ∀ d x k v, t.n d = some x → x.l k = some v → v ≠ d ∧ 1 ≤ v ∧ v ≤ 4294967295 ∧ (t.n v).isSome = true
  links : LinksOk t
def unlinkE (x : PN) : Int := if (x.kind == 2) = true then 181 else 0
noncomputable def rmdirE (x : PN) : Int := if (!(x.kind == 2)) = true then 180 else if emptyB x.l = true then 0 else 182
section
variable {F : Nat → Prop} {P N : Nat} {y : Lay} {t : PT}
theorem t_unlink1 (Q L G : Nat) (x : PN) (w : World) (h : NodeM w Q L G N x) : Calls Tryz.prog 46 #[.pointer (some ⟨Q, 0, none⟩)] w fun e w' => e = .returned (.int .i64 (unlinkE x)) ∧ w = w' := by
  have k0 : w.cell? ⟨Q, 0, none⟩ = some (.int .u8 x.kind) := h.cell 0
  obtain ⟨d, hd⟩ : ∃ d, (x.kind == 2) = d := ⟨_, rfl⟩
  have HD := Lib.hid (t_isdir Q x.kind d hd w k0)
  have HA : Hid ((if d = true then (181 : Int) else 0) = unlinkE x) := by show _ = _; unfold unlinkE; rw [hd]
  clear hd h k0
  go_enter Tryz.func46, Tryz.ntmps46
  go_wp2_with (first | (go_at_call 47; refine HD.out.mono ?_; rintro e w' ⟨rfl, rfl⟩) | (go_at_call 44; refine (t_as d 181 _ HA.out _).mono ?_; rintro e w' ⟨rfl, rfl⟩))
  go_ret
  exact ⟨rfl, rfl⟩
theorem t_rmdir1 (Q L G : Nat) (x : PN) (w : World) (h : NodeM w Q L G N x) : Calls Tryz.prog 78 #[.pointer (some ⟨Q, 0, none⟩)] w fun e w' => e = .returned (.int .i64 (rmdirE x)) ∧ w = w' := by
  have k0 : w.cell? ⟨Q, 0, none⟩ = some (.int .u8 x.kind) := h.cell 0
  have k3 : w.cell? ⟨Q, 3, none⟩ = some (.map (some L)) := h.cell 3
  obtain ⟨n, hlen, hn⟩ := h.len
  obtain ⟨b, hb⟩ : ∃ b, decide (0 < n) = b := ⟨_, rfl⟩
  have hb2 : decide ((0 : Int) < (n : Int)) = b := by rw [← hb, decide_eq_decide]; omega
  rw [hb] at hn
  cases hd : (x.kind == 2) with
  | true =>
    have HD := Lib.hid (t_isdir Q x.kind true hd w k0)
    have HA : Hid ((if b = true then (182 : Int) else 0) = rmdirE x) := by show _ = _; unfold rmdirE; rw [hd, hn]; cases emptyB x.l <;> rfl
    clear hd h k0 hn
    go_enter Tryz.func78, Tryz.ntmps78
    go_wp2_with (first | (go_at_call 47; refine HD.out.mono ?_; rintro e w' ⟨rfl, rfl⟩) | (go_at_call 44; refine (t_as b 182 _ HA.out _).mono ?_; rintro e w' ⟨rfl, rfl⟩))
    go_ret
    exact ⟨rfl, rfl⟩
  | false =>
    have HD := Lib.hid (t_isdir Q x.kind false hd w k0)
    have HA : Hid (180 = rmdirE x) := by show _ = _; unfold rmdirE; rw [hd]; rfl
    clear hd h k0 hn
    go_enter Tryz.func78, Tryz.ntmps78
    go_wp2_with (go_at_call 47; refine HD.out.mono ?_; rintro e w' ⟨rfl, rfl⟩)
    go_ret
    exact ⟨pret_i64 HA.out, rfl⟩
theorem enters_unlink1 : Enters 46 := enters_of Tryz.func46 (by kernel_rfl) rfl
theorem enters_rmdir1 : Enters 78 := enters_of Tryz.func78 (by kernel_rfl) rfl

/-- What an entry taken out comes to. -/
def dropT (t : PT) (dir : Int) (xd : PN) (s : ByteArray) (ino : Int) (xi : PN) : PT := freeP (leaveT t dir xd s ino xi) ino (outN xi)
def dropP (t : PT) (dir : Int) (s : ByteArray) (q : PN → Int) : (Int × Int) × PT :=
  if (lookP t dir s).2 ≠ 0 then ((0, (lookP t dir s).2), t) else match t.n dir, t.n (lookP t dir s).1 with
    | some xd, some xi => if q xi ≠ 0 then ((0, q xi), t) else (((lookP t dir s).1, 0), dropT t dir xd s (lookP t dir s).1 xi)
    | _, _ => ((0, 0), t)
theorem look_okP {dir : Int} {s : ByteArray} (hg : GoodP t) (h : (lookP t dir s).2 = 0) : ∃ xd xi, t.n dir = some xd ∧ xd.l s.data.toList = some (lookP t dir s).1 ∧ t.n (lookP t dir s).1 = some xi ∧ (lookP t dir s).1 ≠ dir ∧ 1 ≤ (lookP t dir s).1 ∧ (lookP t dir s).1 ≤ 4294967295 ∧ xd.kind = 2 := by
  unfold lookP at h ⊢
  by_cases he : firstE [namesE [s], thereE t [dir], dirsE t [dir]] ≠ 0
  · rw [if_pos he] at h; exact absurd h he
  · rw [if_neg he] at h ⊢
    have he' := Decidable.not_not.1 he
    obtain ⟨_, he'⟩ := firstE_cons he'
    obtain ⟨h2, he'⟩ := firstE_cons he'
    obtain ⟨h3, _⟩ := firstE_cons he'
    obtain ⟨xd, hx⟩ := Option.isSome_iff_exists.1 (there_one h2)
    rw [hx] at h ⊢
    simp only at h ⊢
    cases hl : xd.l s.data.toList with
    | none => rw [hl] at h; simp at h
    | some v =>
      obtain ⟨g1, g2, g3, g4⟩ := hg.ent dir xd _ v hx hl
      obtain ⟨xi, hi⟩ := Option.isSome_iff_exists.1 g4
      exact ⟨xd, xi, rfl, by simp [hl], by simpa using hi, by simpa using g1, by simpa using g2, by simpa using g3, dirs_zero h3 (by simp) hx⟩
set_option maxHeartbeats 4000000 in
theorem t_dropP (g : Nat) (eg : Enters g) (q : PN → Int) (hq : ∀ (Q L G N : Nat) (x : PN) (w : World), NodeM w Q L G N x → Calls Tryz.prog g #[.pointer (some ⟨Q, 0, none⟩)] w fun e w' => e = .returned (.int .i64 (q x)) ∧ w = w')
    (dir : Int) (s : ByteArray) (r1 r2 : Int) (t' : PT) (hr : dropP t dir s q = ((r1, r2), t')) (w : World) (h : TreeM w F P N y t) (hg : GoodP t) (hd : U32 dir) (hs : s.size ≤ maxLen) :
    Calls Tryz.prog 45 #[.pointer (some ⟨P, 0, none⟩), .int .u32 dir, .string s, .func (.func g) #[] #[]] w fun e w' => e = .returned (.tuple #[.int .u32 r1, .int .i64 r2]) ∧ Became w w' F P N t' := by
  obtain ⟨v, x, hl⟩ : ∃ v x, lookP t dir s = (v, x) := ⟨_, _, rfl⟩
  have HL := Lib.hid (t_look dir s v x hl w h hd hs)
  unfold Enters at eg
  have hr' := hr
  unfold dropP at hr'
  rw [hl] at hr'
  simp only at hr'
  by_cases hx : x = 0
  · subst hx
    rw [if_neg (by simp)] at hr'
    obtain ⟨xd, xi, h1, h2, h3, h4, h5, h6, h7⟩ := look_okP hg (dir := dir) (s := s) (by rw [hl])
    rw [hl] at h2 h3 h4 h5 h6
    simp only at h2 h3 h4 h5 h6
    rw [h1, h3] at hr'
    simp only at hr'
    by_cases hqx : q xi = 0
    · rw [if_neg (by rw [hqx]; simp)] at hr'
      have hP : Hid (r1 = v ∧ r2 = 0 ∧ t' = dropT t dir xd s v xi) := by
        injection hr' with a b
        injection a with a c
        exact ⟨a.symm, c.symm, b.symm⟩
      have HQ := Lib.hid (fun W (hW : Below w.heap.size w W) => hq _ _ _ _ xi W ((h.below hW).node v xi h3))
      have HLV := Lib.hid (fun W (hW : Below w.heap.size w W) => t_leave dir s v xd xi W (h.below hW) h1 h2 h3 h4 hs (hg.links v xi h3))
      have HF := Lib.hid (fun W (hW : TreeM W F P N y (leaveT t dir xd s v xi)) => t_freeP v (outN xi) W hW (by unfold leaveT; rw [PT.set_n, if_neg h4, PT.set_n, if_pos rfl]))
      have HT := Lib.hid h
      have H3 := Lib.hid h3
      have hqz : q xi = 0 := hqx
      clear hr hr' hl h h1 h2 h3 h4 hq hg
      rw [hqz] at HQ
      clear hqz hqx
      go_enter Tryz.func45, Tryz.ntmps45
      go_wp2_with (go_at_call 23; refine HL.out.mono ?_; rintro e w1 ⟨rfl, hB⟩; have c1 := (HT.out.below hB).c1; have hlk := (HT.out.below hB).look_some H3.out; have HQ1 := Lib.hid (HQ.out w1 hB); have HV1 := Lib.hid (HLV.out w1 hB); have HB := Lib.hid hB; clear hB)
      have hcq := HQ1.out
      go_wp2_with (first
        | (go_at_fn g; refine hcq.mono ?_; rintro e w2 ⟨rfl, rfl⟩; clear hcq)
        | (go_at_call 74; refine HV1.out.mono ?_; rintro e w3 ⟨rfl, hT3, hU3⟩; have H3 := Lib.hid hT3; have HU3 := Lib.hid hU3; clear hT3 hU3)
        | (go_at_call 75; refine (HF.out _ H3.out).mono ?_; rintro e w4 ⟨rfl, hT4, hU4⟩; have H4 := Lib.hid hT4; have HU4 := Lib.hid hU4; clear hT4 hU4))
      go_ret2
      obtain ⟨rfl, rfl, rfl⟩ := hP.out
      exact ⟨rfl, _, _, H4.out, (Turn.of_below F HB.out).trans (HU3.out.trans HU4.out)⟩
    · rw [if_pos hqx] at hr'
      have hP : Hid (r1 = 0 ∧ r2 = q xi ∧ t' = t) := by
        injection hr' with a b
        injection a with a c
        exact ⟨a.symm, c.symm, b.symm⟩
      have HQ := Lib.hid (fun W (hW : Below w.heap.size w W) => hq _ _ _ _ xi W ((h.below hW).node v xi h3))
      have HT := Lib.hid h
      have H3 := Lib.hid h3
      generalize q xi = z at *
      have hz : (z != 0) = true := by simpa using hqx
      clear hr hr' hl h h1 h2 h3 h4 hq hg hqx
      go_enter Tryz.func45, Tryz.ntmps45
      go_wp2_with (go_at_call 23; refine HL.out.mono ?_; rintro e w1 ⟨rfl, hB⟩; have c1 := (HT.out.below hB).c1; have hlk := (HT.out.below hB).look_some H3.out; have HQ1 := Lib.hid (HQ.out w1 hB); have HB := Lib.hid hB; clear hB)
      have hcq := HQ1.out
      go_wp2_with (go_at_fn g; refine hcq.mono ?_; rintro e w2 ⟨rfl, rfl⟩; clear hcq)
      go_ret2
      obtain ⟨rfl, rfl, rfl⟩ := hP.out
      exact ⟨rfl, _, _, HT.out.below HB.out, Turn.of_below F HB.out⟩
  · rw [if_pos hx] at hr'
    have hP : Hid (r1 = 0 ∧ r2 = x ∧ t' = t) := by
      injection hr' with a b
      injection a with a c
      exact ⟨a.symm, c.symm, b.symm⟩
    have HT := Lib.hid h
    have hx1 : (x != 0) = true := by simpa using hx
    have hx2 : (x == 0) = false := by simpa using hx
    clear hr hr' hl hx h hq hg
    go_enter Tryz.func45, Tryz.ntmps45
    go_wp2_with (go_at_call 23; refine HL.out.mono ?_; rintro e w1 ⟨rfl, hB⟩; have HB := Lib.hid hB; clear hB)
    go_ret2
    obtain ⟨rfl, rfl, rfl⟩ := hP.out
    exact ⟨rfl, _, _, HT.out.below HB.out, Turn.of_below F HB.out⟩
end
end Go.Proofs.YtpcjbfhgmcioaaaGreat
