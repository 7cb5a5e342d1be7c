/- The program's tree: Unlink, Rmdir. -/
import Derived.Test.YtpcjbfhgmcioaaaGreatRR
namespace Go.Proofs.YtpcjbfhgmcioaaaGreat
open Go.RowKit Go.Maps

/-- A tree whose entries lead to inodes that are there. -/
structure GoodP (t : PT) : Prop where
  ent : ∀ d x k v, t.n d = some x → x.l k = some v → v ≠ d ∧ 1 ≤ v ∧ v ≤ 4294967295 ∧ (t.n v).isSome = true
  links : LinksOk t
def unlinkE (x : PN) : Int := if (x.kind == 2) = true then 181 else 0
noncomputable def rmdirE (x : PN) : Int := if (!(x.kind == 2)) = true then 180 else if emptyB x.l = true then 0 else 182
section
variable {F : Nat → Prop} {P N : Nat} {y : Lay} {t : PT}
theorem t_unlink1 (Q L G : Nat) (x : PN) (w : World) (h : NodeM w Q L G N x) : Calls Tryz.prog 46 #[.pointer (some ⟨Q, 0, none⟩)] w fun e w' => e = .returned (.int .i64 (unlinkE x)) ∧ w = w' := by
  have k0 : w.cell? ⟨Q, 0, none⟩ = some (.int .u8 x.kind) := h.cell 0
  obtain ⟨d, hd⟩ : ∃ d, (x.kind == 2) = d := ⟨_, rfl⟩
  have HD := Lib.hid (t_isdir Q x.kind d hd w k0)
  have HA : Hid ((if d = true then (181 : Int) else 0) = unlinkE x) := by show _ = _; unfold unlinkE; rw [hd]
  clear hd h k0
  go_enter Tryz.func46, Tryz.ntmps46
  go_wp2_with (first | (go_at_call 47; refine HD.out.mono ?_; rintro e w' ⟨rfl, rfl⟩) | (go_at_call 44; refine (t_as d 181 _ HA.out _).mono ?_; rintro e w' ⟨rfl, rfl⟩))
  go_ret
  exact ⟨rfl, rfl⟩
theorem t_rmdir1 (Q L G : Nat) (x : PN) (w : World) (h : NodeM w Q L G N x) : Calls Tryz.prog 78 #[.pointer (some ⟨Q, 0, none⟩)] w fun e w' => e = .returned (.int .i64 (rmdirE x)) ∧ w = w' := by
  have k0 : w.cell? ⟨Q, 0, none⟩ = some (.int .u8 x.kind) := h.cell 0
  have k3 : w.cell? ⟨Q, 3, none⟩ = some (.map (some L)) := h.cell 3
  obtain ⟨n, hlen, hn⟩ := h.len
  obtain ⟨b, hb⟩ : ∃ b, decide (0 < n) = b := ⟨_, rfl⟩
  have hb2 : decide ((0 : Int) < (n : Int)) = b := by rw [← hb, decide_eq_decide]; omega
  rw [hb] at hn
  cases hd : (x.kind == 2) with
  | true =>
    have HD := Lib.hid (t_isdir Q x.kind true hd w k0)
    have HA : Hid ((if b = true then (182 : Int) else 0) = rmdirE x) := by show _ = _; unfold rmdirE; rw [hd, hn]; cases emptyB x.l <;> rfl
    clear hd h k0 hn
    go_enter Tryz.func78, Tryz.ntmps78
    go_wp2_with (first | (go_at_call 47; refine HD.out.mono ?_; rintro e w' ⟨rfl, rfl⟩) | (go_at_call 44; refine (t_as b 182 _ HA.out _).mono ?_; rintro e w' ⟨rfl, rfl⟩))
    go_ret
    exact ⟨rfl, rfl⟩
  | false =>
    have HD := Lib.hid (t_isdir Q x.kind false hd w k0)
    have HA : Hid (180 = rmdirE x) := by show _ = _; unfold rmdirE; rw [hd]; rfl
    clear hd h k0 hn
    go_enter Tryz.func78, Tryz.ntmps78
    go_wp2_with (go_at_call 47; refine HD.out.mono ?_; rintro e w' ⟨rfl, rfl⟩)
    go_ret
    exact ⟨pret_i64 HA.out, rfl⟩
theorem enters_unlink1 : Enters 46 := enters_of Tryz.func46 (by kernel_rfl) rfl
theorem enters_rmdir1 : Enters 78 := enters_of Tryz.func78 (by kernel_rfl) rfl

/-- What an entry taken out comes to. -/
def dropT (t : PT) (dir : Int) (xd : PN) (s : ByteArray) (ino : Int) (xi : PN) : PT := freeP (leaveT t dir xd s ino xi) ino (outN xi)
def dropP (t : PT) (dir : Int) (s : ByteArray) (q : PN → Int) : (Int × Int) × PT :=
  if (lookP t dir s).2 ≠ 0 then ((0, (lookP t dir s).2), t) else match t.n dir, t.n (lookP t dir s).1 with
    | some xd, some xi => if q xi ≠ 0 then ((0, q xi), t) else (((lookP t dir s).1, 0), dropT t dir xd s (lookP t dir s).1 xi)
    | _, _ => ((0, 0), t)
theorem look_okP {dir : Int} {s : ByteArray} (hg : GoodP t) (h : (lookP t dir s).2 = 0) : ∃ xd xi, t.n dir = some xd ∧ xd.l s.data.toList = some (lookP t dir s).1 ∧ t.n (lookP t dir s).1 = some xi ∧ (lookP t dir s).1 ≠ dir ∧ 1 ≤ (lookP t dir s).1 ∧ (lookP t dir s).1 ≤ 4294967295 ∧ xd.kind = 2 := by
  unfold lookP at h ⊢
  by_cases he : firstE [namesE [s], thereE t [dir], dirsE t [dir]] ≠ 0
  · rw [if_pos he] at h; exact absurd h he
  · rw [if_neg he] at h ⊢
    have he' := Decidable.not_not.1 he
    obtain ⟨_, he'⟩ := firstE_cons he'
    obtain ⟨h2, he'⟩ := firstE_cons he'
    obtain ⟨h3, _⟩ := firstE_cons he'
    obtain ⟨xd, hx⟩ := Option.isSome_iff_exists.1 (there_one h2)
    rw [hx] at h ⊢
    simp only at h ⊢
    cases hl : xd.l s.data.toList with
    | none => rw [hl] at h; simp at h
    | some v =>
      obtain ⟨g1, g2, g3, g4⟩ := hg.ent dir xd _ v hx hl
      obtain ⟨xi, hi⟩ := Option.isSome_iff_exists.1 g4
      exact ⟨xd, xi, rfl, by simp [hl], by simpa using hi, by simpa using g1, by simpa using g2, by simpa using g3, dirs_zero h3 (by simp) hx⟩
set_option maxHeartbeats 4000000 in
theorem t_dropP (g : Nat) (eg : Enters g) (q : PN → Int) (hq : ∀ (Q L G N : Nat) (x : PN) (w : World), NodeM w Q L G N x → Calls Tryz.prog g #[.pointer (some ⟨Q, 0, none⟩)] w fun e w' => e = .returned (.int .i64 (q x)) ∧ w = w')
    (dir : Int) (s : ByteArray) (r1 r2 : Int) (t' : PT) (hr : dropP t dir s q = ((r1, r2), t')) (w : World) (h : TreeM w F P N y t) (hg : GoodP t) (hd : U32 dir) (hs : s.size ≤ maxLen) :
    Calls Tryz.prog 45 #[.pointer (some ⟨P, 0, none⟩), .int .u32 dir, .string s, .func (.func g) #[] #[]] w fun e w' => e = .returned (.tuple #[.int .u32 r1, .int .i64 r2]) ∧ Became w w' F P N t' := by
  obtain ⟨v, x, hl⟩ : ∃ v x, lookP t dir s = (v, x) := ⟨_, _, rfl⟩
  have HL := Lib.hid (t_look dir s v x hl w h hd hs)
  unfold Enters at eg
  have hr' := hr
  unfold dropP at hr'
  rw [hl] at hr'
  simp only at hr'
  by_cases hx : x = 0
  · subst hx
    rw [if_neg (by simp)] at hr'
    obtain ⟨xd, xi, h1, h2, h3, h4, h5, h6, h7⟩ := look_okP hg (dir := dir) (s := s) (by rw [hl])
    rw [hl] at h2 h3 h4 h5 h6
    simp only at h2 h3 h4 h5 h6
    rw [h1, h3] at hr'
    simp only at hr'
    by_cases hqx : q xi = 0
    · rw [if_neg (by rw [hqx]; simp)] at hr'
      have hP : Hid (r1 = v ∧ r2 = 0 ∧ t' = dropT t dir xd s v xi) := by
        injection hr' with a b
        injection a with a c
        exact ⟨a.symm, c.symm, b.symm⟩
      have HQ := Lib.hid (fun W (hW : Below w.heap.size w W) => hq _ _ _ _ xi W ((h.below hW).node v xi h3))
      have HLV := Lib.hid (fun W (hW : Below w.heap.size w W) => t_leave dir s v xd xi W (h.below hW) h1 h2 h3 h4 hs (hg.links v xi h3))
      have HF := Lib.hid (fun W (hW : TreeM W F P N y (leaveT t dir xd s v xi)) => t_freeP v (outN xi) W hW (by unfold leaveT; rw [PT.set_n, if_neg h4, PT.set_n, if_pos rfl]))
      have HT := Lib.hid h
      have H3 := Lib.hid h3
      have hqz : q xi = 0 := hqx
      clear hr hr' hl h h1 h2 h3 h4 hq hg
      rw [hqz] at HQ
      clear hqz hqx
      go_enter Tryz.func45, Tryz.ntmps45
      go_wp2_with (go_at_call 23; refine HL.out.mono ?_; rintro e w1 ⟨rfl, hB⟩; have c1 := (HT.out.below hB).c1; have hlk := (HT.out.below hB).look_some H3.out; have HQ1 := Lib.hid (HQ.out w1 hB); have HV1 := Lib.hid (HLV.out w1 hB); have HB := Lib.hid hB; clear hB)
      have hcq := HQ1.out
      go_wp2_with (first
        | (go_at_fn g; refine hcq.mono ?_; rintro e w2 ⟨rfl, rfl⟩; clear hcq)
        | (go_at_call 74; refine HV1.out.mono ?_; rintro e w3 ⟨rfl, hT3, hU3⟩; have H3 := Lib.hid hT3; have HU3 := Lib.hid hU3; clear hT3 hU3)
        | (go_at_call 75; refine (HF.out _ H3.out).mono ?_; rintro e w4 ⟨rfl, hT4, hU4⟩; have H4 := Lib.hid hT4; have HU4 := Lib.hid hU4; clear hT4 hU4))
      go_ret2
      obtain ⟨rfl, rfl, rfl⟩ := hP.out
      exact ⟨rfl, _, _, H4.out, (Turn.of_below F HB.out).trans (HU3.out.trans HU4.out)⟩
    · rw [if_pos hqx] at hr'
      have hP : Hid (r1 = 0 ∧ r2 = q xi ∧ t' = t) := by
        injection hr' with a b
        injection a with a c
        exact ⟨a.symm, c.symm, b.symm⟩
      have HQ := Lib.hid (fun W (hW : Below w.heap.size w W) => hq _ _ _ _ xi W ((h.below hW).node v xi h3))
      have HT := Lib.hid h
      have H3 := Lib.hid h3
      generalize q xi = z at *
      have hz : (z != 0) = true := by simpa using hqx
      clear hr hr' hl h h1 h2 h3 h4 hq hg hqx
      go_enter Tryz.func45, Tryz.ntmps45
      go_wp2_with (go_at_call 23; refine HL.out.mono ?_; rintro e w1 ⟨rfl, hB⟩; have c1 := (HT.out.below hB).c1; have hlk := (HT.out.below hB).look_some H3.out; have HQ1 := Lib.hid (HQ.out w1 hB); have HB := Lib.hid hB; clear hB)
      have hcq := HQ1.out
      go_wp2_with (go_at_fn g; refine hcq.mono ?_; rintro e w2 ⟨rfl, rfl⟩; clear hcq)
      go_ret2
      obtain ⟨rfl, rfl, rfl⟩ := hP.out
      exact ⟨rfl, _, _, HT.out.below HB.out, Turn.of_below F HB.out⟩
  · rw [if_pos hx] at hr'
    have hP : Hid (r1 = 0 ∧ r2 = x ∧ t' = t) := by
      injection hr' with a b
      injection a with a c
      exact ⟨a.symm, c.symm, b.symm⟩
    have HT := Lib.hid h
    have hx1 : (x != 0) = true := by simpa using hx
    have hx2 : (x == 0) = false := by simpa using hx
    clear hr hr' hl hx h hq hg
    go_enter Tryz.func45, Tryz.ntmps45
    go_wp2_with (go_at_call 23; refine HL.out.mono ?_; rintro e w1 ⟨rfl, hB⟩; have HB := Lib.hid hB; clear hB)
    go_ret2
    obtain ⟨rfl, rfl, rfl⟩ := hP.out
    exact ⟨rfl, _, _, HT.out.below HB.out, Turn.of_below F HB.out⟩
end
end Go.Proofs.YtpcjbfhgmcioaaaGreat

/- The program's tree: Unlink, Rmdir, Stat. -/
namespace Go.Proofs.YtpcjbfhgmcioaaaGreat
open Go.RowKit Go.Maps

section
variable {F : Nat → Prop} {P N : Nat} {y : Lay} {t : PT}
theorem t_unlinkP (dir : Int) (s : ByteArray) (r1 r2 : Int) (t' : PT) (hr : dropP t dir s unlinkE = ((r1, r2), t')) (w : World) (h : TreeM w F P N y t) (hg : GoodP t) (hd : U32 dir) (hs : s.size ≤ maxLen) :
    Calls Tryz.prog 13 #[.pointer (some ⟨P, 0, none⟩), .int .u32 dir, .string s] w fun e w' => e = .returned (.tuple #[.int .u32 r1, .int .i64 r2]) ∧ Became w w' F P N t' := by
  have HD := Lib.hid (t_dropP 46 enters_unlink1 unlinkE (fun Q L G N x w h => t_unlink1 Q L G x w h) dir s r1 r2 t' hr w h hg hd hs)
  clear hr h hg
  go_enter Tryz.func13, Tryz.ntmps13
  go_wp2_with (go_at_call 45; refine HD.out.mono ?_; rintro e w1 ⟨rfl, hB⟩; have HB := Lib.hid hB; clear hB)
  go_ret2
  exact ⟨rfl, HB.out⟩
theorem t_rmdirP (dir : Int) (s : ByteArray) (r1 r2 : Int) (t' : PT) (hr : dropP t dir s rmdirE = ((r1, r2), t')) (w : World) (h : TreeM w F P N y t) (hg : GoodP t) (hd : U32 dir) (hs : s.size ≤ maxLen) :
    Calls Tryz.prog 27 #[.pointer (some ⟨P, 0, none⟩), .int .u32 dir, .string s] w fun e w' => e = .returned (.tuple #[.int .u32 r1, .int .i64 r2]) ∧ Became w w' F P N t' := by
  have HD := Lib.hid (t_dropP 78 enters_rmdir1 rmdirE (fun Q L G N x w h => t_rmdir1 Q L G x w h) dir s r1 r2 t' hr w h hg hd hs)
  clear hr h hg
  go_enter Tryz.func27, Tryz.ntmps27
  go_wp2_with (go_at_call 45; refine HD.out.mono ?_; rintro e w1 ⟨rfl, hB⟩; have HB := Lib.hid hB; clear hB)
  go_ret2
  exact ⟨rfl, HB.out⟩

/-! ### rows of questions -/
theorem asked1 {W : World} {v1 : Value} {e1 : Int} (q1 : Question W v1 e1) : Asked W [v1] [e1] := by
  refine Asked.of W _ _ rfl fun j e v he hv h0 => ?_
  match j with
  | 0 => simp at he hv; subst he; subst hv; exact q1
  | j + 1 => simp at he
theorem asked3 {W : World} {i : Int} {v1 v2 v3 : Value} {e3 : Int} (q1 : Question W v1 (thereE t [i])) (q2 : (t.n i).isSome = true → Question W v2 (fileE' t i)) (q3 : Question W v3 e3) : Asked W [v1, v2, v3] [thereE t [i], fileE' t i, e3] := by
  refine Asked.of W _ _ rfl fun j e v he hv h0 => ?_
  match j with
  | 0 => simp at he hv; subst he; subst hv; exact q1
  | 1 => simp at he hv; subst he; subst hv; exact q2 (there_one (h0 0 _ (by omega) rfl))
  | 2 => simp at he hv; subst he; subst hv; exact q3
  | j + 3 => simp at he
theorem asked4 {W : World} {i : Int} {v1 v2 v3 v4 : Value} {e3 e4 : Int} (q1 : Question W v1 (thereE t [i])) (q2 : (t.n i).isSome = true → Question W v2 (fileE' t i)) (q3 : Question W v3 e3) (q4 : Question W v4 e4) : Asked W [v1, v2, v3, v4] [thereE t [i], fileE' t i, e3, e4] := by
  refine Asked.of W _ _ rfl fun j e v he hv h0 => ?_
  match j with
  | 0 => simp at he hv; subst he; subst hv; exact q1
  | 1 => simp at he hv; subst he; subst hv; exact q2 (there_one (h0 0 _ (by omega) rfl))
  | 2 => simp at he hv; subst he; subst hv; exact q3
  | 3 => simp at he hv; subst he; subst hv; exact q4
  | j + 4 => simp at he
theorem file_zero {i : Int} {x : PN} (hx : t.n i = some x) (h : fileE' t i = 0) : x.kind ≠ 2 := by
  unfold fileE' fileQE at h
  rw [hx] at h
  intro hk
  simp [hk] at h
theorem below_a1 (w : World) (a : Obj) : Below w.heap.size w (w.alloc a) := (Below.refl _ _).alloc (Nat.le_refl _) _
theorem below_a2 (w : World) (a b : Obj) : Below w.heap.size w ((w.alloc a).alloc b) := (below_a1 w a).alloc (by simp) _
theorem QPost.get {w w' : World} {r : Int} {e : Ending} (h : QPost w r e w') : ∃ g lb, e = .returned (.func (.func g) #[] lb) ∧ Question w' (.func (.func g) #[] lb) r ∧ Below w.heap.size w w' := by
  obtain ⟨v, rfl, hq, hb⟩ := h
  obtain ⟨g, lb, rfl, hq2⟩ := id hq
  exact ⟨g, lb, rfl, hq, hb⟩

theorem SliceAt.built' (w : World) (xs : List Value) (T : TypeId) (B : Nat) (hB : w.heap.size = B) : SliceAt (w.alloc (.cells xs.toArray T)) (some ⟨B, 0, none⟩) xs := by subst hB; exact SliceAt.built w xs T
/-- What asks whether an inode is there, in whatever later world. -/
theorem there_later {w : World} (h : TreeM w F P N y t) (i : Int) (hi : U32 i) : ∀ W A c, Below w.heap.size w W → SliceAt W A [.int .u32 i] → Calls Tryz.prog 40 #[.pointer (some ⟨P, 0, none⟩), .slice A 1 c] W (QPost W (thereE t [i])) :=
  fun W A c hb hA => t_there [i] A 1 c _ rfl W (h.below hb) rfl (by simpa using hi) (by simp [maxLen]) hA
theorem file_later {w : World} (h : TreeM w F P N y t) (i : Int) : ∀ W, Below w.heap.size w W → Calls Tryz.prog 48 #[.pointer (some ⟨P, 0, none⟩), .int .u32 i] W (QIf ((t.n i).isSome = true) W (fileE' t i)) :=
  fun W hb => t_file i _ rfl W (h.below hb)
theorem check_built (W : World) (P : Nat) (vs : List Value) (n : Nat) (es : List Int) (r : Int) (hr : firstE es = r) (T : TypeId) (hn : vs.length = n) (hm : n ≤ 100) (hq : Asked W vs es) (hne : es ≠ []) :
    Calls Tryz.prog 37 #[.pointer (some ⟨P, 0, none⟩), .slice (some ⟨W.heap.size, 0, none⟩) n n] (W.alloc (.cells vs.toArray T)) fun e w' => e = .returned (.int .i64 r) ∧ Below (W.alloc (.cells vs.toArray T)).heap.size (W.alloc (.cells vs.toArray T)) w' :=
  t_checkL ⟨P, 0, none⟩ _ vs n n es r hr _ hn (by unfold maxLen; omega) (SliceAt.built W vs T) (hq.later (below_a1 W _)) hne
def statP (i : Int) (x : PN) : Value := .agg #[.int .u32 i, .int .u8 x.kind, .int .i64 x.links, .int .u32 x.size]
def stat0 : Value := .agg #[.int .u32 0, .int .u8 0, .int .i64 0, .int .u32 0]
def statR (t : PT) (i : Int) : Value × Int := match t.n i with | some x => (statP i x, 0) | none => (stat0, 3)
/-- Four cells are stored. -/
def put4 (w : World) (B : Nat) (a b c d : Value) : World := (((w.setCell ⟨B, 0, none⟩ a).setCell ⟨B, 1, none⟩ b).setCell ⟨B, 2, none⟩ c).setCell ⟨B, 3, none⟩ d
theorem put4_cells {w : World} {B : Nat} {a0 b0 c0 d0 : Value} {T : TypeId} (h : w.heap[B]? = some (.cells #[a0, b0, c0, d0] T (0, 0))) (a b c d : Value) :
    (put4 w B a b c d).cell? ⟨B, 0, none⟩ = some a ∧ (put4 w B a b c d).cell? ⟨B, 1, none⟩ = some b ∧ (put4 w B a b c d).cell? ⟨B, 2, none⟩ = some c ∧ (put4 w B a b c d).cell? ⟨B, 3, none⟩ = some d := by
  have := pheap_set _ B 3 d _ _ (pheap_set _ B 2 c _ _ (pheap_set _ B 1 b _ _ (pheap_set w B 0 a _ _ h)))
  unfold put4
  refine ⟨?_, ?_, ?_, ?_⟩ <;> simp [World.cell?, this]
theorem put4_below {w w' : World} {B : Nat} (h : Below w.heap.size w w') (hB : w.heap.size ≤ B) (a b c d : Value) : Below w.heap.size w (put4 w' B a b c d) :=
  (((h.setCell (p := ⟨B, 0, none⟩) hB a).setCell (p := ⟨B, 1, none⟩) hB b).setCell (p := ⟨B, 2, none⟩) hB c).setCell (p := ⟨B, 3, none⟩) hB d
set_option maxRecDepth 100000 in
set_option maxHeartbeats 1000000 in
theorem t_statP (i : Int) (w : World) (h : TreeM w F P N y t) (hi : U32 i) :
    Calls Tryz.prog 26 #[.pointer (some ⟨P, 0, none⟩), .int .u32 i] w fun e w' => e = .returned (.tuple #[(statR t i).1, .int .i64 (statR t i).2]) ∧ Below w.heap.size w w' := by
  have HTh := Lib.hid (there_later h i hi)
  have HT := Lib.hid h
  cases hx : t.n i with
  | none =>
    have HE : Hid (firstE [thereE t [i]] = 3) := by show _ = _; simp [firstE, thereE, hx]
    have HS : Hid (statR t i = (stat0, 3)) := by show _ = _; unfold statR; rw [hx]
    clear h hi hx
    go_enter Tryz.func26, Tryz.ntmps26
    have hS := heap_alloc_new w (.cells #[.int .u32 0, .int .u8 0, .int .i64 0, .int .u32 0] 54)
    have HS0 := Lib.hid hS
    clear hS
    go_wp2_with (first
      | (go_at_call 40; (with_reducible refine (HTh.out _ _ _ (below_a2 w _ _) (SliceAt.built' _ [.int .u32 i] _ (w.heap.size + 1) (by simp))).mono ?_); rintro e w1 hq; obtain ⟨g, lb, rfl, hq1, hb1⟩ := hq.get; have HQ := Lib.hid hq1; have HB1 := Lib.hid hb1; clear hq hq1 hb1)
      | (go_at_call 37; (with_reducible refine (check_built w1 P [.func (.func g) #[] lb] 1 [thereE t [i]] 3 HE.out _ rfl (by omega) (asked1 HQ.out) (by simp)).mono ?_); rintro e w2 ⟨rfl, hb2⟩
         have hb : Below (w.alloc (.cells #[.int .u32 0, .int .u8 0, .int .i64 0, .int .u32 0] 54)).heap.size (w.alloc (.cells #[.int .u32 0, .int .u8 0, .int .i64 0, .int .u32 0] 54)) w2 := ptrans (below_a1 _ _) (ptrans HB1.out (ptrans (below_a1 _ _) hb2))
         have hbx : w2.heap[w.heap.size]? = some (.cells #[.int .u32 0, .int .u8 0, .int .i64 0, .int .u32 0] 54 (0, 0)) := (hb.block _ (by simp)).trans HS0.out
         have k0 : w2.cell? ⟨w.heap.size, 0, none⟩ = some (.int .u32 0) := (by simp [World.cell?, hbx])
         have k1 : w2.cell? ⟨w.heap.size, 1, none⟩ = some (.int .u8 0) := (by simp [World.cell?, hbx])
         have k2 : w2.cell? ⟨w.heap.size, 2, none⟩ = some (.int .i64 0) := (by simp [World.cell?, hbx])
         have k3 : w2.cell? ⟨w.heap.size, 3, none⟩ = some (.int .u32 0) := (by simp [World.cell?, hbx])
         have f0 : w2.frozen? ⟨w.heap.size, 0, none⟩ = false := (by simp [World.frozen?, hbx])
         have f1 : w2.frozen? ⟨w.heap.size, 1, none⟩ = false := (by simp [World.frozen?, hbx])
         have f2 : w2.frozen? ⟨w.heap.size, 2, none⟩ = false := (by simp [World.frozen?, hbx])
         have f3 : w2.frozen? ⟨w.heap.size, 3, none⟩ = false := (by simp [World.frozen?, hbx])
         have HB := Lib.hid (ptrans (below_a1 w _) hb)
         have HBX := Lib.hid hbx
         clear hb hbx hb2 HB1 HQ))
    obtain ⟨kk0, kk1, kk2, kk3⟩ := put4_cells HBX.out (.int .u32 0) (.int .u8 0) (.int .i64 0) (.int .u32 0)
    unfold put4 at kk0 kk1 kk2 kk3
    rw [HS.out]
    exact bodyPost_ret (v := .tuple #[stat0, .int .i64 3]) (by simp [results, Tryz.results26, go_sem, stat0, kk0, kk1, kk2, kk3]) rfl ⟨rfl, put4_below HB.out (Nat.le_refl _) _ _ _ _⟩
  | some x =>
    have HE : Hid (firstE [thereE t [i]] = 0) := by show _ = _; simp [firstE, thereE, hx]
    have HS : Hid (statR t i = (statP i x, 0)) := by show _ = _; unfold statR; rw [hx]
    have HX := Lib.hid hx
    clear h hi hx
    go_enter Tryz.func26, Tryz.ntmps26
    have hS := heap_alloc_new w (.cells #[.int .u32 0, .int .u8 0, .int .i64 0, .int .u32 0] 54)
    have HS0 := Lib.hid hS
    clear hS
    go_wp2_with (first
      | (go_at_call 40; (with_reducible refine (HTh.out _ _ _ (below_a2 w _ _) (SliceAt.built' _ [.int .u32 i] _ (w.heap.size + 1) (by simp))).mono ?_); rintro e w1 hq; obtain ⟨g, lb, rfl, hq1, hb1⟩ := hq.get; have HQ := Lib.hid hq1; have HB1 := Lib.hid hb1; clear hq hq1 hb1)
      | (go_at_call 37; (with_reducible refine (check_built w1 P [.func (.func g) #[] lb] 1 [thereE t [i]] 0 HE.out _ rfl (by omega) (asked1 HQ.out) (by simp)).mono ?_); rintro e w2 ⟨rfl, hb2⟩
         have hb : Below (w.alloc (.cells #[.int .u32 0, .int .u8 0, .int .i64 0, .int .u32 0] 54)).heap.size (w.alloc (.cells #[.int .u32 0, .int .u8 0, .int .i64 0, .int .u32 0] 54)) w2 := ptrans (below_a1 _ _) (ptrans HB1.out (ptrans (below_a1 _ _) hb2))
         have hbx : w2.heap[w.heap.size]? = some (.cells #[.int .u32 0, .int .u8 0, .int .i64 0, .int .u32 0] 54 (0, 0)) := (hb.block _ (by simp)).trans HS0.out
         have k0 : w2.cell? ⟨w.heap.size, 0, none⟩ = some (.int .u32 0) := (by simp [World.cell?, hbx])
         have k1 : w2.cell? ⟨w.heap.size, 1, none⟩ = some (.int .u8 0) := (by simp [World.cell?, hbx])
         have k2 : w2.cell? ⟨w.heap.size, 2, none⟩ = some (.int .i64 0) := (by simp [World.cell?, hbx])
         have k3 : w2.cell? ⟨w.heap.size, 3, none⟩ = some (.int .u32 0) := (by simp [World.cell?, hbx])
         have f0 : w2.frozen? ⟨w.heap.size, 0, none⟩ = false := (by simp [World.frozen?, hbx])
         have f1 : w2.frozen? ⟨w.heap.size, 1, none⟩ = false := (by simp [World.frozen?, hbx])
         have f2 : w2.frozen? ⟨w.heap.size, 2, none⟩ = false := (by simp [World.frozen?, hbx])
         have f3 : w2.frozen? ⟨w.heap.size, 3, none⟩ = false := (by simp [World.frozen?, hbx])
         have hT2 := HT.out.below (ptrans (below_a1 w _) hb)
         have c1 := hT2.c1
         have hlk := hT2.look_some HX.out
         have n0 : w2.cell? ⟨y.f i, 0, none⟩ = some (.int .u8 x.kind) := (hT2.node i x HX.out).cell 0
         have n1 : w2.cell? ⟨y.f i, 1, none⟩ = some (.int .i64 x.links) := (hT2.node i x HX.out).cell 1
         have n2 : w2.cell? ⟨y.f i, 2, none⟩ = some (.int .u32 x.size) := (hT2.node i x HX.out).cell 2
         have hne : y.f i ≠ w.heap.size := (by have := (HT.out.node i x HX.out).ltQ; omega)
         have HB := Lib.hid (ptrans (below_a1 w _) hb)
         have HBX := Lib.hid hbx
         clear hb hbx hb2 HB1 HQ hT2))
    have hne2 : w.heap.size ≠ y.f i := Ne.symm hne
    go_region_held3 (fun w' => w'.cell? ⟨y.f i, 0, none⟩ = some (.int .u8 x.kind) ∧ w'.cell? ⟨y.f i, 1, none⟩ = some (.int .i64 x.links) ∧ w'.cell? ⟨y.f i, 2, none⟩ = some (.int .u32 x.size)) (first | exact ⟨n0, n1, n2⟩ | go_keep) (fail)
    obtain ⟨kk0, kk1, kk2, kk3⟩ := put4_cells HBX.out (.int .u32 i) (.int .u8 x.kind) (.int .i64 x.links) (.int .u32 x.size)
    have HBD := Lib.hid (pbelow_drew (put4_below HB.out (Nat.le_refl _) (.int .u32 i) (.int .u8 x.kind) (.int .i64 x.links) (.int .u32 x.size)))
    unfold put4 at kk0 kk1 kk2 kk3
    go_wp2
    rw [HS.out]
    exact bodyPost_ret (v := .tuple #[statP i x, .int .i64 0]) (by simp [results, Tryz.results26, go_sem, statP, kk0, kk1, kk2, kk3]) rfl ⟨rfl, HBD.out⟩
end
end Go.Proofs.YtpcjbfhgmcioaaaGreat
