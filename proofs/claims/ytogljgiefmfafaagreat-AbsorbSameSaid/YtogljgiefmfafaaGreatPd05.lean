/- The program's tree: Unlink, Rmdir. -/
import Derived.Test.YtogljgiefmfafaaGreatPd04
import Derived.Lib.SliceRun
import Derived.Lib.LazyBuf
import Derived.Laws.BytesString
import Derived.Deep.MidRow
namespace Go.Proofs.YtogljgiefmfafaaGreat
open Go.RowKit Go.Maps
structure GoodP (t : PT) : Prop where
 ent : ∀ d x k v, t.n d = some x → x.l k = some v → v ≠ d ∧ 1 ≤ v ∧ v ≤ 4294967295 ∧ (t.n v).isSome = true
 links : LinksOk t
def unlinkE (x : PN) : Int := if (x.kind == 2) = true then 181 else 0
noncomputable def rmdirE (x : PN) : Int := if (!(x.kind == 2)) = true then 180 else if emptyB x.l = true then 0 else 182
section
variable {F : Nat → Prop} {P N : Nat} {y : Lay} {t : PT}
theorem t_unlink1 (Q L G : Nat) (x : PN) (w : World) (h : NodeM w Q L G N x) : Calls Tryz.prog 221 #[.pointer (some ⟨Q, 0, none⟩)] w fun e w' => e = .returned (.int .i64 (unlinkE x)) ∧ w = w' := by
 have k0 : w.cell? ⟨Q, 0, none⟩ = some (.int .u8 x.kind) := h.cell 0
 obtain ⟨d, hd⟩ : ∃ d, (x.kind == 2) = d := ⟨_, rfl⟩
 have HD := Lib.hid (t_isdir Q x.kind d hd w k0)
 have HA : Hid ((if d = true then (181 : Int) else 0) = unlinkE x) := by show _ = _; unfold unlinkE; rw [hd]
 clear hd h k0
 go_enter Tryz.func221, Tryz.ntmps221
 go_wp2_with (first | (go_at_call 93; refine HD.out.mono ?_; rintro e w' ⟨rfl, rfl⟩) | (go_at_call 89; refine (t_as d 181 _ HA.out _).mono ?_; rintro e w' ⟨rfl, rfl⟩))
 go_ret
 exact ⟨rfl, rfl⟩
theorem t_rmdir1 (Q L G : Nat) (x : PN) (w : World) (h : NodeM w Q L G N x) : Calls Tryz.prog 220 #[.pointer (some ⟨Q, 0, none⟩)] w fun e w' => e = .returned (.int .i64 (rmdirE x)) ∧ w = w' := by
 have k0 : w.cell? ⟨Q, 0, none⟩ = some (.int .u8 x.kind) := h.cell 0
 have k3 : w.cell? ⟨Q, 3, none⟩ = some (.map (some L)) := h.cell 3
 obtain ⟨n, hlen, hn⟩ := h.len
 obtain ⟨b, hb⟩ : ∃ b, decide (0 < n) = b := ⟨_, rfl⟩
 have hb2 : decide ((0 : Int) < (n : Int)) = b := by rw [← hb, decide_eq_decide]; omega
 rw [hb] at hn
 cases hd : (x.kind == 2) with
 | true =>
  have HD := Lib.hid (t_isdir Q x.kind true hd w k0)
  have HA : Hid ((if b = true then (182 : Int) else 0) = rmdirE x) := by show _ = _; unfold rmdirE; rw [hd, hn]; cases emptyB x.l <;> rfl
  clear hd h k0 hn
  go_enter Tryz.func220, Tryz.ntmps220
  go_wp2_with (first | (go_at_call 93; refine HD.out.mono ?_; rintro e w' ⟨rfl, rfl⟩) | (go_at_call 89; refine (t_as b 182 _ HA.out _).mono ?_; rintro e w' ⟨rfl, rfl⟩))
  go_ret
  exact ⟨rfl, rfl⟩
 | false =>
  have HD := Lib.hid (t_isdir Q x.kind false hd w k0)
  have HA : Hid (180 = rmdirE x) := by show _ = _; unfold rmdirE; rw [hd]; rfl
  clear hd h k0 hn
  go_enter Tryz.func220, Tryz.ntmps220
  go_wp2_with (go_at_call 93; refine HD.out.mono ?_; rintro e w' ⟨rfl, rfl⟩)
  go_ret
  exact ⟨pret_i64 HA.out, rfl⟩
theorem enters_unlink1 : Enters 221 := enters_of Tryz.func221 (by kernel_rfl) rfl
theorem enters_rmdir1 : Enters 220 := enters_of Tryz.func220 (by kernel_rfl) rfl
def dropT (t : PT) (dir : Int) (xd : PN) (s : ByteArray) (ino : Int) (xi : PN) : PT := freeP (leaveT t dir xd s ino xi) ino (outN xi)
def dropP (t : PT) (dir : Int) (s : ByteArray) (q : PN → Int) : (Int × Int) × PT :=
 if (lookP t dir s).2 ≠ 0 then ((0, (lookP t dir s).2), t) else match t.n dir, t.n (lookP t dir s).1 with
  | some xd, some xi => if q xi ≠ 0 then ((0, q xi), t) else (((lookP t dir s).1, 0), dropT t dir xd s (lookP t dir s).1 xi)
  | _, _ => ((0, 0), t)
theorem look_okP {dir : Int} {s : ByteArray} (hg : GoodP t) (h : (lookP t dir s).2 = 0) : ∃ xd xi, t.n dir = some xd ∧ xd.l s.data.toList = some (lookP t dir s).1 ∧ t.n (lookP t dir s).1 = some xi ∧ (lookP t dir s).1 ≠ dir ∧ 1 ≤ (lookP t dir s).1 ∧ (lookP t dir s).1 ≤ 4294967295 ∧ xd.kind = 2 := by
 unfold lookP at h ⊢
 by_cases he : firstE [namesE [s], thereE t [dir], dirsE t [dir]] ≠ 0
 · rw [if_pos he] at h; exact absurd h he
 · rw [if_neg he] at h ⊢
   have he' := Decidable.not_not.1 he
   obtain ⟨_, he'⟩ := firstE_cons he'
   obtain ⟨h2, he'⟩ := firstE_cons he'
   obtain ⟨h3, _⟩ := firstE_cons he'
   obtain ⟨xd, hx⟩ := Option.isSome_iff_exists.1 (there_one h2)
   rw [hx] at h ⊢
   simp only at h ⊢
   cases hl : xd.l s.data.toList with
   | none => rw [hl] at h; simp at h
   | some v =>
    obtain ⟨g1, g2, g3, g4⟩ := hg.ent dir xd _ v hx hl
    obtain ⟨xi, hi⟩ := Option.isSome_iff_exists.1 g4
    exact ⟨xd, xi, rfl, by simp [hl], by simpa using hi, by simpa using g1, by simpa using g2, by simpa using g3, dirs_zero h3 (by simp) hx⟩
set_option maxHeartbeats 4000000 in
theorem t_dropP (g : Nat) (eg : Enters g) (q : PN → Int) (hq : ∀ (Q L G N : Nat) (x : PN) (w : World), NodeM w Q L G N x → Calls Tryz.prog g #[.pointer (some ⟨Q, 0, none⟩)] w fun e w' => e = .returned (.int .i64 (q x)) ∧ w = w')
  (dir : Int) (s : ByteArray) (r1 r2 : Int) (t' : PT) (hr : dropP t dir s q = ((r1, r2), t')) (w : World) (h : TreeM w F P N y t) (hg : GoodP t) (hd : U32 dir) (hs : s.size ≤ maxLen) :
  Calls Tryz.prog 219 #[.pointer (some ⟨P, 0, none⟩), .int .u32 dir, .string s, .func (.func g) #[] #[]] w fun e w' => e = .returned (.tuple #[.int .u32 r1, .int .i64 r2]) ∧ Became w w' F P N t' := by
 obtain ⟨v, x, hl⟩ : ∃ v x, lookP t dir s = (v, x) := ⟨_, _, rfl⟩
 have HL := Lib.hid (t_look dir s v x hl w h hd hs)
 unfold Enters at eg
 have hr' := hr
 unfold dropP at hr'
 rw [hl] at hr'
 simp only at hr'
 by_cases hx : x = 0
 · subst hx
   rw [if_neg (by simp)] at hr'
   obtain ⟨xd, xi, h1, h2, h3, h4, h5, h6, h7⟩ := look_okP hg (dir := dir) (s := s) (by rw [hl])
   rw [hl] at h2 h3 h4 h5 h6
   simp only at h2 h3 h4 h5 h6
   rw [h1, h3] at hr'
   simp only at hr'
   by_cases hqx : q xi = 0
   · rw [if_neg (by rw [hqx]; simp)] at hr'
     have hP : Hid (r1 = v ∧ r2 = 0 ∧ t' = dropT t dir xd s v xi) := by
      injection hr' with a b
      injection a with a c
      exact ⟨a.symm, c.symm, b.symm⟩
     have HQ := Lib.hid (fun W (hW : Below w.heap.size w W) => hq _ _ _ _ xi W ((h.below hW).node v xi h3))
     have HLV := Lib.hid (fun W (hW : Below w.heap.size w W) => t_leave dir s v xd xi W (h.below hW) h1 h2 h3 h4 hs (hg.links v xi h3))
     have HF := Lib.hid (fun W (hW : TreeM W F P N y (leaveT t dir xd s v xi)) => t_freeP v (outN xi) W hW (by unfold leaveT; rw [PT.set_n, if_neg h4, PT.set_n, if_pos rfl]))
     have HT := Lib.hid h
     have H3 := Lib.hid h3
     have hqz : q xi = 0 := hqx
     clear hr hr' hl h h1 h2 h3 h4 hq hg
     rw [hqz] at HQ
     clear hqz hqx
     go_enter Tryz.func219, Tryz.ntmps219
     go_wp2_with (go_at_call 133; refine HL.out.mono ?_; rintro e w1 ⟨rfl, hB⟩; have c1 := (HT.out.below hB).c1; have hlk := (HT.out.below hB).look_some H3.out; have HQ1 := Lib.hid (HQ.out w1 hB); have HV1 := Lib.hid (HLV.out w1 hB); have HB := Lib.hid hB; clear hB)
     have hcq := HQ1.out
     go_wp2_with (first
      | (go_at_fn g; refine hcq.mono ?_; rintro e w2 ⟨rfl, rfl⟩; clear hcq)
      | (go_at_call 224; refine HV1.out.mono ?_; rintro e w3 ⟨rfl, hT3, hU3⟩; have H3 := Lib.hid hT3; have HU3 := Lib.hid hU3; clear hT3 hU3)
      | (go_at_call 225; refine (HF.out _ H3.out).mono ?_; rintro e w4 ⟨rfl, hT4, hU4⟩; have H4 := Lib.hid hT4; have HU4 := Lib.hid hU4; clear hT4 hU4))
     go_ret2
     obtain ⟨rfl, rfl, rfl⟩ := hP.out
     exact ⟨rfl, _, _, H4.out, (Turn.of_below F HB.out).trans (HU3.out.trans HU4.out)⟩
   · rw [if_pos hqx] at hr'
     have hP : Hid (r1 = 0 ∧ r2 = q xi ∧ t' = t) := by
      injection hr' with a b
      injection a with a c
      exact ⟨a.symm, c.symm, b.symm⟩
     have HQ := Lib.hid (fun W (hW : Below w.heap.size w W) => hq _ _ _ _ xi W ((h.below hW).node v xi h3))
     have HT := Lib.hid h
     have H3 := Lib.hid h3
     generalize q xi = z at *
     have hz : (z != 0) = true := by simpa using hqx
     clear hr hr' hl h h1 h2 h3 h4 hq hg hqx
     go_enter Tryz.func219, Tryz.ntmps219
     go_wp2_with (go_at_call 133; refine HL.out.mono ?_; rintro e w1 ⟨rfl, hB⟩; have c1 := (HT.out.below hB).c1; have hlk := (HT.out.below hB).look_some H3.out; have HQ1 := Lib.hid (HQ.out w1 hB); have HB := Lib.hid hB; clear hB)
     have hcq := HQ1.out
     go_wp2_with (go_at_fn g; refine hcq.mono ?_; rintro e w2 ⟨rfl, rfl⟩; clear hcq)
     go_ret2
     obtain ⟨rfl, rfl, rfl⟩ := hP.out
     exact ⟨rfl, _, _, HT.out.below HB.out, Turn.of_below F HB.out⟩
 · rw [if_pos hx] at hr'
   have hP : Hid (r1 = 0 ∧ r2 = x ∧ t' = t) := by
    injection hr' with a b
    injection a with a c
    exact ⟨a.symm, c.symm, b.symm⟩
   have HT := Lib.hid h
   have hx1 : (x != 0) = true := by simpa using hx
   have hx2 : (x == 0) = false := by simpa using hx
   clear hr hr' hl hx h hq hg
   go_enter Tryz.func219, Tryz.ntmps219
   go_wp2_with (go_at_call 133; refine HL.out.mono ?_; rintro e w1 ⟨rfl, hB⟩; have HB := Lib.hid hB; clear hB)
   go_ret2
   obtain ⟨rfl, rfl, rfl⟩ := hP.out
   exact ⟨rfl, _, _, HT.out.below HB.out, Turn.of_below F HB.out⟩
end
end Go.Proofs.YtogljgiefmfafaaGreat
namespace Go.Proofs.YtogljgiefmfafaaGreat
open Go.RowKit Go.Maps
section
variable {F : Nat → Prop} {P N : Nat} {y : Lay} {t : PT}
theorem t_unlinkP (dir : Int) (s : ByteArray) (r1 r2 : Int) (t' : PT) (hr : dropP t dir s unlinkE = ((r1, r2), t')) (w : World) (h : TreeM w F P N y t) (hg : GoodP t) (hd : U32 dir) (hs : s.size ≤ maxLen) :
  Calls Tryz.prog 174 #[.pointer (some ⟨P, 0, none⟩), .int .u32 dir, .string s] w fun e w' => e = .returned (.tuple #[.int .u32 r1, .int .i64 r2]) ∧ Became w w' F P N t' := by
 have HD := Lib.hid (t_dropP 221 enters_unlink1 unlinkE (fun Q L G N x w h => t_unlink1 Q L G x w h) dir s r1 r2 t' hr w h hg hd hs)
 clear hr h hg
 go_enter Tryz.func174, Tryz.ntmps174
 go_wp2_with (go_at_call 219; refine HD.out.mono ?_; rintro e w1 ⟨rfl, hB⟩; have HB := Lib.hid hB; clear hB)
 go_ret2
 exact ⟨rfl, HB.out⟩
theorem t_rmdirP (dir : Int) (s : ByteArray) (r1 r2 : Int) (t' : PT) (hr : dropP t dir s rmdirE = ((r1, r2), t')) (w : World) (h : TreeM w F P N y t) (hg : GoodP t) (hd : U32 dir) (hs : s.size ≤ maxLen) :
  Calls Tryz.prog 173 #[.pointer (some ⟨P, 0, none⟩), .int .u32 dir, .string s] w fun e w' => e = .returned (.tuple #[.int .u32 r1, .int .i64 r2]) ∧ Became w w' F P N t' := by
 have HD := Lib.hid (t_dropP 220 enters_rmdir1 rmdirE (fun Q L G N x w h => t_rmdir1 Q L G x w h) dir s r1 r2 t' hr w h hg hd hs)
 clear hr h hg
 go_enter Tryz.func173, Tryz.ntmps173
 go_wp2_with (go_at_call 219; refine HD.out.mono ?_; rintro e w1 ⟨rfl, hB⟩; have HB := Lib.hid hB; clear hB)
 go_ret2
 exact ⟨rfl, HB.out⟩
theorem asked1 {W : World} {v1 : Value} {e1 : Int} (q1 : Question W v1 e1) : Asked W [v1] [e1] := by
 refine Asked.of W _ _ rfl fun j e v he hv h0 => ?_
 match j with
 | 0 => simp at he hv; subst he; subst hv; exact q1
 | j + 1 => simp at he
theorem asked3 {W : World} {i : Int} {v1 v2 v3 : Value} {e3 : Int} (q1 : Question W v1 (thereE t [i])) (q2 : (t.n i).isSome = true → Question W v2 (fileE' t i)) (q3 : Question W v3 e3) : Asked W [v1, v2, v3] [thereE t [i], fileE' t i, e3] := by
 refine Asked.of W _ _ rfl fun j e v he hv h0 => ?_
 match j with
 | 0 => simp at he hv; subst he; subst hv; exact q1
 | 1 => simp at he hv; subst he; subst hv; exact q2 (there_one (h0 0 _ (by omega) rfl))
 | 2 => simp at he hv; subst he; subst hv; exact q3
 | j + 3 => simp at he
theorem asked4 {W : World} {i : Int} {v1 v2 v3 v4 : Value} {e3 e4 : Int} (q1 : Question W v1 (thereE t [i])) (q2 : (t.n i).isSome = true → Question W v2 (fileE' t i)) (q3 : Question W v3 e3) (q4 : Question W v4 e4) : Asked W [v1, v2, v3, v4] [thereE t [i], fileE' t i, e3, e4] := by
 refine Asked.of W _ _ rfl fun j e v he hv h0 => ?_
 match j with
 | 0 => simp at he hv; subst he; subst hv; exact q1
 | 1 => simp at he hv; subst he; subst hv; exact q2 (there_one (h0 0 _ (by omega) rfl))
 | 2 => simp at he hv; subst he; subst hv; exact q3
 | 3 => simp at he hv; subst he; subst hv; exact q4
 | j + 4 => simp at he
theorem file_zero {i : Int} {x : PN} (hx : t.n i = some x) (h : fileE' t i = 0) : x.kind ≠ 2 := by
 unfold fileE' fileQE at h
 rw [hx] at h
 intro hk
 simp [hk] at h
theorem below_a1 (w : World) (a : Obj) : Below w.heap.size w (w.alloc a) := (Below.refl _ _).alloc (Nat.le_refl _) _
theorem below_a2 (w : World) (a b : Obj) : Below w.heap.size w ((w.alloc a).alloc b) := (below_a1 w a).alloc (by simp) _
theorem QPost.get {w w' : World} {r : Int} {e : Ending} (h : QPost w r e w') : ∃ g lb, e = .returned (.func (.func g) #[] lb) ∧ Question w' (.func (.func g) #[] lb) r ∧ Below w.heap.size w w' := by
 obtain ⟨v, rfl, hq, hb⟩ := h
 obtain ⟨g, lb, rfl, hq2⟩ := id hq
 exact ⟨g, lb, rfl, hq, hb⟩
theorem SliceAt.built' (w : World) (xs : List Value) (T : TypeId) (B : Nat) (hB : w.heap.size = B) : SliceAt (w.alloc (.cells xs.toArray T)) (some ⟨B, 0, none⟩) xs := by subst hB; exact SliceAt.built w xs T
theorem there_later {w : World} (h : TreeM w F P N y t) (i : Int) (hi : U32 i) : ∀ W A c, Below w.heap.size w W → SliceAt W A [.int .u32 i] → Calls Tryz.prog 48 #[.pointer (some ⟨P, 0, none⟩), .slice A 1 c] W (QPost W (thereE t [i])) :=
 fun W A c hb hA => t_there [i] A 1 c _ rfl W (h.below hb) rfl (by simpa using hi) (by simp [maxLen]) hA
theorem file_later {w : World} (h : TreeM w F P N y t) (i : Int) : ∀ W, Below w.heap.size w W → Calls Tryz.prog 49 #[.pointer (some ⟨P, 0, none⟩), .int .u32 i] W (QIf ((t.n i).isSome = true) W (fileE' t i)) :=
 fun W hb => t_file i _ rfl W (h.below hb)
theorem check_built (W : World) (P : Nat) (vs : List Value) (n : Nat) (es : List Int) (r : Int) (hr : firstE es = r) (T : TypeId) (hn : vs.length = n) (hm : n ≤ 100) (hq : Asked W vs es) (hne : es ≠ []) :
  Calls Tryz.prog 47 #[.pointer (some ⟨P, 0, none⟩), .slice (some ⟨W.heap.size, 0, none⟩) n n] (W.alloc (.cells vs.toArray T)) fun e w' => e = .returned (.int .i64 r) ∧ Below (W.alloc (.cells vs.toArray T)).heap.size (W.alloc (.cells vs.toArray T)) w' :=
 t_checkL ⟨P, 0, none⟩ _ vs n n es r hr _ hn (by unfold maxLen; omega) (SliceAt.built W vs T) (hq.later (below_a1 W _)) hne
def statP (i : Int) (x : PN) : Value := .agg #[.int .u32 i, .int .u8 x.kind, .int .i64 x.links, .int .u32 x.size]
def stat0 : Value := .agg #[.int .u32 0, .int .u8 0, .int .i64 0, .int .u32 0]
def statR (t : PT) (i : Int) : Value × Int := match t.n i with | some x => (statP i x, 0) | none => (stat0, 3)
def put4 (w : World) (B : Nat) (a b c d : Value) : World := (((w.setCell ⟨B, 0, none⟩ a).setCell ⟨B, 1, none⟩ b).setCell ⟨B, 2, none⟩ c).setCell ⟨B, 3, none⟩ d
theorem put4_cells {w : World} {B : Nat} {a0 b0 c0 d0 : Value} {T : TypeId} (h : w.heap[B]? = some (.cells #[a0, b0, c0, d0] T (0, 0))) (a b c d : Value) :
  (put4 w B a b c d).cell? ⟨B, 0, none⟩ = some a ∧ (put4 w B a b c d).cell? ⟨B, 1, none⟩ = some b ∧ (put4 w B a b c d).cell? ⟨B, 2, none⟩ = some c ∧ (put4 w B a b c d).cell? ⟨B, 3, none⟩ = some d := by
 have := pheap_set _ B 3 d _ _ (pheap_set _ B 2 c _ _ (pheap_set _ B 1 b _ _ (pheap_set w B 0 a _ _ h)))
 unfold put4
 refine ⟨?_, ?_, ?_, ?_⟩ <;> simp [World.cell?, this]
theorem put4_below {w w' : World} {B : Nat} (h : Below w.heap.size w w') (hB : w.heap.size ≤ B) (a b c d : Value) : Below w.heap.size w (put4 w' B a b c d) :=
 (((h.setCell (p := ⟨B, 0, none⟩) hB a).setCell (p := ⟨B, 1, none⟩) hB b).setCell (p := ⟨B, 2, none⟩) hB c).setCell (p := ⟨B, 3, none⟩) hB d
set_option maxRecDepth 100000 in
set_option maxHeartbeats 1000000 in
theorem t_statP (i : Int) (w : World) (h : TreeM w F P N y t) (hi : U32 i) :
  Calls Tryz.prog 19 #[.pointer (some ⟨P, 0, none⟩), .int .u32 i] w fun e w' => e = .returned (.tuple #[(statR t i).1, .int .i64 (statR t i).2]) ∧ Below w.heap.size w w' := by
 have HTh := Lib.hid (there_later h i hi)
 have HT := Lib.hid h
 cases hx : t.n i with
 | none =>
  have HE : Hid (firstE [thereE t [i]] = 3) := by show _ = _; simp [firstE, thereE, hx]
  have HS : Hid (statR t i = (stat0, 3)) := by show _ = _; unfold statR; rw [hx]
  clear h hi hx
  go_enter Tryz.func19, Tryz.ntmps19
  have hS := heap_alloc_new w (.cells #[.int .u32 0, .int .u8 0, .int .i64 0, .int .u32 0] 39)
  have HS0 := Lib.hid hS
  clear hS
  go_wp2_with (first
   | (go_at_call 48; (with_reducible refine (HTh.out _ _ _ (below_a2 w _ _) (SliceAt.built' _ [.int .u32 i] _ (w.heap.size + 1) (by simp))).mono ?_); rintro e w1 hq; obtain ⟨g, lb, rfl, hq1, hb1⟩ := hq.get; have HQ := Lib.hid hq1; have HB1 := Lib.hid hb1; clear hq hq1 hb1)
   | (go_at_call 47; (with_reducible refine (check_built w1 P [.func (.func g) #[] lb] 1 [thereE t [i]] 3 HE.out _ rfl (by omega) (asked1 HQ.out) (by simp)).mono ?_); rintro e w2 ⟨rfl, hb2⟩
      have hb : Below (w.alloc (.cells #[.int .u32 0, .int .u8 0, .int .i64 0, .int .u32 0] 39)).heap.size (w.alloc (.cells #[.int .u32 0, .int .u8 0, .int .i64 0, .int .u32 0] 39)) w2 := ptrans (below_a1 _ _) (ptrans HB1.out (ptrans (below_a1 _ _) hb2))
      have hbx : w2.heap[w.heap.size]? = some (.cells #[.int .u32 0, .int .u8 0, .int .i64 0, .int .u32 0] 39 (0, 0)) := (hb.block _ (by simp)).trans HS0.out
      have k0 : w2.cell? ⟨w.heap.size, 0, none⟩ = some (.int .u32 0) := (by simp [World.cell?, hbx])
      have k1 : w2.cell? ⟨w.heap.size, 1, none⟩ = some (.int .u8 0) := (by simp [World.cell?, hbx])
      have k2 : w2.cell? ⟨w.heap.size, 2, none⟩ = some (.int .i64 0) := (by simp [World.cell?, hbx])
      have k3 : w2.cell? ⟨w.heap.size, 3, none⟩ = some (.int .u32 0) := (by simp [World.cell?, hbx])
      have f0 : w2.frozen? ⟨w.heap.size, 0, none⟩ = false := (by simp [World.frozen?, hbx])
      have f1 : w2.frozen? ⟨w.heap.size, 1, none⟩ = false := (by simp [World.frozen?, hbx])
      have f2 : w2.frozen? ⟨w.heap.size, 2, none⟩ = false := (by simp [World.frozen?, hbx])
      have f3 : w2.frozen? ⟨w.heap.size, 3, none⟩ = false := (by simp [World.frozen?, hbx])
      have HB := Lib.hid (ptrans (below_a1 w _) hb)
      have HBX := Lib.hid hbx
      clear hb hbx hb2 HB1 HQ))
  obtain ⟨kk0, kk1, kk2, kk3⟩ := put4_cells HBX.out (.int .u32 0) (.int .u8 0) (.int .i64 0) (.int .u32 0)
  unfold put4 at kk0 kk1 kk2 kk3
  rw [HS.out]
  exact bodyPost_ret (v := .tuple #[stat0, .int .i64 3]) (by simp [results, Tryz.results19, go_sem, stat0, kk0, kk1, kk2, kk3]) rfl ⟨rfl, put4_below HB.out (Nat.le_refl _) _ _ _ _⟩
 | some x =>
  have HE : Hid (firstE [thereE t [i]] = 0) := by show _ = _; simp [firstE, thereE, hx]
  have HS : Hid (statR t i = (statP i x, 0)) := by show _ = _; unfold statR; rw [hx]
  have HX := Lib.hid hx
  clear h hi hx
  go_enter Tryz.func19, Tryz.ntmps19
  have hS := heap_alloc_new w (.cells #[.int .u32 0, .int .u8 0, .int .i64 0, .int .u32 0] 39)
  have HS0 := Lib.hid hS
  clear hS
  go_wp2_with (first
   | (go_at_call 48; (with_reducible refine (HTh.out _ _ _ (below_a2 w _ _) (SliceAt.built' _ [.int .u32 i] _ (w.heap.size + 1) (by simp))).mono ?_); rintro e w1 hq; obtain ⟨g, lb, rfl, hq1, hb1⟩ := hq.get; have HQ := Lib.hid hq1; have HB1 := Lib.hid hb1; clear hq hq1 hb1)
   | (go_at_call 47; (with_reducible refine (check_built w1 P [.func (.func g) #[] lb] 1 [thereE t [i]] 0 HE.out _ rfl (by omega) (asked1 HQ.out) (by simp)).mono ?_); rintro e w2 ⟨rfl, hb2⟩
      have hb : Below (w.alloc (.cells #[.int .u32 0, .int .u8 0, .int .i64 0, .int .u32 0] 39)).heap.size (w.alloc (.cells #[.int .u32 0, .int .u8 0, .int .i64 0, .int .u32 0] 39)) w2 := ptrans (below_a1 _ _) (ptrans HB1.out (ptrans (below_a1 _ _) hb2))
      have hbx : w2.heap[w.heap.size]? = some (.cells #[.int .u32 0, .int .u8 0, .int .i64 0, .int .u32 0] 39 (0, 0)) := (hb.block _ (by simp)).trans HS0.out
      have k0 : w2.cell? ⟨w.heap.size, 0, none⟩ = some (.int .u32 0) := (by simp [World.cell?, hbx])
      have k1 : w2.cell? ⟨w.heap.size, 1, none⟩ = some (.int .u8 0) := (by simp [World.cell?, hbx])
      have k2 : w2.cell? ⟨w.heap.size, 2, none⟩ = some (.int .i64 0) := (by simp [World.cell?, hbx])
      have k3 : w2.cell? ⟨w.heap.size, 3, none⟩ = some (.int .u32 0) := (by simp [World.cell?, hbx])
      have f0 : w2.frozen? ⟨w.heap.size, 0, none⟩ = false := (by simp [World.frozen?, hbx])
      have f1 : w2.frozen? ⟨w.heap.size, 1, none⟩ = false := (by simp [World.frozen?, hbx])
      have f2 : w2.frozen? ⟨w.heap.size, 2, none⟩ = false := (by simp [World.frozen?, hbx])
      have f3 : w2.frozen? ⟨w.heap.size, 3, none⟩ = false := (by simp [World.frozen?, hbx])
      have hT2 := HT.out.below (ptrans (below_a1 w _) hb)
      have c1 := hT2.c1
      have hlk := hT2.look_some HX.out
      have n0 : w2.cell? ⟨y.f i, 0, none⟩ = some (.int .u8 x.kind) := (hT2.node i x HX.out).cell 0
      have n1 : w2.cell? ⟨y.f i, 1, none⟩ = some (.int .i64 x.links) := (hT2.node i x HX.out).cell 1
      have n2 : w2.cell? ⟨y.f i, 2, none⟩ = some (.int .u32 x.size) := (hT2.node i x HX.out).cell 2
      have hne : y.f i ≠ w.heap.size := (by have := (HT.out.node i x HX.out).ltQ; omega)
      have HB := Lib.hid (ptrans (below_a1 w _) hb)
      have HBX := Lib.hid hbx
      clear hb hbx hb2 HB1 HQ hT2))
  have hne2 : w.heap.size ≠ y.f i := Ne.symm hne
  go_region_held3 (fun w' => w'.cell? ⟨y.f i, 0, none⟩ = some (.int .u8 x.kind) ∧ w'.cell? ⟨y.f i, 1, none⟩ = some (.int .i64 x.links) ∧ w'.cell? ⟨y.f i, 2, none⟩ = some (.int .u32 x.size)) (first | exact ⟨n0, n1, n2⟩ | go_keep) (fail)
  obtain ⟨kk0, kk1, kk2, kk3⟩ := put4_cells HBX.out (.int .u32 i) (.int .u8 x.kind) (.int .i64 x.links) (.int .u32 x.size)
  have HBD := Lib.hid (pbelow_drew (put4_below HB.out (Nat.le_refl _) (.int .u32 i) (.int .u8 x.kind) (.int .i64 x.links) (.int .u32 x.size)))
  unfold put4 at kk0 kk1 kk2 kk3
  go_wp2
  rw [HS.out]
  exact bodyPost_ret (v := .tuple #[statP i x, .int .i64 0]) (by simp [results, Tryz.results19, go_sem, statP, kk0, kk1, kk2, kk3]) rfl ⟨rfl, HBD.out⟩
end
end Go.Proofs.YtogljgiefmfafaaGreat

namespace Go.Proofs.YtogljgiefmfafaaGreat
open Go.RowKit Go.Maps
def z64 : List UInt8 := List.replicate 64 0
def byteV (c : UInt8) : Value := .int .u8 (c.toNat : Int)
def z66 : Array Value := Array.replicate 64 (.int .u8 0)
theorem zero66 (w : World) : (zeroValue 92).run Tryz.prog w = .ok (.agg z66) w := by kernel_rfl
theorem z66_eq : Value.agg z66 = pageV z64 := rfl
theorem info66 : (Tryz.prog.info? 92).map (·.size) = some 64 := by kernel_rfl
theorem wpList_alloc_z {P : Program} {ops : Array Oper} {rest : List Oper} {d : Option Tmp} {ty : TypeId} {pos : String} {after : Array Edge} {a : Act} {w : World} {Q : Exit → Act → World → Prop} (t : TypeId) (z : Array Value) (hz : ∀ w, (zeroValue t).run P w = .ok (.agg z) w)
  (h : ∀ w', w' = w.alloc (.cells z t) → wpList P ops Q rest (a.put d (.pointer (some ⟨w.heap.size, 0, none⟩))) w') : wpList P ops Q (⟨d, .alloc t, ty, pos, after, none⟩ :: rest) a w := by
 refine wpList_plain rfl fun K hK => ?_
 unfold Oper.wp
 simp [execOp, Instr.alloc, hz, Result.andThen]
 exact hK _ _ (h _ rfl)
theorem wpList_store_run {P : Program} {ops : Array Oper} {rest : List Oper} {d : Option Tmp} {ty : TypeId} {pos : String} {after : Array Edge} {a : Act} {w : World} {Q : Exit → Act → World → Prop} (t : TypeId) (x y : Tmp) (w' : World) (px v : Value) (hx : a.eval (.tmp x) = px) (hy : a.eval (.tmp y) = v)
  (hrun : (Instr.storeAt t px v).run P w = .ok () w') (h : wpList P ops Q rest (a.put d undef) w') : wpList P ops Q (⟨d, .store t (.tmp x) (.tmp y), ty, pos, after, none⟩ :: rest) a w := by
 refine wpList_plain rfl fun K hK => ?_
 unfold Oper.wp
 simp only [execOp, hx, hy]
 rw [Sem.run_bind]
 rw [hrun]
 exact hK _ _ h
structure PageAt (w : World) (B : Nat) (b : List UInt8) : Prop where
 range : w.rangeAt B 0 (b.map byteV)
 there : w.there B 0 64
theorem byteV_one (b : List UInt8) : ∀ v ∈ b.map byteV, v.oneCell' = true := fun v hv => by obtain ⟨c, _, rfl⟩ := List.mem_map.1 hv; rfl
theorem there_new (w : World) (T : TypeId) : (w.alloc (.cells z66 T)).there w.heap.size 0 64 := fun j hj => by
 have h := heap_alloc_new w (.cells z66 T)
 refine ⟨?_, ?_⟩
 · have : z66[j]? = some (.int .u8 0) := by unfold z66; rw [Array.getElem?_replicate, if_pos hj]
   simp only [World.cell?, h]; simp [this]
 · simp only [World.frozen?, h]; simp
theorem grown_setCells (B : Nat) : ∀ (vs : List Value) (o : Nat) (w : World), w.grownBy (w.setCells B o vs) (some B)
 | [], _, w => grown_refl w _
 | v :: r, o, w => pgrown_trans (pgrown_set w B o v) (grown_setCells B r (o + 1) _)
theorem page_store {w : World} {B : Nat} {b : List UInt8} (hb : b.length = 64) (ht : w.there B 0 64) : ∃ w', (Instr.storeAt 92 (.pointer (some ⟨B, 0, none⟩)) (pageV b)).run Tryz.prog w = .ok () w' ∧ PageAt w' B b ∧ w.grownBy w' (some B) := by
 have hl : (b.map byteV).toArray.size = 64 := by simp [hb]
 have hrun := run_storeAt_mid (P := Tryz.prog) w B 0 92 (b.map byteV).toArray (by rw [hl]; exact ht) (by rw [hl]; exact info66) (all_oneCell_toArray (byteV_one b))
 rw [List.toList_toArray] at hrun
 refine ⟨_, hrun, ⟨World.rangeAt_setCells_same w B 0 _ (by rw [List.length_map, hb]; exact ht), World.there_setCells ht B 0 _⟩, ?_⟩
 exact grown_setCells B _ 0 w
theorem PageAt.below {w w' : World} {B : Nat} {b : List UInt8} (h : PageAt w B b) (hb : w'.heap[B]? = w.heap[B]?) : PageAt w' B b :=
 ⟨fun j v hv => (World.cell?_of_block hb).trans (h.range j v hv), fun j hj => by
  obtain ⟨h1, h2⟩ := h.there j hj
  exact ⟨by rw [World.cell?_of_block (a := ⟨B, 0 + j, none⟩) hb]; exact h1, (World.frozen?_of_block (a := ⟨B, 0 + j, none⟩) hb).trans h2⟩⟩
theorem push_all (l : List UInt8) : ∀ s : ByteArray, (l.map fun c : UInt8 => (c.toNat : Int)).foldl (fun r n => r.push (UInt8.ofNat n.toNat)) s = ⟨(s.data.toList ++ l).toArray⟩ := by
 induction l with
 | nil => intro s; simp
 | cons c l ih =>
  intro s
  simp only [List.map_cons, List.foldl_cons, ih]
  congr 1
  simp [ByteArray.push]
theorem PageAt.text {w : World} {B : Nat} {b : List UInt8} (h : PageAt w B b) (n c : Nat) : 
  (convert 93 9 (.slice (some ⟨B, 0, none⟩) (b.take n).length c)).run Tryz.prog w = .ok (.string ⟨(b.take n).toArray⟩) w := by
 rw [run_convert_bytes_string w _ _ _ _ _ _ Tryz.underlying93 Tryz.underlying5 Tryz.underlying9]
 have hl : (loadCells ⟨B, 0, none⟩ (b.take n).length).run Tryz.prog w = .ok (((b.take n).map fun c : UInt8 => (c.toNat : Int)).map (Value.int .u8)).toArray w := by
  have := run_loadCells_list (P := Tryz.prog) w ⟨B, 0, none⟩ ((b.take n).map byteV) (fun j v hv => by
   rw [Addr.add_mid]
   refine h.range j v ?_
   rw [List.map_take, List.getElem?_take] at hv
   split at hv
   · exact hv
   · cases hv)
  rw [List.length_map] at this
  rw [List.map_map]
  exact this
 rw [run_bytesToString w _ _ _ _ hl, push_all]
 rfl
theorem PageAt.text' {w : World} {B : Nat} {b : List UInt8} (h : PageAt w B b) (n c : Nat) (hn : n ≤ b.length) :
  (convert 93 9 (.slice (some ⟨B, 0, none⟩) n c)).run Tryz.prog w = .ok (.string ⟨(b.take n).toArray⟩) w := by
 have := h.text n c
 rwa [List.length_take, Nat.min_eq_left hn] at this
def readL (x : PN) (p : Int) : List UInt8 := ((x.pages p).getD z64).take (max 0 (min 64 (x.size - p * 64))).toNat
def readR (t : PT) (i p : Int) : ByteArray × Int :=
 if firstE [thereE t [i], fileE' t i, pagedE p] = 0 then (match t.n i with | some x => (⟨(readL x p).toArray⟩, 0) | none => (ByteArray.empty, 0)) else (ByteArray.empty, firstE [thereE t [i], fileE' t i, pagedE p])
structure PagesOk (x : PN) : Prop where
 len : ∀ p b, x.pages p = some b → b.length = 64 ∧ 0 ≤ p ∧ p < 36
 size : 0 ≤ x.size ∧ x.size ≤ 2304
section
variable {F : Nat → Prop} {P N : Nat} {y : Lay} {t : PT}
theorem NodeM.page {w : World} {Q L G : Nat} {x : PN} (h : NodeM w Q L G N x) {p : Int} (hp : -9223372036854775808 ≤ p ∧ p ≤ 9223372036854775807) :
  (Instr.lookup 87 (.map (some G)) (.int .i64 p) false).run Tryz.prog w = .ok (pageV ((x.pages p).getD z64)) w := by
 have := h.pages.look law64 Tryz.underlying87 (zero66 w) (pkey64 hp)
 rw [this]
 cases hx : x.pages p with
 | none => simp [pagesM, hx, z66_eq]
 | some v => simp [pagesM, hx]
set_option maxRecDepth 100000 in
set_option maxHeartbeats 1000000 in
theorem t_readP (i p : Int) (w : World) (h : TreeM w F P N y t) (hi : U32 i) (hok : ∀ x, t.n i = some x → PagesOk x) :
  Calls Tryz.prog 20 #[.pointer (some ⟨P, 0, none⟩), .int .u32 i, .int .i64 p] w fun e w' => e = .returned (.tuple #[.string (readR t i p).1, .int .i64 (readR t i p).2]) ∧ Below w.heap.size w w' := by
 have HTh := Lib.hid (there_later h i hi)
 have HFl := Lib.hid (file_later h i)
 have HT := Lib.hid h
 obtain ⟨r, hr⟩ : ∃ r, firstE [thereE t [i], fileE' t i, pagedE p] = r := ⟨_, rfl⟩
 by_cases hz : r = 0
 · subst hz
   have hz := hr
   obtain ⟨z1, hz⟩ := firstE_cons hz
   obtain ⟨z2, hz⟩ := firstE_cons hz
   obtain ⟨z3, _⟩ := firstE_cons hz
   obtain ⟨x, hx⟩ := Option.isSome_iff_exists.1 (there_one z1)
   have hp1 : 0 ≤ p ∧ p < 36 := by
    unfold pagedE at z3
    by_cases a : p < 0 ∨ 36 ≤ p
    · rw [if_pos a] at z3; cases z3
    · omega
   obtain ⟨p1, p2⟩ := hp1
   have hk := hok x hx
   have s1 := hk.size.1
   have s2 := hk.size.2
   have HS : Hid (readR t i p = (⟨(readL x p).toArray⟩, 0)) := by show _ = _; unfold readR; rw [if_pos hr, hx]
   have HE := Lib.hid hr
   have HX := Lib.hid hx
   have HLen : Hid (((x.pages p).getD z64).length = 64) := by
    show _ = _
    cases hb : x.pages p with
    | none => rfl
    | some b => exact (hk.len p b hb).1
   clear h hi hok hr z1 z2 z3 hx hk
   by_cases hq : 64 ≤ x.size - p * 64
   · have hq1 : 0 ≤ x.size - p * 64 := by omega
     have HRL : Hid (readL x p = ((x.pages p).getD z64).take 64) := by show _ = _; unfold readL; congr 1; omega
     go_enter Tryz.func20, Tryz.ntmps20
     go_wp2_with (first
      | (go_at_call 48; (with_reducible refine (HTh.out _ _ _ (below_a1 w _) (SliceAt.built' _ [.int .u32 i] _ (w.heap.size) rfl)).mono ?_); rintro e w1 hq; obtain ⟨g1, l1, rfl, hq1, hb1⟩ := hq.get; have HQ1 := Lib.hid hq1; have HB1 := Lib.hid (ptrans (below_a1 w _) hb1); clear hq hq1 hb1)
      | (go_at_call 49; (with_reducible refine (HFl.out _ HB1.out).mono ?_); rintro e w2 ⟨g2, l2, rfl, hq2, hb2⟩; have HQ2 := Lib.hid hq2; have HB2 := Lib.hid (ptrans HB1.out hb2); have HQ1' := Lib.hid (HQ1.out.later hb2); clear hq2 hb2)
      | (go_at_call 50; (with_reducible refine (t_paged p _ rfl w2).mono ?_); rintro e w3 hq; obtain ⟨g3, l3, rfl, hq3, hb3⟩ := hq.get; have HQ3 := Lib.hid hq3; have HB3 := Lib.hid (ptrans HB2.out hb3); have HQ1'' := Lib.hid (HQ1'.out.later hb3); have HQ2' := Lib.hid (fun h => (HQ2.out h).later hb3); clear hq hq3 hb3)
      | (go_at_call 47; (with_reducible refine (check_built w3 P [.func (.func g1) #[] l1, .func (.func g2) #[] l2, .func (.func g3) #[] l3] 3 [thereE t [i], fileE' t i, pagedE p] 0 HE.out _ rfl (by omega) (asked3 HQ1''.out HQ2'.out HQ3.out) (by simp)).mono ?_); rintro e w4 ⟨rfl, hb4⟩
         have hb : Below w.heap.size w w4 := ptrans (ptrans HB3.out (below_a1 _ _)) hb4
         have hT := HT.out.below hb
         have c1 := hT.c1
         have hlk := hT.look_some HX.out
         have n2 : w4.cell? ⟨y.f i, 2, none⟩ = some (.int .u32 x.size) := (hT.node i x HX.out).cell 2
         have n4 : w4.cell? ⟨y.f i, 4, none⟩ = some (.map (some (y.G i))) := (hT.node i x HX.out).cell 4
         have hpg := (hT.node i x HX.out).page (p := p) ⟨by omega, by omega⟩
         have HB := Lib.hid hb
         have hfl : y.f i < w4.heap.size := (hT.node i x HX.out).ltQ
         clear hb hb4 hT HQ1 HQ2 HQ3 HQ1' HQ1'' HQ2' HB1 HB2 HB3)
      | ((with_reducible refine wpList_alloc_z 92 z66 zero66 ?_); intro w5 hw5
         have ht5 : w5.there w4.heap.size 0 64 := (by rw [hw5]; exact there_new w4 _)
         have hB5 : Below w4.heap.size w4 w5 := (by rw [hw5]; exact below_a1 _ _)
         obtain ⟨w6, hst, hpa, hg6⟩ := page_store HLen.out ht5
         have m2 : w6.cell? ⟨y.f i, 2, none⟩ = some (.int .u32 x.size) := hg6.cell ((hB5.cell (p := ⟨y.f i, 2, none⟩) hfl).trans n2) (fun e => (by injection e with e; simp at e; omega))
         have hcv := hpa.text' 64 64 (by rw [HLen.out]; omega)
         have HB6 := Lib.hid (below_grown (ptrans HB.out hB5) hg6 HB.out.size)
         clear hw5 ht5 hB5 hpa hg6)
      | (refine wpList_store_run 92 10 37 w6 _ _ rfl rfl hst ?_; clear hst))
     go_ret2
     exact ⟨by rw [HS.out, HRL.out]; rfl, HB6.out⟩
   · by_cases hq2 : 0 < x.size - p * 64
     · obtain ⟨q, hqe⟩ : ∃ q : Nat, x.size - p * 64 = (q : Int) := ⟨(x.size - p * 64).toNat, by omega⟩
       have HRL : Hid (readL x p = ((x.pages p).getD z64).take q) := by show _ = _; unfold readL; congr 1; omega
       have hq3 : (0 : Int) < (q : Int) := by omega
       have hq4 : (q : Int) < 64 := by omega
       have hq5 : (q : Int) ≤ 64 := by omega
       have hq6 : q ≤ 64 := by omega
       clear hq hq2
       go_enter Tryz.func20, Tryz.ntmps20
       go_wp2_with (first
        | (go_at_call 48; (with_reducible refine (HTh.out _ _ _ (below_a1 w _) (SliceAt.built' _ [.int .u32 i] _ (w.heap.size) rfl)).mono ?_); rintro e w1 hq; obtain ⟨g1, l1, rfl, hq1, hb1⟩ := hq.get; have HQ1 := Lib.hid hq1; have HB1 := Lib.hid (ptrans (below_a1 w _) hb1); clear hq hq1 hb1)
        | (go_at_call 49; (with_reducible refine (HFl.out _ HB1.out).mono ?_); rintro e w2 ⟨g2, l2, rfl, hq2, hb2⟩; have HQ2 := Lib.hid hq2; have HB2 := Lib.hid (ptrans HB1.out hb2); have HQ1' := Lib.hid (HQ1.out.later hb2); clear hq2 hb2)
        | (go_at_call 50; (with_reducible refine (t_paged p _ rfl w2).mono ?_); rintro e w3 hq; obtain ⟨g3, l3, rfl, hq3, hb3⟩ := hq.get; have HQ3 := Lib.hid hq3; have HB3 := Lib.hid (ptrans HB2.out hb3); have HQ1'' := Lib.hid (HQ1'.out.later hb3); have HQ2' := Lib.hid (fun h => (HQ2.out h).later hb3); clear hq hq3 hb3)
        | (go_at_call 47; (with_reducible refine (check_built w3 P [.func (.func g1) #[] l1, .func (.func g2) #[] l2, .func (.func g3) #[] l3] 3 [thereE t [i], fileE' t i, pagedE p] 0 HE.out _ rfl (by omega) (asked3 HQ1''.out HQ2'.out HQ3.out) (by simp)).mono ?_); rintro e w4 ⟨rfl, hb4⟩
           have hb : Below w.heap.size w w4 := ptrans (ptrans HB3.out (below_a1 _ _)) hb4
           have hT := HT.out.below hb
           have c1 := hT.c1
           have hlk := hT.look_some HX.out
           have n2 : w4.cell? ⟨y.f i, 2, none⟩ = some (.int .u32 x.size) := (hT.node i x HX.out).cell 2
           have n4 : w4.cell? ⟨y.f i, 4, none⟩ = some (.map (some (y.G i))) := (hT.node i x HX.out).cell 4
           have hpg := (hT.node i x HX.out).page (p := p) ⟨by omega, by omega⟩
           have HB := Lib.hid hb
           have hfl : y.f i < w4.heap.size := (hT.node i x HX.out).ltQ
           clear hb hb4 hT HQ1 HQ2 HQ3 HQ1' HQ1'' HQ2' HB1 HB2 HB3)
        | ((with_reducible refine wpList_alloc_z 92 z66 zero66 ?_); intro w5 hw5
           have ht5 : w5.there w4.heap.size 0 64 := (by rw [hw5]; exact there_new w4 _)
           have hB5 : Below w4.heap.size w4 w5 := (by rw [hw5]; exact below_a1 _ _)
           obtain ⟨w6, hst, hpa, hg6⟩ := page_store HLen.out ht5
           have m2 : w6.cell? ⟨y.f i, 2, none⟩ = some (.int .u32 x.size) := hg6.cell ((hB5.cell (p := ⟨y.f i, 2, none⟩) hfl).trans n2) (fun e => (by injection e with e; simp at e; omega))
           have hcv := hpa.text' q 64 (by rw [HLen.out]; omega)
           have HB6 := Lib.hid (below_grown (ptrans HB.out hB5) hg6 HB.out.size)
           clear hw5 ht5 hB5 hpa hg6)
        | (refine wpList_store_run 92 10 37 w6 _ _ rfl rfl hst ?_; clear hst))
       go_ret2
       exact ⟨by rw [HS.out, HRL.out]; rfl, HB6.out⟩
     · have hq3 : x.size - p * 64 ≤ 0 := by omega
       have hq4 : x.size - p * 64 ≤ 64 := by omega
       have HRL : Hid (readL x p = ((x.pages p).getD z64).take 0) := by show _ = _; unfold readL; congr 1; omega
       go_enter Tryz.func20, Tryz.ntmps20
       go_wp2_with (first
        | (go_at_call 48; (with_reducible refine (HTh.out _ _ _ (below_a1 w _) (SliceAt.built' _ [.int .u32 i] _ (w.heap.size) rfl)).mono ?_); rintro e w1 hq; obtain ⟨g1, l1, rfl, hq1, hb1⟩ := hq.get; have HQ1 := Lib.hid hq1; have HB1 := Lib.hid (ptrans (below_a1 w _) hb1); clear hq hq1 hb1)
        | (go_at_call 49; (with_reducible refine (HFl.out _ HB1.out).mono ?_); rintro e w2 ⟨g2, l2, rfl, hq2, hb2⟩; have HQ2 := Lib.hid hq2; have HB2 := Lib.hid (ptrans HB1.out hb2); have HQ1' := Lib.hid (HQ1.out.later hb2); clear hq2 hb2)
        | (go_at_call 50; (with_reducible refine (t_paged p _ rfl w2).mono ?_); rintro e w3 hq; obtain ⟨g3, l3, rfl, hq3, hb3⟩ := hq.get; have HQ3 := Lib.hid hq3; have HB3 := Lib.hid (ptrans HB2.out hb3); have HQ1'' := Lib.hid (HQ1'.out.later hb3); have HQ2' := Lib.hid (fun h => (HQ2.out h).later hb3); clear hq hq3 hb3)
        | (go_at_call 47; (with_reducible refine (check_built w3 P [.func (.func g1) #[] l1, .func (.func g2) #[] l2, .func (.func g3) #[] l3] 3 [thereE t [i], fileE' t i, pagedE p] 0 HE.out _ rfl (by omega) (asked3 HQ1''.out HQ2'.out HQ3.out) (by simp)).mono ?_); rintro e w4 ⟨rfl, hb4⟩
           have hb : Below w.heap.size w w4 := ptrans (ptrans HB3.out (below_a1 _ _)) hb4
           have hT := HT.out.below hb
           have c1 := hT.c1
           have hlk := hT.look_some HX.out
           have n2 : w4.cell? ⟨y.f i, 2, none⟩ = some (.int .u32 x.size) := (hT.node i x HX.out).cell 2
           have n4 : w4.cell? ⟨y.f i, 4, none⟩ = some (.map (some (y.G i))) := (hT.node i x HX.out).cell 4
           have hpg := (hT.node i x HX.out).page (p := p) ⟨by omega, by omega⟩
           have HB := Lib.hid hb
           have hfl : y.f i < w4.heap.size := (hT.node i x HX.out).ltQ
           clear hb hb4 hT HQ1 HQ2 HQ3 HQ1' HQ1'' HQ2' HB1 HB2 HB3)
        | ((with_reducible refine wpList_alloc_z 92 z66 zero66 ?_); intro w5 hw5
           have ht5 : w5.there w4.heap.size 0 64 := (by rw [hw5]; exact there_new w4 _)
           have hB5 : Below w4.heap.size w4 w5 := (by rw [hw5]; exact below_a1 _ _)
           obtain ⟨w6, hst, hpa, hg6⟩ := page_store HLen.out ht5
           have m2 : w6.cell? ⟨y.f i, 2, none⟩ = some (.int .u32 x.size) := hg6.cell ((hB5.cell (p := ⟨y.f i, 2, none⟩) hfl).trans n2) (fun e => (by injection e with e; simp at e; omega))
           have hcv := hpa.text' 0 64 (by rw [HLen.out]; omega)
           have HB6 := Lib.hid (below_grown (ptrans HB.out hB5) hg6 HB.out.size)
           clear hw5 ht5 hB5 hpa hg6)
        | (refine wpList_store_run 92 10 37 w6 _ _ rfl rfl hst ?_; clear hst))
       go_ret2
       exact ⟨by rw [HS.out, HRL.out]; rfl, HB6.out⟩
 · have hz' : (r != 0) = true := by simpa using hz
   have HS : Hid (readR t i p = (ByteArray.empty, r)) := by show _ = _; unfold readR; rw [hr, if_neg hz]
   have HE := Lib.hid hr
   clear h hi hok hr hz
   go_enter Tryz.func20, Tryz.ntmps20
   go_wp2_with (first
    | (go_at_call 48; (with_reducible refine (HTh.out _ _ _ (below_a1 w _) (SliceAt.built' _ [.int .u32 i] _ (w.heap.size) rfl)).mono ?_); rintro e w1 hq; obtain ⟨g1, l1, rfl, hq1, hb1⟩ := hq.get; have HQ1 := Lib.hid hq1; have HB1 := Lib.hid (ptrans (below_a1 w _) hb1); clear hq hq1 hb1)
    | (go_at_call 49; (with_reducible refine (HFl.out _ HB1.out).mono ?_); rintro e w2 ⟨g2, l2, rfl, hq2, hb2⟩; have HQ2 := Lib.hid hq2; have HB2 := Lib.hid (ptrans HB1.out hb2); have HQ1' := Lib.hid (HQ1.out.later hb2); clear hq2 hb2)
    | (go_at_call 50; (with_reducible refine (t_paged p _ rfl w2).mono ?_); rintro e w3 hq; obtain ⟨g3, l3, rfl, hq3, hb3⟩ := hq.get; have HQ3 := Lib.hid hq3; have HB3 := Lib.hid (ptrans HB2.out hb3); have HQ1'' := Lib.hid (HQ1'.out.later hb3); have HQ2' := Lib.hid (fun h => (HQ2.out h).later hb3); clear hq hq3 hb3)
    | (go_at_call 47; (with_reducible refine (check_built w3 P [.func (.func g1) #[] l1, .func (.func g2) #[] l2, .func (.func g3) #[] l3] 3 [thereE t [i], fileE' t i, pagedE p] r HE.out _ rfl (by omega) (asked3 HQ1''.out HQ2'.out HQ3.out) (by simp)).mono ?_); rintro e w4 ⟨rfl, hb4⟩
       have HB : Hid (Below w.heap.size w w4) := ptrans (ptrans HB3.out (below_a1 _ _)) hb4
       clear hb4 HQ1 HQ2 HQ3 HQ1' HQ1'' HQ2' HB1 HB2 HB3))
   go_ret2
   exact ⟨by rw [HS.out]; rfl, HB.out⟩
end
end Go.Proofs.YtogljgiefmfafaaGreat
