/- linear.refused. -/
import Derived.Test.YtpcnolkdnmolgaaGreatDoorPh23
namespace Go.Proofs.YtpcnolkdnmolgaaGreatDoor
section
open Go.RowKit Go.Maps
theorem opR_lostZ {ops : Array Oper} {a0 : Act} {w0 : World} {Rel : World → World → Prop} {Φ : Nat → Value → World → Prop} {Q : Exit → Act → World → Prop} {i : Nat} {o : Oper} {j d : Nat} {want : Bool} {oj : Oper} (hod : o.dst.isSome = true) (hg : o.guard = some (j, want))
  (haft : (o.after.toList.any fun e => e.on == j && Region.binds .any e) = true) (hj : ops[j]? = some oj) (hjd : oj.dst = some d) (hc : ∀ v W, Φ j v W → v = undef) (hrefl : ∀ W, Rel W W) (hskip : ∀ W, Φ i undef W) : OpDoesR ops a0 w0 Rel Φ Q i o := by
 refine opR_any fun a W h1 h2 h3 K hK => ?_
 have hv := hc _ _ (h3 j oj haft hj)
 have hy : yielded ops a.tmps j = none := by
  unfold dstV keyOf' at hv
  rw [hjd] at hv
  simp only at hv
  unfold yielded
  rw [hj]
  simp only [Option.bind_some, hjd]
  cases ht : a.tmps[d]? with
  | none => rfl
  | some x =>
   rw [ht] at hv
   simp only [Option.getD_some] at hv
   rw [hv]
   rfl
 rw [if_neg (by simp [Region.wanted, hg, hy])]
 refine hK undef W (hrefl W) ?_
 cases hd : o.dst with
 | some d => exact hskip W
 | none => rw [hd] at hod; cases hod
theorem relB_get {W W' : World} (h : RelB W W') : Below W.heap.size W W' := h
theorem below3 (w : World) (o1 o2 o3 : Obj) : Below w.heap.size w (((w.alloc o1).alloc o2).alloc o3) := by
 have h1 : Below w.heap.size w (w.alloc o1) := (Below.refl _ _).alloc (Nat.le_refl _) _
 have h2 : Below w.heap.size w ((w.alloc o1).alloc o2) := h1.alloc (by simp) _
 exact h2.alloc (by simp; try omega) _
theorem EvsAt.drop {w : World} {b o i : Nat} {l : List Ev} (h : EvsAt w (some ⟨b, o, none⟩) l) : EvsAt w (some ⟨b, o + i * 18, none⟩) (l.drop i) := fun hn => by
 have hne : l ≠ [] := fun e => hn (by rw [e]; simp)
 obtain ⟨b', o', h1, h2, h3⟩ := h hne
 injection h1 with h1
 injection h1 with h1 h4
 subst h1 h4
 refine ⟨b, o + i * 18, rfl, h2, fun k e hk => ?_⟩
 rw [List.getElem?_drop] at hk
 have := h3 (i + k) e hk
 rw [show o + i * 18 + k * 18 = o + (i + k) * 18 by omega]
 exact this
def PredE (w : World) (g : Nat) (lb : Array Value) (p : Ev → Bool) (l : List Ev) : Prop :=
 ∀ W y, y ∈ l → Below w.heap.size w W → Calls Tryz.prog g (#[.agg y.cells.toArray] ++ lb) W fun e W' => e = .returned (.bool (p y)) ∧ Below W.heap.size W W'
def fidx (l : List Ev) (p : Ev → Bool) : Int := if l.findIdx p < l.length then (l.findIdx p : Int) else -1
theorem find_take {l : List Ev} {p : Ev → Bool} {j : Nat} {y : Ev} (h : (l.take j).find? p = none) (hy : l[j]? = some y) : (p y = true → l.find? p = some y) ∧ (p y = false → (l.take (j + 1)).find? p = none) := by
 constructor
 · intro hp
   have e : l = l.take j ++ y :: l.drop (j + 1) := by
    rw [← (List.getElem?_eq_some_iff.1 hy).2, ← List.drop_eq_getElem_cons, List.take_append_drop]
   rw [e, List.find?_append, h]
   simp [hp]
 · intro hp
   rw [List.take_add_one, hy, List.find?_append, h]
   simp [hp]
theorem fidx_none {l : List Ev} {p : Ev → Bool} (h : l.find? p = none) : fidx l p = -1 := by
 unfold fidx
 rw [if_neg]
 rw [List.findIdx_lt_length]
 rintro ⟨x, hx, hp⟩
 exact List.find?_eq_none.1 h x hx hp
theorem fidx_hit {l : List Ev} {p : Ev → Bool} {j : Nat} {y : Ev} (h : (l.take j).find? p = none) (hy : l[j]? = some y) (hp : p y = true) : fidx l p = j := by
 have hj := (List.getElem?_eq_some_iff.1 hy).1
 have e : l.findIdx p = j := by
  rw [List.findIdx_eq hj]
  refine ⟨by rw [(List.getElem?_eq_some_iff.1 hy).2]; exact hp, fun k hk => ?_⟩
  have hkl : k < l.length := by omega
  have := List.find?_eq_none.1 h l[k] (List.mem_of_getElem? (i := k) (by rw [List.getElem?_take_of_lt hk]; exact List.getElem?_eq_getElem hkl))
  simpa using this
 unfold fidx
 rw [e, if_pos hj]
theorem fidx_some {l : List Ev} {p : Ev → Bool} {y : Ev} (h : l.find? p = some y) : ∃ j : Nat, fidx l p = j ∧ l[j]? = some y := by
 have hlt : l.findIdx p < l.length := List.findIdx_lt_length.2 ⟨y, List.mem_of_find?_eq_some h, List.find?_some h⟩
 refine ⟨l.findIdx p, by unfold fidx; rw [if_pos hlt], ?_⟩
 have hg : l[l.findIdx p]? = some (l[l.findIdx p]'hlt) := List.getElem?_eq_getElem hlt
 have hn : (l.take (l.findIdx p)).find? p = none := by
  rw [List.find?_eq_none]
  intro x hx
  obtain ⟨k, hk⟩ := List.mem_iff_getElem?.1 hx
  have hkl : k < l.findIdx p := by
   have := (List.getElem?_eq_some_iff.1 hk).1
   rw [List.length_take] at this
   omega
  rw [List.getElem?_take_of_lt hkl] at hk
  have h2 := List.not_of_lt_findIdx hkl
  rw [(List.getElem?_eq_some_iff.1 hk).2] at h2
  simpa using h2
 have h3 := (find_take hn hg).1 (List.findIdx_getElem (w := hlt))
 rw [h3] at h
 injection h with h
 rw [hg, h]
set_option maxRecDepth 100000 in
set_option maxHeartbeats 2000000 in
theorem t_indexEv (A : Option Addr) (n c : Nat) (l : List Ev) (g : Nat) (lb : Array Value) (p : Ev → Bool) (w : World) (hl : l.length = n) (hn : n ≤ 1000) (hs : EvsAt w A l)
  (eg : ∀ args w, (callFunc g args).run Tryz.prog w = .ok (.enter g args) w) (hp : PredE w g lb p l) :
  Calls Tryz.prog 256 #[.slice A n c, .func (.func g) #[] lb] w fun e w' => e = .returned (.int .i64 (fidx l p)) ∧ Below w.heap.size w w' := by
 obtain ⟨r, hr⟩ : ∃ r, fidx l p = r := ⟨_, rfl⟩
 rw [hr]
 have HR := zz hr
 clear hr
 have HP := zz hp
 have HS := zz hs
 have HL := zz hl
 clear hp hs hl
 go_enter Tryz.func256, Tryz.ntmps256
 go_wp2
 go_loopw [8] (fun v W => ∃ j : Nat, v = .int .i64 (j : Int) ∧ j ≤ n ∧ Hid ((l.take j).find? p = none) ∧ Hid (Below w.heap.size w W)) (fun v _ => n - (intOf v).toNat)
 case atStart => exact ⟨0, rfl, Nat.zero_le _, rfl, Below.refl _ _⟩
 case round =>
  obtain ⟨j, rfl, hj, HNo, HB⟩ := hrel
  by_cases he : j = n
  · have hf : r = -1 := by
     have h := HNo.out
     rw [List.take_of_length_le (by rw [HL.out, he]; exact Nat.le_refl _)] at h
     rw [← HR.out]
     exact fidx_none h
    have HF := zz hf
    clear hf
    subst he
    go_wp2
    go_ret
    exact ⟨by rw [HF.out]; rfl, HB.out⟩
  · have hjn : j < n := by omega
    obtain ⟨y, hy⟩ : ∃ y, l[j]? = some y := ⟨l[j]'(by rw [HL.out]; exact hjn), List.getElem?_eq_getElem _⟩
    obtain ⟨b, o, rfl, hb, hc⟩ := HS.out.get hy
    have HRA := zz (hc wr HB.out)
    have cS := HP.out wr y (List.mem_of_getElem? hy) HB.out
    obtain ⟨_, f2⟩ := find_take HNo.out hy
    have HY := zz hy
    have HF2 := zz f2
    obtain ⟨ev, hev⟩ : ∃ ev, y.cells = ev := ⟨_, rfl⟩
    have hinf : (Tryz.prog.info? 120).map (·.size) = some ev.length := by rw [← hev, ev_len]; exact infoEv
    have HINF := zz hinf
    rw [hev] at HRA cS
    have HCS := zz cS
    clear hy hb hc f2 he hev hinf cS
    cases hpy : p y with
    | true =>
     rw [hpy] at HCS
     have HF := zz (show r = j from HR.out.symm.trans (fidx_hit HNo.out HY.out hpy))
     clear hpy
     go_wp2_with (first
      | (refine wpList_load_mid rfl 120 _ rfl b _ rfl ev _ HRA.out Tryz.underlying120 rfl HINF.out ?_)
      | (go_at_fn g; refine HCS.out.mono ?_; rintro e W' ⟨rfl, hb2⟩; have HB2 := zz hb2; clear hb2))
     go_ret
     exact ⟨by rw [HF.out]; rfl, ptrans HB.out HB2.out⟩
    | false =>
     rw [hpy] at HCS
     have HN2 := zz (HF2.out hpy)
     clear hpy
     go_wp2_with (first
      | (refine wpList_load_mid rfl 120 _ rfl b _ rfl ev _ HRA.out Tryz.underlying120 rfl HINF.out ?_)
      | (go_at_fn g; refine HCS.out.mono ?_; rintro e W' ⟨rfl, hb2⟩; have HB2 := zz hb2; clear hb2))
     exact ⟨⟨j + 1, by go_num, by omega, HN2, ptrans HB.out HB2.out⟩, by simp [intOf]; omega⟩
set_option maxRecDepth 100000 in
theorem t_changesC (a : Nat) (w : World) : Calls Tryz.prog 258 #[.int .u8 a] w fun e w' => e = .returned (.bool (changesB a)) ∧ w = w' := by
 obtain ⟨r, hr⟩ : ∃ r, changesB a = r := ⟨_, rfl⟩
 rw [hr]
 have HR := zz hr
 clear hr
 go_enter Tryz.func258, Tryz.ntmps258
 go_wp2
 all_goals go_ret
 all_goals refine ⟨?_, rfl⟩
 all_goals rw [← HR.out]
 all_goals unfold changesB
 all_goals simp [*]
structure BoxR (w : World) (bp bi Q i : Nat) : Prop where
 p : w.heap[bp]? = some (.cells #[.pointer (some ⟨Q, 0, none⟩)] 122 (0, 0))
 at_ : w.heap[bi]? = some (.cells #[.int .i64 (i : Int)] 3 (0, 0))
theorem BoxR.below {w w' : World} {bp bi Q i : Nat} (h : BoxR w bp bi Q i) (hb : Below w.heap.size w w') : BoxR w' bp bi Q i :=
 ⟨(hb.block _ (Array.getElem?_eq_some_iff.1 h.p).1).trans h.p, (hb.block _ (Array.getElem?_eq_some_iff.1 h.at_).1).trans h.at_⟩
def HeadR (w : World) (Q P C q : Nat) (A : Option Addr) (n c : Nat) : Prop := w.heap[Q]? = some (.cells #[.pointer (some ⟨P, 0, none⟩), .slice A n c, .slice (some ⟨C, 0, none⟩) q q] 131 (0, 0))
theorem HeadR.below {w w' : World} {Q P C q n c : Nat} {A : Option Addr} (h : HeadR w Q P C q A n c) (hb : Below w.heap.size w w') : HeadR w' Q P C q A n c := (hb.block _ (Array.getElem?_eq_some_iff.1 h).1).trans h
theorem HeadR.cells {w : World} {Q P C q n c : Nat} {A : Option Addr} (h : HeadR w Q P C q A n c) : w.cell? ⟨Q, 0, none⟩ = some (.pointer (some ⟨P, 0, none⟩)) ∧ w.cell? ⟨Q, 1, none⟩ = some (.slice A n c) ∧ w.cell? ⟨Q, 2, none⟩ = some (.slice (some ⟨C, 0, none⟩) q q) := by
 unfold HeadR at h
 simp [World.cell?, h]
theorem ev_ck {w : World} {B : Nat} {y : Ev} (h : w.heap[B]? = some (.cells y.cells.toArray 120 (0, 0))) : w.cell? ⟨B, 0, none⟩ = some (.int .i64 y.core) ∧ w.cell? ⟨B, 1, none⟩ = some (.int .u8 y.kind) := by
 simp [World.cell?, h, Ev.cells]
def endP (core : Int) (y : Ev) : Bool := y.core == core && y.kind == 3
set_option maxRecDepth 100000 in
set_option maxHeartbeats 2000000 in
theorem t_ref1 (w : World) (bp bi Q P C q i n c : Nat) (A : Option Addr) (l : List Ev) (e y : Ev) (hB : BoxR w bp bi Q i) (hH : HeadR w Q P C q A n c) (hl : EvsAt w A l) (hn : l.length = n) (he : l[i]? = some e) :
  Calls Tryz.prog 257 #[.agg y.cells.toArray, .pointer (some ⟨bp, 0, none⟩), .pointer (some ⟨bi, 0, none⟩)] w fun e' w' => e' = .returned (.bool (endP e.core y)) ∧ Below w.heap.size w w' := by
 have HB := zz hB
 have HH := zz hH
 have hi : i < n := by rw [← hn]; exact (List.getElem?_eq_some_iff.1 he).1
 obtain ⟨b, o, rfl, hb, hc⟩ := hl.get he
 have HC := zz hc
 obtain ⟨r, hr⟩ : ∃ r, endP e.core y = r := ⟨_, rfl⟩
 rw [hr]
 have HR := zz hr
 clear hB hH hl hn he hb hc hr
 obtain ⟨W, hW⟩ : ∃ W, w.alloc (.cells y.cells.toArray 120) = W := ⟨_, rfl⟩
 have hbw : Below w.heap.size w W := by rw [← hW]; exact (Below.refl _ _).alloc (Nat.le_refl _) _
 have hy : W.heap[w.heap.size]? = some (.cells y.cells.toArray 120 (0, 0)) := by rw [← hW]; exact heap_alloc_new w _
 obtain ⟨k0, k1⟩ := ev_ck hy
 have e0 : W.cell? ⟨b, o + i * 18, none⟩ = some (.int .i64 e.core) := HC.out W hbw 0 _ rfl
 obtain ⟨_, h1, _⟩ := (HH.out.below hbw).cells
 have b1 : W.cell? ⟨bp, 0, none⟩ = some (.pointer (some ⟨Q, 0, none⟩)) := by simp [World.cell?, (HB.out.below hbw).p]
 have b2 : W.cell? ⟨bi, 0, none⟩ = some (.int .i64 (i : Int)) := by simp [World.cell?, (HB.out.below hbw).at_]
 obtain ⟨yc, hyc⟩ : ∃ x, y.core = x := ⟨_, rfl⟩
 obtain ⟨yk, hyk⟩ : ∃ x, y.kind = x := ⟨_, rfl⟩
 obtain ⟨ec, hec⟩ : ∃ x, e.core = x := ⟨_, rfl⟩
 have HRR := zz (show ((yc == ec) && (yk == 3)) = r from by rw [← HR.out, ← hyc, ← hyk, ← hec]; rfl)
 rw [hyc] at k0
 rw [hyk] at k1
 rw [hec] at e0
 have HBW := zz hbw
 clear hy hbw hyc hyk hec HC HH HB HR
 obtain ⟨yv, hyv⟩ : ∃ v, y.cells.toArray = v := ⟨_, rfl⟩
 rw [hyv] at hW ⊢
 clear hyv
 by_cases hc1 : yc = ec
 · subst hc1
   go_enter Tryz.func257, Tryz.ntmps257
   go_wp2
   go_quiet (fail)
   have HB2 := zz (pbelow_drewN HBW.out nq)
   generalize W.drewN _ = w2 at *
   go_wp2
   go_ret
   exact ⟨by rw [← HRR.out]; simp [*], HB2.out⟩
 · have hcb : (yc == ec) = false := by simpa using hc1
   go_enter Tryz.func257, Tryz.ntmps257
   go_wp2
   go_quiet (fail)
   have HB2 := zz (pbelow_drewN HBW.out nq)
   generalize W.drewN _ = w2 at *
   go_wp2
   go_ret
   exact ⟨by rw [← HRR.out]; simp [*], HB2.out⟩
theorem endOf_eq (l : List Ev) (i : Nat) (core : Int) : endOf l i core = (l.drop i).find? (endP core) := rfl
set_option maxRecDepth 100000 in
set_option maxHeartbeats 4000000 in
theorem t_refused (w : World) (Q P C q i n c : Nat) (A : Option Addr) (l : List Ev) (e : Ev) (x : Cx) (hH : HeadR w Q P C q A n c) (hl : EvsAt w A l) (hL : EvsL w l) (hn : l.length = n) (hn2 : n ≤ 1000) (hnc : n ≤ c) (_hc : c ≤ maxLen) (hf : ∀ e ∈ l, Ev.Fits e) (he : l[i]? = some e) (a : Nat) (ha : x.act = a) :
  Calls Tryz.prog 218 #[.pointer (some ⟨Q, 0, none⟩), .int .i64 (i : Int), callV x] w fun e' w' => e' = .returned (.bool (refusedB l i e.core x.act)) ∧ Below w.heap.size w w' := by
 have hi : i < n := by rw [← hn]; exact (List.getElem?_eq_some_iff.1 he).1
 obtain ⟨b, o, rfl, hb, hc2⟩ := hl.get he
 obtain ⟨r, hr⟩ : ∃ r, refusedB l i e.core x.act = r := ⟨_, rfl⟩
 rw [hr]
 have HR := zz hr
 have HH := zz hH
 have HEL := zz hL
 have HL := zz hl
 have HN := zz hn
 have HF := zz hf
 have HE := zz he
 clear hr hH hL hl hn hf he hb hc2
 obtain ⟨act, p1, p2, fd, pg, sz, dt⟩ := x
 have ha' : act = (a : Int) := ha
 subst ha'
 clear ha
 show Calls Tryz.prog 218 #[.pointer (some ⟨Q, 0, none⟩), .int .i64 (i : Int), .agg #[.int .u8 (a : Int), .string p1, .string p2, .int .i64 fd, .int .i64 pg, .int .u32 sz, .string dt]] w _
 obtain ⟨W, hW⟩ : ∃ W, ((w.alloc (.cells #[.pointer (some ⟨Q, 0, none⟩)] 122)).alloc (.cells #[.int .i64 (i : Int)] 3)).alloc (.cells #[.int .u8 (a : Int), .string p1, .string p2, .int .i64 fd, .int .i64 pg, .int .u32 sz, .string dt] 31) = W := ⟨_, rfl⟩
 have hbw : Below w.heap.size w W := by
  rw [← hW]
  exact below3 w _ _ _
 have hbox : BoxR W w.heap.size (w.heap.size + 1) Q i := by
  rw [← hW]
  refine ⟨?_, ?_⟩
  · exact (Below.heap_alloc _ _ _ (by simp; try omega)).trans ((Below.heap_alloc _ _ _ (by simp)).trans (heap_alloc_new w _))
  · have h := heap_alloc_new (w.alloc (.cells #[.pointer (some ⟨Q, 0, none⟩)] 122)) (.cells #[.int .i64 (i : Int)] 3)
    rw [show (w.alloc (.cells #[.pointer (some ⟨Q, 0, none⟩)] 122)).heap.size = w.heap.size + 1 by simp] at h
    exact (Below.heap_alloc _ _ _ (by simp)).trans h
 have hxh : W.heap[w.heap.size + 1 + 1]? = some (.cells #[.int .u8 (a : Int), .string p1, .string p2, .int .i64 fd, .int .i64 pg, .int .u32 sz, .string dt] 31 (0, 0)) := by
  rw [← hW]
  have h := heap_alloc_new ((w.alloc (.cells #[.pointer (some ⟨Q, 0, none⟩)] 122)).alloc (.cells #[.int .i64 (i : Int)] 3)) (.cells #[.int .u8 (a : Int), .string p1, .string p2, .int .i64 fd, .int .i64 pg, .int .u32 sz, .string dt] 31)
  rw [show ((w.alloc (.cells #[.pointer (some ⟨Q, 0, none⟩)] 122)).alloc (.cells #[.int .i64 (i : Int)] 3)).heap.size = w.heap.size + 1 + 1 by simp] at h
  exact h
 have hxa : W.cell? ⟨w.heap.size + 1 + 1, 0, none⟩ = some (.int .u8 (a : Int)) := by simp [World.cell?, hxh]
 have HBW := zz hbw
 have HBX := zz hbox
 have HXA := zz (show ∀ W', Below W.heap.size W W' → W'.cell? ⟨w.heap.size + 1 + 1, 0, none⟩ = some (.int .u8 (a : Int)) from fun W' hb => (World.cell?_of_block (a := ⟨w.heap.size + 1 + 1, 0, none⟩) (hb.block _ (by rw [← hW]; simp; try omega))).trans hxa)
 obtain ⟨kf, hkf⟩ : ∃ kf, fidx (l.drop i) (endP e.core) = kf := ⟨_, rfl⟩
 have HKF := zz hkf
 have HIX := zz (show ∀ W', Below W.heap.size W W' → Calls Tryz.prog 256 #[.slice (some ⟨b, o + i * 18, none⟩) (n - i) (c - i), .func (.func 257) #[] #[.pointer (some ⟨w.heap.size, 0, none⟩), .pointer (some ⟨w.heap.size + 1, 0, none⟩)]] W' fun e w' => e = .returned (.int .i64 kf) ∧ Below W'.heap.size W' w' from fun W' hb => by
  rw [← hkf]
  have hb2 := ptrans hbw hb
  refine t_indexEv _ (n - i) (c - i) (l.drop i) 257 _ (endP e.core) W' (by rw [List.length_drop, HN.out]) (by omega) ((HL.out.below hb2).drop) (enters_of Tryz.func257 (by kernel_rfl) rfl) ?_
  intro W2 y _ hW2
  exact t_ref1 W2 w.heap.size (w.heap.size + 1) Q P C q i n c (some ⟨b, o, none⟩) l e y ((hbox.below hb).below hW2) ((HH.out.below hb2).below hW2) ((HL.out.below hb2).below hW2) HN.out HE.out)
 have HD1 := zz (show ∀ W', Below W.heap.size W W' → W'.cell? ⟨w.heap.size, 0, none⟩ = some (.pointer (some ⟨Q, 0, none⟩)) from fun W' hb => by simp [World.cell?, (hbox.below hb).p])
 have HD2 := zz (show ∀ W', Below W.heap.size W W' → W'.cell? ⟨w.heap.size + 1, 0, none⟩ = some (.int .i64 (i : Int)) from fun W' hb => by simp [World.cell?, (hbox.below hb).at_])
 have HD3 := zz (show ∀ W', Below W.heap.size W W' → W'.cell? ⟨Q, 1, none⟩ = some (.slice (some ⟨b, o, none⟩) n c) from fun W' hb => (HH.out.below (ptrans hbw hb)).cells.2.1)
 clear hbw hbox hxa hkf
 go_enter Tryz.func218, Tryz.ntmps218
 go_wp2
 refine wp_region_rel RelB (phi [isV (.pointer (some ⟨Q, 0, none⟩)), isV (.pointer (some ⟨Q, 0, none⟩)), isV (.pointer (some ⟨Q, 1, none⟩)), isV (.slice (some ⟨b, o, none⟩) n c), isV (.int .i64 (i : Int)), isV (.slice (some ⟨b, o + i * 18, none⟩) (n - i) (c - i)), isV (.func (.func 257) #[] #[.pointer (some ⟨w.heap.size, 0, none⟩), .pointer (some ⟨w.heap.size + 1, 0, none⟩)]), isV (.int .i64 kf), isV (.int .i64 kf)]) (by kernel_rfl) (by kernel_rfl) (by kernel_rfl) (RelB.of (below_drew _)) (fun _ _ _ a b => a.trans b) ?_ ?_ ?_
 · refine stays_phiR ?_
   simp only [List.forall_mem_cons]
   exact ⟨kv, kv, kv, kv, kv, kv, kv, kv, kv, fun _ h => absurd h (by simp)⟩
 · refine ⟨?_, ?_, ?_, ?_, ?_, ?_, ?_, ?_, ?_, trivial⟩
   · refine opR_mk rfl fun aa W2 hB hp hq K hK => ?_
     have e3 : aa.tmps[3]?.getD undef = .pointer (some ⟨w.heap.size, 0, none⟩) := hp 3 (by kernel_rfl)
     have d1 := HD1.out W2 (relB_get hB)
     clear hp hq
     go_simp
     exact hK _ _ (RelB.refl _) rfl
   · refine opR_mk rfl fun aa W2 hB hp hq K hK => ?_
     have e8 : aa.tmps[8]?.getD undef = .pointer (some ⟨Q, 0, none⟩) := hq 0 _ (by kernel_rfl) rfl
     clear hp hq
     go_simp
     exact hK _ _ (RelB.refl _) rfl
   · refine opR_mk rfl fun aa W2 hB hp hq K hK => ?_
     have e9 : aa.tmps[9]?.getD undef = .pointer (some ⟨Q, 0, none⟩) := hq 1 _ (by kernel_rfl) rfl
     clear hp hq
     go_simp
     exact hK _ _ (RelB.refl _) rfl
   · refine opR_mk rfl fun aa W2 hB hp hq K hK => ?_
     have e10 : aa.tmps[10]?.getD undef = .pointer (some ⟨Q, 1, none⟩) := hq 2 _ (by kernel_rfl) rfl
     have d3 := HD3.out W2 (relB_get hB)
     clear hp hq
     go_simp
     exact hK _ _ (RelB.refl _) rfl
   · refine opR_mk rfl fun aa W2 hB hp hq K hK => ?_
     have e4 : aa.tmps[4]?.getD undef = .pointer (some ⟨w.heap.size + 1, 0, none⟩) := hp 4 (by kernel_rfl)
     have d2 := HD2.out W2 (relB_get hB)
     clear hp hq
     go_simp
     exact hK _ _ (RelB.refl _) rfl
   · refine opR_mk rfl fun aa W2 hB hp hq K hK => ?_
     have e11 : aa.tmps[11]?.getD undef = .slice (some ⟨b, o, none⟩) n c := hq 3 _ (by kernel_rfl) rfl
     have e12 : aa.tmps[12]?.getD undef = .int .i64 (i : Int) := hq 4 _ (by kernel_rfl) rfl
     clear hp hq
     go_simp
     rw [if_pos (show i ≤ n by omega), if_neg (show ¬ c = i by omega)]
     exact hK _ _ (RelB.refl _) rfl
   · refine opR_mk rfl fun aa W2 hB hp hq K hK => ?_
     have e3 : aa.tmps[3]?.getD undef = .pointer (some ⟨w.heap.size, 0, none⟩) := hp 3 (by kernel_rfl)
     have e4 : aa.tmps[4]?.getD undef = .pointer (some ⟨w.heap.size + 1, 0, none⟩) := hp 4 (by kernel_rfl)
     clear hp hq
     go_simp
     exact hK _ _ (RelB.refl _) rfl
   · refine opR_mk rfl fun aa W2 hB hp hq K hK => ?_
     have e13 : aa.tmps[13]?.getD undef = .slice (some ⟨b, o + i * 18, none⟩) (n - i) (c - i) := hq 5 _ (by kernel_rfl) rfl
     have e14 : aa.tmps[14]?.getD undef = .func (.func 257) #[] #[.pointer (some ⟨w.heap.size, 0, none⟩), .pointer (some ⟨w.heap.size + 1, 0, none⟩)] := hq 6 _ (by kernel_rfl) rfl
     clear hp hq
     go_simp
     go_at_call 256
     (with_reducible refine (HIX.out W2 (relB_get hB)).mono ?_)
     rintro e w5 ⟨rfl, hb5⟩
     exact hK _ _ (RelB.of hb5) rfl
   · refine opR_mk rfl fun aa W2 hB hp hq K hK => ?_
     have e15 : aa.tmps[15]?.getD undef = .int .i64 kf := hq 7 _ (by kernel_rfl) rfl
     clear hp hq
     go_simp
     exact hK _ _ (RelB.refl _) rfl
 · intro vs W3 hB3 hv3 _
   have v7 : vs 7 = .int .i64 kf := hv3 7 _ rfl rfl
   have v8 : vs 8 = .int .i64 kf := hv3 8 _ rfl rfl
   have HB3 := zz (relB_get hB3)
   simp only [putAll, Act.put, List.setIfInBounds_toArray, List.set_cons_succ, List.set_cons_zero, Nat.zero_add, Nat.reduceAdd]
   rw [v7, v8]
   clear hB3 hv3 v7 v8
   rcases (show (l.drop i).find? (endP e.core) = none ∨ ∃ y, (l.drop i).find? (endP e.core) = some y from by cases h : (l.drop i).find? (endP e.core) with | none => exact .inl rfl | some y => exact .inr ⟨y, rfl⟩) with hfn | ⟨y, hfy⟩
   · have hk := fidx_none hfn
     rw [HKF.out] at hk
     subst hk
     have HFR := zz (show r = false from by
      rw [← HR.out]
      unfold refusedB
      rw [endOf_eq, hfn])
     clear hfn
     go_wp2
     refine wp_region_rel RelB (phi [isV (.int .i64 (-1)), isV (.bool false), isV (.bool false), (fun _ _ => True), (fun _ _ => True), (fun _ _ => True), (fun _ _ => True), (fun _ _ => True), (fun _ _ => True), (fun _ _ => True), (fun _ _ => True), (fun _ _ => True), (fun _ _ => True), (fun _ _ => True), (fun _ _ => True), isV (.bool false), isV (.bool false), (fun _ _ => True), (fun _ _ => True), (fun _ _ => True), isV undef, (fun _ _ => True), (fun _ _ => True), (fun _ _ => True), (fun _ _ => True), isV (.bool false), isV (.bool false)]) (by kernel_rfl) (by kernel_rfl) (by kernel_rfl) (RelB.of (below_drew _)) (fun _ _ _ a b => a.trans b) ?_ ?_ ?_
     · refine stays_phiR ?_
       simp only [List.forall_mem_cons]
       exact ⟨kv, kv, kv, fun _ _ _ _ _ => trivial, fun _ _ _ _ _ => trivial, fun _ _ _ _ _ => trivial, fun _ _ _ _ _ => trivial, fun _ _ _ _ _ => trivial, fun _ _ _ _ _ => trivial, fun _ _ _ _ _ => trivial, fun _ _ _ _ _ => trivial, fun _ _ _ _ _ => trivial, fun _ _ _ _ _ => trivial, fun _ _ _ _ _ => trivial, fun _ _ _ _ _ => trivial, kv, kv, fun _ _ _ _ _ => trivial, fun _ _ _ _ _ => trivial, fun _ _ _ _ _ => trivial, kv, fun _ _ _ _ _ => trivial, fun _ _ _ _ _ => trivial, fun _ _ _ _ _ => trivial, fun _ _ _ _ _ => trivial, kv, kv, fun _ h => absurd h (by simp)⟩
     · refine ⟨?_, ?_, ?_, ?_, ?_, ?_, ?_, ?_, ?_, ?_, ?_, ?_, ?_, ?_, ?_, ?_, ?_, ?_, ?_, ?_, ?_, ?_, ?_, ?_, ?_, ?_, ?_, trivial⟩
       · refine opR_mk rfl fun aa W2 hB hp hq K hK => ?_
         have e7 : aa.tmps[7]?.getD undef = .int .i64 (-1) := hp 7 (by kernel_rfl)
         clear hp hq
         go_simp
         exact hK _ _ (RelB.refl _) rfl
       · refine opR_mk rfl fun aa W2 hB hp hq K hK => ?_
         have e16 : aa.tmps[16]?.getD undef = .int .i64 (-1) := hq 0 _ (by kernel_rfl) rfl
         clear hp hq
         go_simp
         exact hK _ _ (RelB.refl _) rfl
       · refine opR_mk rfl fun aa W2 hB hp hq K hK => ?_
         have e17 : aa.tmps[17]?.getD undef = .bool false := hq 1 _ (by kernel_rfl) rfl
         clear hp hq
         go_simp
         exact hK _ _ (RelB.refl _) rfl
       · exact opR_guard (j := 2) (d := 18) (c := false) rfl rfl (by kernel_rfl) rfl rfl (fun v W h => h) (fun _ => RelB.refl _) (fun _ _ => trivial) (fun hc => absurd hc (by decide))
       · exact opR_guard (j := 2) (d := 18) (c := false) rfl rfl (by kernel_rfl) rfl rfl (fun v W h => h) (fun _ => RelB.refl _) (fun _ _ => trivial) (fun hc => absurd hc (by decide))
       · exact opR_guard (j := 2) (d := 18) (c := false) rfl rfl (by kernel_rfl) rfl rfl (fun v W h => h) (fun _ => RelB.refl _) (fun _ _ => trivial) (fun hc => absurd hc (by decide))
       · exact opR_guard (j := 2) (d := 18) (c := false) rfl rfl (by kernel_rfl) rfl rfl (fun v W h => h) (fun _ => RelB.refl _) (fun _ _ => trivial) (fun hc => absurd hc (by decide))
       · exact opR_guard (j := 2) (d := 18) (c := false) rfl rfl (by kernel_rfl) rfl rfl (fun v W h => h) (fun _ => RelB.refl _) (fun _ _ => trivial) (fun hc => absurd hc (by decide))
       · exact opR_guard (j := 2) (d := 18) (c := false) rfl rfl (by kernel_rfl) rfl rfl (fun v W h => h) (fun _ => RelB.refl _) (fun _ _ => trivial) (fun hc => absurd hc (by decide))
       · exact opR_guard (j := 2) (d := 18) (c := false) rfl rfl (by kernel_rfl) rfl rfl (fun v W h => h) (fun _ => RelB.refl _) (fun _ _ => trivial) (fun hc => absurd hc (by decide))
       · exact opR_guard (j := 2) (d := 18) (c := false) rfl rfl (by kernel_rfl) rfl rfl (fun v W h => h) (fun _ => RelB.refl _) (fun _ _ => trivial) (fun hc => absurd hc (by decide))
       · exact opR_guard (j := 2) (d := 18) (c := false) rfl rfl (by kernel_rfl) rfl rfl (fun v W h => h) (fun _ => RelB.refl _) (fun _ _ => trivial) (fun hc => absurd hc (by decide))
       · exact opR_guard (j := 2) (d := 18) (c := false) rfl rfl (by kernel_rfl) rfl rfl (fun v W h => h) (fun _ => RelB.refl _) (fun _ _ => trivial) (fun hc => absurd hc (by decide))
       · exact opR_guard (j := 2) (d := 18) (c := false) rfl rfl (by kernel_rfl) rfl rfl (fun v W h => h) (fun _ => RelB.refl _) (fun _ _ => trivial) (fun hc => absurd hc (by decide))
       · exact opR_guard (j := 2) (d := 18) (c := false) rfl rfl (by kernel_rfl) rfl rfl (fun v W h => h) (fun _ => RelB.refl _) (fun _ _ => trivial) (fun hc => absurd hc (by decide))
       · refine opR_mk rfl fun aa W2 hB hp hq K hK => ?_
         have e18 : aa.tmps[18]?.getD undef = .bool false := hq 2 _ (by kernel_rfl) rfl
         clear hp hq
         go_simp
         exact hK _ _ (RelB.refl _) rfl
       · refine opR_mk rfl fun aa W2 hB hp hq K hK => ?_
         have e31 : aa.tmps[31]?.getD undef = .bool false := hq 15 _ (by kernel_rfl) rfl
         clear hp hq
         go_simp
         exact hK _ _ (RelB.refl _) rfl
       · exact opR_guard (j := 16) (d := 32) (c := false) rfl rfl (by kernel_rfl) rfl rfl (fun v W h => h) (fun _ => RelB.refl _) (fun _ _ => trivial) (fun hc => absurd hc (by decide))
       · exact opR_guard (j := 16) (d := 32) (c := false) rfl rfl (by kernel_rfl) rfl rfl (fun v W h => h) (fun _ => RelB.refl _) (fun _ _ => trivial) (fun hc => absurd hc (by decide))
       · exact opR_guard (j := 16) (d := 32) (c := false) rfl rfl (by kernel_rfl) rfl rfl (fun v W h => h) (fun _ => RelB.refl _) (fun _ _ => trivial) (fun hc => absurd hc (by decide))
       · exact opR_guard (j := 16) (d := 32) (c := false) rfl rfl (by kernel_rfl) rfl rfl (fun v W h => h) (fun _ => RelB.refl _) (fun _ _ => rfl) (fun hc => absurd hc (by decide))
       · exact opR_lostZ (j := 20) (d := 36) rfl rfl (by kernel_rfl) rfl rfl (fun v W h => h) (fun _ => RelB.refl _) (fun _ => trivial)
       · exact opR_lostZ (j := 20) (d := 36) rfl rfl (by kernel_rfl) rfl rfl (fun v W h => h) (fun _ => RelB.refl _) (fun _ => trivial)
       · exact opR_lostZ (j := 20) (d := 36) rfl rfl (by kernel_rfl) rfl rfl (fun v W h => h) (fun _ => RelB.refl _) (fun _ => trivial)
       · exact opR_guard (j := 16) (d := 32) (c := false) rfl rfl (by kernel_rfl) rfl rfl (fun v W h => h) (fun _ => RelB.refl _) (fun _ _ => trivial) (fun hc => absurd hc (by decide))
       · refine opR_mk rfl fun aa W2 hB hp hq K hK => ?_
         have e32 : aa.tmps[32]?.getD undef = .bool false := hq 16 _ (by kernel_rfl) rfl
         clear hp hq
         go_simp
         exact hK _ _ (RelB.refl _) rfl
       · refine opR_mk rfl fun aa W2 hB hp hq K hK => ?_
         have e41 : aa.tmps[41]?.getD undef = .bool false := hq 25 _ (by kernel_rfl) rfl
         clear hp hq
         go_simp
         exact hK _ _ (RelB.refl _) rfl
     · intro vs W3 hB3 hv3 _
       have v26 : vs 26 = .bool false := hv3 26 _ rfl rfl
       have HB4 := zz (relB_get hB3)
       simp only [putAll, Act.put, List.setIfInBounds_toArray, List.set_cons_succ, List.set_cons_zero, Nat.zero_add, Nat.reduceAdd]
       rw [v26]
       clear hB3 hv3 v26
       go_wp2
       go_ret
       exact ⟨by rw [HFR.out]; rfl, ptrans HBW.out (ptrans HB3.out HB4.out)⟩
   · obtain ⟨j, hk, hyj⟩ := fidx_some hfy
     rw [HKF.out] at hk
     subst hk
     rw [List.getElem?_drop] at hyj
     obtain ⟨m, hm⟩ : ∃ m, i + j = m := ⟨_, rfl⟩
     rw [hm] at hyj
     have hmn : m < n := by rw [← HN.out]; exact (List.getElem?_eq_some_iff.1 hyj).1
     have hR := HR.out
     unfold refusedB at hR
     rw [endOf_eq, hfy] at hR
     dsimp only at hR
     have HMC := zz (show (i : Int) + (j : Int) = (m : Int) from by omega)
     obtain ⟨hln, hrd⟩ := HEL.out y (List.mem_of_getElem? hyj)
     have HAK := zz (show ∀ W', Below W.heap.size W W' → Calls Tryz.prog 219 #[.agg #[.int .i64 y.err, .int .i64 y.fd, .int .u32 y.ino, .int .u32 y.s0, .int .u8 y.s1, .int .i64 y.s2, .int .u32 y.s3, .slice y.la y.ln y.lc, .string y.dt], .agg #[.int .i64 270, .int .i64 0, .int .u32 0, .int .u32 0, .int .u8 0, .int .i64 0, .int .u32 0, .slice none 0 0, .string ⟨#[]⟩]] W' fun e w' => e = .returned (.bool (decide (y.rp = logRp))) ∧ Below W'.heap.size W' w' from fun W' hb => by
      refine t_alike31 y.rp logRp _ _ W' ⟨y.la, y.lc, ?_, hrd.below (ptrans HBW.out hb)⟩ ⟨none, 0, rfl, fun h => absurd rfl h⟩ (by decide)
      show _ = Rp.val ⟨y.err, y.fd, y.ino, y.s0, y.s1, y.s2, y.s3, y.lst, y.dt⟩ y.la y.lc
      unfold Rp.val
      rw [hln])
     obtain ⟨bb, oo, hbo, _, hcy⟩ := HL.out.get hyj
     injection hbo with hbo
     injection hbo with hbo1 hbo2
     subst hbo1 hbo2
     have HYC := zz (show ∀ W', Below W.heap.size W W' → W'.cell? ⟨b, o + m * 18 + 9, none⟩ = some (.int .i64 y.err) ∧ W'.cell? ⟨b, o + m * 18 + 9 + 1, none⟩ = some (.int .i64 y.fd) ∧ W'.cell? ⟨b, o + m * 18 + 9 + 2, none⟩ = some (.int .u32 y.ino) ∧ W'.cell? ⟨b, o + m * 18 + 9 + 3, none⟩ = some (.int .u32 y.s0) ∧ W'.cell? ⟨b, o + m * 18 + 9 + 4, none⟩ = some (.int .u8 y.s1) ∧ W'.cell? ⟨b, o + m * 18 + 9 + 5, none⟩ = some (.int .i64 y.s2) ∧ W'.cell? ⟨b, o + m * 18 + 9 + 6, none⟩ = some (.int .u32 y.s3) ∧ W'.cell? ⟨b, o + m * 18 + 9 + 7, none⟩ = some (.slice y.la y.ln y.lc) ∧ W'.cell? ⟨b, o + m * 18 + 9 + 8, none⟩ = some (.string y.dt) from fun W' hb => by
      have hc := hcy W' (ptrans HBW.out hb)
      exact ⟨hc 9 _ rfl, hc 10 _ rfl, hc 11 _ rfl, hc 12 _ rfl, hc 13 _ rfl, hc 14 _ rfl, hc 15 _ rfl, hc 16 _ rfl, hc 17 _ rfl⟩)
     have HCH := zz (show ∀ W', Calls Tryz.prog 258 #[.int .u8 (a : Int)] W' fun e w' => e = .returned (.bool (changesB a)) ∧ W' = w' from fun W' => t_changesC a W')
     obtain ⟨al, hal⟩ : ∃ al, decide (y.rp = logRp) = al := ⟨_, rfl⟩
     obtain ⟨ch, hch⟩ : ∃ ch, changesB a = ch := ⟨_, rfl⟩
     obtain ⟨qq, hqq⟩ : ∃ qq, ((a : Int) == 13) = qq := ⟨_, rfl⟩
     rw [hal] at HAK hR
     rw [hch] at HCH hR
     rw [hqq] at hR
     have HQ13 := zz hqq
     clear hal hch hqq hcy hln hrd hyj hfy hm
     obtain ⟨yc, yk, yx, ye, yf, yi, y0, y1, y2, y3, yA, yn, ycp, yd, yl⟩ := y
     dsimp only at HAK HYC
     cases al with
     | false =>
      have HFR := zz (show r = false from hR.symm)
      clear hR
      go_wp2
      refine wp_region_rel RelB (phi [isV (.int .i64 (j : Int)), isV (.bool true), isV (.bool true), isV (.pointer (some ⟨Q, 0, none⟩)), isV (.pointer (some ⟨Q, 0, none⟩)), isV (.pointer (some ⟨Q, 1, none⟩)), isV (.slice (some ⟨b, o, none⟩) n c), isV (.int .i64 (i : Int)), isV (.int .i64 (j : Int)), isV (.int .i64 (m : Int)), isV (.pointer (some ⟨b, o + m * 18, none⟩)), isV (.pointer (some ⟨b, o + m * 18 + 9, none⟩)), isV (.agg #[.int .i64 ye, .int .i64 yf, .int .u32 yi, .int .u32 y0, .int .u8 y1, .int .i64 y2, .int .u32 y3, .slice yA yn ycp, .string yd]), isV (.agg #[.int .i64 270, .int .i64 0, .int .u32 0, .int .u32 0, .int .u8 0, .int .i64 0, .int .u32 0, .slice none 0 0, .string ⟨#[]⟩]), isV (.bool false), isV (.bool false), isV (.bool false), (fun _ _ => True), (fun _ _ => True), (fun _ _ => True), isV undef, (fun _ _ => True), (fun _ _ => True), (fun _ _ => True), (fun _ _ => True), isV (.bool false), isV (.bool false)]) (by kernel_rfl) (by kernel_rfl) (by kernel_rfl) (RelB.of (below_drew _)) (fun _ _ _ a b => a.trans b) ?_ ?_ ?_
      · refine stays_phiR ?_
        simp only [List.forall_mem_cons]
        exact ⟨kv, kv, kv, kv, kv, kv, kv, kv, kv, kv, kv, kv, kv, kv, kv, kv, kv, fun _ _ _ _ _ => trivial, fun _ _ _ _ _ => trivial, fun _ _ _ _ _ => trivial, kv, fun _ _ _ _ _ => trivial, fun _ _ _ _ _ => trivial, fun _ _ _ _ _ => trivial, fun _ _ _ _ _ => trivial, kv, kv, fun _ h => absurd h (by simp)⟩
      · refine ⟨?_, ?_, ?_, ?_, ?_, ?_, ?_, ?_, ?_, ?_, ?_, ?_, ?_, ?_, ?_, ?_, ?_, ?_, ?_, ?_, ?_, ?_, ?_, ?_, ?_, ?_, ?_, trivial⟩
        · refine opR_mk rfl fun aa W2 hB hp hq K hK => ?_
          have e7 : aa.tmps[7]?.getD undef = .int .i64 (j : Int) := hp 7 (by kernel_rfl)
          clear hp hq
          go_simp
          exact hK _ _ (RelB.refl _) rfl
        · refine opR_mk rfl fun aa W2 hB hp hq K hK => ?_
          have e16 : aa.tmps[16]?.getD undef = .int .i64 (j : Int) := hq 0 _ (by kernel_rfl) rfl
          clear hp hq
          go_simp
          exact hK _ _ (RelB.refl _) rfl
        · refine opR_mk rfl fun aa W2 hB hp hq K hK => ?_
          have e17 : aa.tmps[17]?.getD undef = .bool true := hq 1 _ (by kernel_rfl) rfl
          clear hp hq
          go_simp
          exact hK _ _ (RelB.refl _) rfl
        · refine opR_guard (j := 2) (d := 18) (c := true) rfl rfl (by kernel_rfl) rfl rfl (fun v W h => h) (fun _ => RelB.refl _) (fun hne => absurd rfl hne) fun hc aa W2 hB hp hq K hK => ?_
          have e3 : aa.tmps[3]?.getD undef = .pointer (some ⟨w.heap.size, 0, none⟩) := hp 3 (by kernel_rfl)
          have d1 := HD1.out W2 (ptrans HB3.out (relB_get hB))
          clear hp hq
          go_simp
          exact hK _ _ (RelB.refl _) rfl
        · refine opR_guard (j := 2) (d := 18) (c := true) rfl rfl (by kernel_rfl) rfl rfl (fun v W h => h) (fun _ => RelB.refl _) (fun hne => absurd rfl hne) fun hc aa W2 hB hp hq K hK => ?_
          have e19 : aa.tmps[19]?.getD undef = .pointer (some ⟨Q, 0, none⟩) := hq 3 _ (by kernel_rfl) rfl
          clear hp hq
          go_simp
          exact hK _ _ (RelB.refl _) rfl
        · refine opR_guard (j := 2) (d := 18) (c := true) rfl rfl (by kernel_rfl) rfl rfl (fun v W h => h) (fun _ => RelB.refl _) (fun hne => absurd rfl hne) fun hc aa W2 hB hp hq K hK => ?_
          have e20 : aa.tmps[20]?.getD undef = .pointer (some ⟨Q, 0, none⟩) := hq 4 _ (by kernel_rfl) rfl
          clear hp hq
          go_simp
          exact hK _ _ (RelB.refl _) rfl
        · refine opR_guard (j := 2) (d := 18) (c := true) rfl rfl (by kernel_rfl) rfl rfl (fun v W h => h) (fun _ => RelB.refl _) (fun hne => absurd rfl hne) fun hc aa W2 hB hp hq K hK => ?_
          have e21 : aa.tmps[21]?.getD undef = .pointer (some ⟨Q, 1, none⟩) := hq 5 _ (by kernel_rfl) rfl
          have d3 := HD3.out W2 (ptrans HB3.out (relB_get hB))
          clear hp hq
          go_simp
          exact hK _ _ (RelB.refl _) rfl
        · refine opR_guard (j := 2) (d := 18) (c := true) rfl rfl (by kernel_rfl) rfl rfl (fun v W h => h) (fun _ => RelB.refl _) (fun hne => absurd rfl hne) fun hc aa W2 hB hp hq K hK => ?_
          have e4 : aa.tmps[4]?.getD undef = .pointer (some ⟨w.heap.size + 1, 0, none⟩) := hp 4 (by kernel_rfl)
          have d2 := HD2.out W2 (ptrans HB3.out (relB_get hB))
          clear hp hq
          go_simp
          exact hK _ _ (RelB.refl _) rfl
        · refine opR_guard (j := 2) (d := 18) (c := true) rfl rfl (by kernel_rfl) rfl rfl (fun v W h => h) (fun _ => RelB.refl _) (fun hne => absurd rfl hne) fun hc aa W2 hB hp hq K hK => ?_
          have e7 : aa.tmps[7]?.getD undef = .int .i64 (j : Int) := hp 7 (by kernel_rfl)
          clear hp hq
          go_simp
          exact hK _ _ (RelB.refl _) rfl
        · refine opR_guard (j := 2) (d := 18) (c := true) rfl rfl (by kernel_rfl) rfl rfl (fun v W h => h) (fun _ => RelB.refl _) (fun hne => absurd rfl hne) fun hc aa W2 hB hp hq K hK => ?_
          have e23 : aa.tmps[23]?.getD undef = .int .i64 (i : Int) := hq 7 _ (by kernel_rfl) rfl
          have e24 : aa.tmps[24]?.getD undef = .int .i64 (j : Int) := hq 8 _ (by kernel_rfl) rfl
          clear hp hq
          go_simp
          refine hK _ _ (RelB.refl _) ?_
          show Value.int .i64 _ = Value.int .i64 _
          rw [HMC.out, IntWalk.i64_in _ (by omega)]
        · refine opR_guard (j := 2) (d := 18) (c := true) rfl rfl (by kernel_rfl) rfl rfl (fun v W h => h) (fun _ => RelB.refl _) (fun hne => absurd rfl hne) fun hc aa W2 hB hp hq K hK => ?_
          have e22 : aa.tmps[22]?.getD undef = .slice (some ⟨b, o, none⟩) n c := hq 6 _ (by kernel_rfl) rfl
          have e25 : aa.tmps[25]?.getD undef = .int .i64 (m : Int) := hq 9 _ (by kernel_rfl) rfl
          clear hp hq
          go_simp
          exact hK _ _ (RelB.refl _) rfl
        · refine opR_guard (j := 2) (d := 18) (c := true) rfl rfl (by kernel_rfl) rfl rfl (fun v W h => h) (fun _ => RelB.refl _) (fun hne => absurd rfl hne) fun hc aa W2 hB hp hq K hK => ?_
          have e26 : aa.tmps[26]?.getD undef = .pointer (some ⟨b, o + m * 18, none⟩) := hq 10 _ (by kernel_rfl) rfl
          clear hp hq
          go_simp
          exact hK _ _ (RelB.refl _) rfl
        · refine opR_guard (j := 2) (d := 18) (c := true) rfl rfl (by kernel_rfl) rfl rfl (fun v W h => h) (fun _ => RelB.refl _) (fun hne => absurd rfl hne) fun hc aa W2 hB hp hq K hK => ?_
          have e27 : aa.tmps[27]?.getD undef = .pointer (some ⟨b, o + m * 18 + 9, none⟩) := hq 11 _ (by kernel_rfl) rfl
          obtain ⟨z0, z1, z2, z3, z4, z5, z6, z7, z8⟩ := HYC.out W2 (ptrans HB3.out (relB_get hB))
          clear hp hq
          go_simp
          exact hK _ _ (RelB.refl _) rfl
        · refine opR_guard (j := 2) (d := 18) (c := true) rfl rfl (by kernel_rfl) rfl rfl (fun v W h => h) (fun _ => RelB.refl _) (fun hne => absurd rfl hne) fun hc aa W2 hB hp hq K hK => ?_
          clear hp hq
          go_simp
          exact hK _ _ (RelB.refl _) rfl
        · refine opR_guard (j := 2) (d := 18) (c := true) rfl rfl (by kernel_rfl) rfl rfl (fun v W h => h) (fun _ => RelB.refl _) (fun hne => absurd rfl hne) fun hc aa W2 hB hp hq K hK => ?_
          have e28 : aa.tmps[28]?.getD undef = .agg #[.int .i64 ye, .int .i64 yf, .int .u32 yi, .int .u32 y0, .int .u8 y1, .int .i64 y2, .int .u32 y3, .slice yA yn ycp, .string yd] := hq 12 _ (by kernel_rfl) rfl
          have e29 : aa.tmps[29]?.getD undef = .agg #[.int .i64 270, .int .i64 0, .int .u32 0, .int .u32 0, .int .u8 0, .int .i64 0, .int .u32 0, .slice none 0 0, .string ⟨#[]⟩] := hq 13 _ (by kernel_rfl) rfl
          clear hp hq
          go_simp
          go_at_call 219
          (with_reducible refine (HAK.out W2 (ptrans HB3.out (relB_get hB))).mono ?_)
          rintro e w5 ⟨rfl, hb5⟩
          exact hK _ _ (RelB.of hb5) rfl
        · refine opR_mk rfl fun aa W2 hB hp hq K hK => ?_
          have e18 : aa.tmps[18]?.getD undef = .bool true := hq 2 _ (by kernel_rfl) rfl
          have e30 : aa.tmps[30]?.getD undef = .bool false := hq 14 _ (by kernel_rfl) rfl
          clear hp hq
          go_simp
          exact hK _ _ (RelB.refl _) rfl
        · refine opR_mk rfl fun aa W2 hB hp hq K hK => ?_
          have e31 : aa.tmps[31]?.getD undef = .bool false := hq 15 _ (by kernel_rfl) rfl
          clear hp hq
          go_simp
          exact hK _ _ (RelB.refl _) rfl
        · exact opR_guard (j := 16) (d := 32) (c := false) rfl rfl (by kernel_rfl) rfl rfl (fun v W h => h) (fun _ => RelB.refl _) (fun _ _ => trivial) (fun hc => absurd hc (by decide))
        · exact opR_guard (j := 16) (d := 32) (c := false) rfl rfl (by kernel_rfl) rfl rfl (fun v W h => h) (fun _ => RelB.refl _) (fun _ _ => trivial) (fun hc => absurd hc (by decide))
        · exact opR_guard (j := 16) (d := 32) (c := false) rfl rfl (by kernel_rfl) rfl rfl (fun v W h => h) (fun _ => RelB.refl _) (fun _ _ => trivial) (fun hc => absurd hc (by decide))
        · exact opR_guard (j := 16) (d := 32) (c := false) rfl rfl (by kernel_rfl) rfl rfl (fun v W h => h) (fun _ => RelB.refl _) (fun _ _ => rfl) (fun hc => absurd hc (by decide))
        · exact opR_lostZ (j := 20) (d := 36) rfl rfl (by kernel_rfl) rfl rfl (fun v W h => h) (fun _ => RelB.refl _) (fun _ => trivial)
        · exact opR_lostZ (j := 20) (d := 36) rfl rfl (by kernel_rfl) rfl rfl (fun v W h => h) (fun _ => RelB.refl _) (fun _ => trivial)
        · exact opR_lostZ (j := 20) (d := 36) rfl rfl (by kernel_rfl) rfl rfl (fun v W h => h) (fun _ => RelB.refl _) (fun _ => trivial)
        · exact opR_guard (j := 16) (d := 32) (c := false) rfl rfl (by kernel_rfl) rfl rfl (fun v W h => h) (fun _ => RelB.refl _) (fun _ _ => trivial) (fun hc => absurd hc (by decide))
        · refine opR_mk rfl fun aa W2 hB hp hq K hK => ?_
          have e32 : aa.tmps[32]?.getD undef = .bool false := hq 16 _ (by kernel_rfl) rfl
          clear hp hq
          go_simp
          exact hK _ _ (RelB.refl _) rfl
        · refine opR_mk rfl fun aa W2 hB hp hq K hK => ?_
          have e41 : aa.tmps[41]?.getD undef = .bool false := hq 25 _ (by kernel_rfl) rfl
          clear hp hq
          go_simp
          exact hK _ _ (RelB.refl _) rfl
      · intro vs W3 hB3 hv3 _
        have v26 : vs 26 = .bool false := hv3 26 _ rfl rfl
        have HB4 := zz (relB_get hB3)
        simp only [putAll, Act.put, List.setIfInBounds_toArray, List.set_cons_succ, List.set_cons_zero, Nat.zero_add, Nat.reduceAdd]
        rw [v26]
        clear hB3 hv3 v26
        go_wp2
        go_ret
        exact ⟨by rw [HFR.out]; rfl, ptrans HBW.out (ptrans HB3.out HB4.out)⟩
     | true =>
      cases ch with
      | true =>
       have HFR := zz (show r = true from hR.symm)
       clear hR
       go_wp2
       refine wp_region_rel RelB (phi [isV (.int .i64 (j : Int)), isV (.bool true), isV (.bool true), isV (.pointer (some ⟨Q, 0, none⟩)), isV (.pointer (some ⟨Q, 0, none⟩)), isV (.pointer (some ⟨Q, 1, none⟩)), isV (.slice (some ⟨b, o, none⟩) n c), isV (.int .i64 (i : Int)), isV (.int .i64 (j : Int)), isV (.int .i64 (m : Int)), isV (.pointer (some ⟨b, o + m * 18, none⟩)), isV (.pointer (some ⟨b, o + m * 18 + 9, none⟩)), isV (.agg #[.int .i64 ye, .int .i64 yf, .int .u32 yi, .int .u32 y0, .int .u8 y1, .int .i64 y2, .int .u32 y3, .slice yA yn ycp, .string yd]), isV (.agg #[.int .i64 270, .int .i64 0, .int .u32 0, .int .u32 0, .int .u8 0, .int .i64 0, .int .u32 0, .slice none 0 0, .string ⟨#[]⟩]), isV (.bool true), isV (.bool true), isV (.bool true), isV (.pointer (some ⟨w.heap.size + 1 + 1, 0, none⟩)), isV (.int .u8 (a : Int)), isV (.bool true), isV (.bool true), (fun _ _ => True), (fun _ _ => True), (fun _ _ => True), isV (.bool true), isV (.bool true), isV (.bool true)]) (by kernel_rfl) (by kernel_rfl) (by kernel_rfl) (RelB.of (below_drew _)) (fun _ _ _ a b => a.trans b) ?_ ?_ ?_
       · refine stays_phiR ?_
         simp only [List.forall_mem_cons]
         exact ⟨kv, kv, kv, kv, kv, kv, kv, kv, kv, kv, kv, kv, kv, kv, kv, kv, kv, kv, kv, kv, kv, fun _ _ _ _ _ => trivial, fun _ _ _ _ _ => trivial, fun _ _ _ _ _ => trivial, kv, kv, kv, fun _ h => absurd h (by simp)⟩
       · refine ⟨?_, ?_, ?_, ?_, ?_, ?_, ?_, ?_, ?_, ?_, ?_, ?_, ?_, ?_, ?_, ?_, ?_, ?_, ?_, ?_, ?_, ?_, ?_, ?_, ?_, ?_, ?_, trivial⟩
         · refine opR_mk rfl fun aa W2 hB hp hq K hK => ?_
           have e7 : aa.tmps[7]?.getD undef = .int .i64 (j : Int) := hp 7 (by kernel_rfl)
           clear hp hq
           go_simp
           exact hK _ _ (RelB.refl _) rfl
         · refine opR_mk rfl fun aa W2 hB hp hq K hK => ?_
           have e16 : aa.tmps[16]?.getD undef = .int .i64 (j : Int) := hq 0 _ (by kernel_rfl) rfl
           clear hp hq
           go_simp
           exact hK _ _ (RelB.refl _) rfl
         · refine opR_mk rfl fun aa W2 hB hp hq K hK => ?_
           have e17 : aa.tmps[17]?.getD undef = .bool true := hq 1 _ (by kernel_rfl) rfl
           clear hp hq
           go_simp
           exact hK _ _ (RelB.refl _) rfl
         · refine opR_guard (j := 2) (d := 18) (c := true) rfl rfl (by kernel_rfl) rfl rfl (fun v W h => h) (fun _ => RelB.refl _) (fun hne => absurd rfl hne) fun hc aa W2 hB hp hq K hK => ?_
           have e3 : aa.tmps[3]?.getD undef = .pointer (some ⟨w.heap.size, 0, none⟩) := hp 3 (by kernel_rfl)
           have d1 := HD1.out W2 (ptrans HB3.out (relB_get hB))
           clear hp hq
           go_simp
           exact hK _ _ (RelB.refl _) rfl
         · refine opR_guard (j := 2) (d := 18) (c := true) rfl rfl (by kernel_rfl) rfl rfl (fun v W h => h) (fun _ => RelB.refl _) (fun hne => absurd rfl hne) fun hc aa W2 hB hp hq K hK => ?_
           have e19 : aa.tmps[19]?.getD undef = .pointer (some ⟨Q, 0, none⟩) := hq 3 _ (by kernel_rfl) rfl
           clear hp hq
           go_simp
           exact hK _ _ (RelB.refl _) rfl
         · refine opR_guard (j := 2) (d := 18) (c := true) rfl rfl (by kernel_rfl) rfl rfl (fun v W h => h) (fun _ => RelB.refl _) (fun hne => absurd rfl hne) fun hc aa W2 hB hp hq K hK => ?_
           have e20 : aa.tmps[20]?.getD undef = .pointer (some ⟨Q, 0, none⟩) := hq 4 _ (by kernel_rfl) rfl
           clear hp hq
           go_simp
           exact hK _ _ (RelB.refl _) rfl
         · refine opR_guard (j := 2) (d := 18) (c := true) rfl rfl (by kernel_rfl) rfl rfl (fun v W h => h) (fun _ => RelB.refl _) (fun hne => absurd rfl hne) fun hc aa W2 hB hp hq K hK => ?_
           have e21 : aa.tmps[21]?.getD undef = .pointer (some ⟨Q, 1, none⟩) := hq 5 _ (by kernel_rfl) rfl
           have d3 := HD3.out W2 (ptrans HB3.out (relB_get hB))
           clear hp hq
           go_simp
           exact hK _ _ (RelB.refl _) rfl
         · refine opR_guard (j := 2) (d := 18) (c := true) rfl rfl (by kernel_rfl) rfl rfl (fun v W h => h) (fun _ => RelB.refl _) (fun hne => absurd rfl hne) fun hc aa W2 hB hp hq K hK => ?_
           have e4 : aa.tmps[4]?.getD undef = .pointer (some ⟨w.heap.size + 1, 0, none⟩) := hp 4 (by kernel_rfl)
           have d2 := HD2.out W2 (ptrans HB3.out (relB_get hB))
           clear hp hq
           go_simp
           exact hK _ _ (RelB.refl _) rfl
         · refine opR_guard (j := 2) (d := 18) (c := true) rfl rfl (by kernel_rfl) rfl rfl (fun v W h => h) (fun _ => RelB.refl _) (fun hne => absurd rfl hne) fun hc aa W2 hB hp hq K hK => ?_
           have e7 : aa.tmps[7]?.getD undef = .int .i64 (j : Int) := hp 7 (by kernel_rfl)
           clear hp hq
           go_simp
           exact hK _ _ (RelB.refl _) rfl
         · refine opR_guard (j := 2) (d := 18) (c := true) rfl rfl (by kernel_rfl) rfl rfl (fun v W h => h) (fun _ => RelB.refl _) (fun hne => absurd rfl hne) fun hc aa W2 hB hp hq K hK => ?_
           have e23 : aa.tmps[23]?.getD undef = .int .i64 (i : Int) := hq 7 _ (by kernel_rfl) rfl
           have e24 : aa.tmps[24]?.getD undef = .int .i64 (j : Int) := hq 8 _ (by kernel_rfl) rfl
           clear hp hq
           go_simp
           refine hK _ _ (RelB.refl _) ?_
           show Value.int .i64 _ = Value.int .i64 _
           rw [HMC.out, IntWalk.i64_in _ (by omega)]
         · refine opR_guard (j := 2) (d := 18) (c := true) rfl rfl (by kernel_rfl) rfl rfl (fun v W h => h) (fun _ => RelB.refl _) (fun hne => absurd rfl hne) fun hc aa W2 hB hp hq K hK => ?_
           have e22 : aa.tmps[22]?.getD undef = .slice (some ⟨b, o, none⟩) n c := hq 6 _ (by kernel_rfl) rfl
           have e25 : aa.tmps[25]?.getD undef = .int .i64 (m : Int) := hq 9 _ (by kernel_rfl) rfl
           clear hp hq
           go_simp
           exact hK _ _ (RelB.refl _) rfl
         · refine opR_guard (j := 2) (d := 18) (c := true) rfl rfl (by kernel_rfl) rfl rfl (fun v W h => h) (fun _ => RelB.refl _) (fun hne => absurd rfl hne) fun hc aa W2 hB hp hq K hK => ?_
           have e26 : aa.tmps[26]?.getD undef = .pointer (some ⟨b, o + m * 18, none⟩) := hq 10 _ (by kernel_rfl) rfl
           clear hp hq
           go_simp
           exact hK _ _ (RelB.refl _) rfl
         · refine opR_guard (j := 2) (d := 18) (c := true) rfl rfl (by kernel_rfl) rfl rfl (fun v W h => h) (fun _ => RelB.refl _) (fun hne => absurd rfl hne) fun hc aa W2 hB hp hq K hK => ?_
           have e27 : aa.tmps[27]?.getD undef = .pointer (some ⟨b, o + m * 18 + 9, none⟩) := hq 11 _ (by kernel_rfl) rfl
           obtain ⟨z0, z1, z2, z3, z4, z5, z6, z7, z8⟩ := HYC.out W2 (ptrans HB3.out (relB_get hB))
           clear hp hq
           go_simp
           exact hK _ _ (RelB.refl _) rfl
         · refine opR_guard (j := 2) (d := 18) (c := true) rfl rfl (by kernel_rfl) rfl rfl (fun v W h => h) (fun _ => RelB.refl _) (fun hne => absurd rfl hne) fun hc aa W2 hB hp hq K hK => ?_
           clear hp hq
           go_simp
           exact hK _ _ (RelB.refl _) rfl
         · refine opR_guard (j := 2) (d := 18) (c := true) rfl rfl (by kernel_rfl) rfl rfl (fun v W h => h) (fun _ => RelB.refl _) (fun hne => absurd rfl hne) fun hc aa W2 hB hp hq K hK => ?_
           have e28 : aa.tmps[28]?.getD undef = .agg #[.int .i64 ye, .int .i64 yf, .int .u32 yi, .int .u32 y0, .int .u8 y1, .int .i64 y2, .int .u32 y3, .slice yA yn ycp, .string yd] := hq 12 _ (by kernel_rfl) rfl
           have e29 : aa.tmps[29]?.getD undef = .agg #[.int .i64 270, .int .i64 0, .int .u32 0, .int .u32 0, .int .u8 0, .int .i64 0, .int .u32 0, .slice none 0 0, .string ⟨#[]⟩] := hq 13 _ (by kernel_rfl) rfl
           clear hp hq
           go_simp
           go_at_call 219
           (with_reducible refine (HAK.out W2 (ptrans HB3.out (relB_get hB))).mono ?_)
           rintro e w5 ⟨rfl, hb5⟩
           exact hK _ _ (RelB.of hb5) rfl
         · refine opR_mk rfl fun aa W2 hB hp hq K hK => ?_
           have e18 : aa.tmps[18]?.getD undef = .bool true := hq 2 _ (by kernel_rfl) rfl
           have e30 : aa.tmps[30]?.getD undef = .bool true := hq 14 _ (by kernel_rfl) rfl
           clear hp hq
           go_simp
           exact hK _ _ (RelB.refl _) rfl
         · refine opR_mk rfl fun aa W2 hB hp hq K hK => ?_
           have e31 : aa.tmps[31]?.getD undef = .bool true := hq 15 _ (by kernel_rfl) rfl
           clear hp hq
           go_simp
           exact hK _ _ (RelB.refl _) rfl
         · refine opR_guard (j := 16) (d := 32) (c := true) rfl rfl (by kernel_rfl) rfl rfl (fun v W h => h) (fun _ => RelB.refl _) (fun hne => absurd rfl hne) fun hc aa W2 hB hp hq K hK => ?_
           have e5 : aa.tmps[5]?.getD undef = .pointer (some ⟨w.heap.size + 1 + 1, 0, none⟩) := hp 5 (by kernel_rfl)
           clear hp hq
           go_simp
           exact hK _ _ (RelB.refl _) rfl
         · refine opR_guard (j := 16) (d := 32) (c := true) rfl rfl (by kernel_rfl) rfl rfl (fun v W h => h) (fun _ => RelB.refl _) (fun hne => absurd rfl hne) fun hc aa W2 hB hp hq K hK => ?_
           have e33 : aa.tmps[33]?.getD undef = .pointer (some ⟨w.heap.size + 1 + 1, 0, none⟩) := hq 17 _ (by kernel_rfl) rfl
           have d4 := HXA.out W2 (ptrans HB3.out (relB_get hB))
           clear hp hq
           go_simp
           exact hK _ _ (RelB.refl _) rfl
         · refine opR_guard (j := 16) (d := 32) (c := true) rfl rfl (by kernel_rfl) rfl rfl (fun v W h => h) (fun _ => RelB.refl _) (fun hne => absurd rfl hne) fun hc aa W2 hB hp hq K hK => ?_
           have e34 : aa.tmps[34]?.getD undef = .int .u8 (a : Int) := hq 18 _ (by kernel_rfl) rfl
           clear hp hq
           go_simp
           go_at_call 258
           (with_reducible refine (HCH.out W2).mono ?_)
           rintro e w5 ⟨rfl, rfl⟩
           exact hK _ _ (RelB.refl _) rfl
         · refine opR_guard (j := 16) (d := 32) (c := true) rfl rfl (by kernel_rfl) rfl rfl (fun v W h => h) (fun _ => RelB.refl _) (fun hne => absurd rfl hne) fun hc aa W2 hB hp hq K hK => ?_
           have e35 : aa.tmps[35]?.getD undef = .bool true := hq 19 _ (by kernel_rfl) rfl
           clear hp hq
           go_simp
           exact hK _ _ (RelB.refl _) rfl
         · exact opR_guard (j := 20) (d := 36) (c := true) rfl rfl (by kernel_rfl) rfl rfl (fun v W h => h) (fun _ => RelB.refl _) (fun _ _ => trivial) (fun hc => absurd hc (by decide))
         · exact opR_guard (j := 20) (d := 36) (c := true) rfl rfl (by kernel_rfl) rfl rfl (fun v W h => h) (fun _ => RelB.refl _) (fun _ _ => trivial) (fun hc => absurd hc (by decide))
         · exact opR_guard (j := 20) (d := 36) (c := true) rfl rfl (by kernel_rfl) rfl rfl (fun v W h => h) (fun _ => RelB.refl _) (fun _ _ => trivial) (fun hc => absurd hc (by decide))
         · refine opR_guard (j := 16) (d := 32) (c := true) rfl rfl (by kernel_rfl) rfl rfl (fun v W h => h) (fun _ => RelB.refl _) (fun hne => absurd rfl hne) fun hc aa W2 hB hp hq K hK => ?_
           have e36 : aa.tmps[36]?.getD undef = .bool true := hq 20 _ (by kernel_rfl) rfl
           clear hp hq
           go_simp
           exact hK _ _ (RelB.refl _) rfl
         · refine opR_mk rfl fun aa W2 hB hp hq K hK => ?_
           have e32 : aa.tmps[32]?.getD undef = .bool true := hq 16 _ (by kernel_rfl) rfl
           have e40 : aa.tmps[40]?.getD undef = .bool true := hq 24 _ (by kernel_rfl) rfl
           clear hp hq
           go_simp
           exact hK _ _ (RelB.refl _) rfl
         · refine opR_mk rfl fun aa W2 hB hp hq K hK => ?_
           have e41 : aa.tmps[41]?.getD undef = .bool true := hq 25 _ (by kernel_rfl) rfl
           clear hp hq
           go_simp
           exact hK _ _ (RelB.refl _) rfl
       · intro vs W3 hB3 hv3 _
         have v26 : vs 26 = .bool true := hv3 26 _ rfl rfl
         have HB4 := zz (relB_get hB3)
         simp only [putAll, Act.put, List.setIfInBounds_toArray, List.set_cons_succ, List.set_cons_zero, Nat.zero_add, Nat.reduceAdd]
         rw [v26]
         clear hB3 hv3 v26
         go_wp2
         go_ret
         exact ⟨by rw [HFR.out]; rfl, ptrans HBW.out (ptrans HB3.out HB4.out)⟩
      | false =>
       have HFR := zz (show r = qq from hR.symm)
       clear hR
       go_wp2
       refine wp_region_rel RelB (phi [isV (.int .i64 (j : Int)), isV (.bool true), isV (.bool true), isV (.pointer (some ⟨Q, 0, none⟩)), isV (.pointer (some ⟨Q, 0, none⟩)), isV (.pointer (some ⟨Q, 1, none⟩)), isV (.slice (some ⟨b, o, none⟩) n c), isV (.int .i64 (i : Int)), isV (.int .i64 (j : Int)), isV (.int .i64 (m : Int)), isV (.pointer (some ⟨b, o + m * 18, none⟩)), isV (.pointer (some ⟨b, o + m * 18 + 9, none⟩)), isV (.agg #[.int .i64 ye, .int .i64 yf, .int .u32 yi, .int .u32 y0, .int .u8 y1, .int .i64 y2, .int .u32 y3, .slice yA yn ycp, .string yd]), isV (.agg #[.int .i64 270, .int .i64 0, .int .u32 0, .int .u32 0, .int .u8 0, .int .i64 0, .int .u32 0, .slice none 0 0, .string ⟨#[]⟩]), isV (.bool true), isV (.bool true), isV (.bool true), isV (.pointer (some ⟨w.heap.size + 1 + 1, 0, none⟩)), isV (.int .u8 (a : Int)), isV (.bool false), isV (.bool false), isV (.pointer (some ⟨w.heap.size + 1 + 1, 0, none⟩)), isV (.int .u8 (a : Int)), isV (.bool qq), isV (.bool qq), isV (.bool qq), isV (.bool qq)]) (by kernel_rfl) (by kernel_rfl) (by kernel_rfl) (RelB.of (below_drew _)) (fun _ _ _ a b => a.trans b) ?_ ?_ ?_
       · refine stays_phiR ?_
         simp only [List.forall_mem_cons]
         exact ⟨kv, kv, kv, kv, kv, kv, kv, kv, kv, kv, kv, kv, kv, kv, kv, kv, kv, kv, kv, kv, kv, kv, kv, kv, kv, kv, kv, fun _ h => absurd h (by simp)⟩
       · refine ⟨?_, ?_, ?_, ?_, ?_, ?_, ?_, ?_, ?_, ?_, ?_, ?_, ?_, ?_, ?_, ?_, ?_, ?_, ?_, ?_, ?_, ?_, ?_, ?_, ?_, ?_, ?_, trivial⟩
         · refine opR_mk rfl fun aa W2 hB hp hq K hK => ?_
           have e7 : aa.tmps[7]?.getD undef = .int .i64 (j : Int) := hp 7 (by kernel_rfl)
           clear hp hq
           go_simp
           exact hK _ _ (RelB.refl _) rfl
         · refine opR_mk rfl fun aa W2 hB hp hq K hK => ?_
           have e16 : aa.tmps[16]?.getD undef = .int .i64 (j : Int) := hq 0 _ (by kernel_rfl) rfl
           clear hp hq
           go_simp
           exact hK _ _ (RelB.refl _) rfl
         · refine opR_mk rfl fun aa W2 hB hp hq K hK => ?_
           have e17 : aa.tmps[17]?.getD undef = .bool true := hq 1 _ (by kernel_rfl) rfl
           clear hp hq
           go_simp
           exact hK _ _ (RelB.refl _) rfl
         · refine opR_guard (j := 2) (d := 18) (c := true) rfl rfl (by kernel_rfl) rfl rfl (fun v W h => h) (fun _ => RelB.refl _) (fun hne => absurd rfl hne) fun hc aa W2 hB hp hq K hK => ?_
           have e3 : aa.tmps[3]?.getD undef = .pointer (some ⟨w.heap.size, 0, none⟩) := hp 3 (by kernel_rfl)
           have d1 := HD1.out W2 (ptrans HB3.out (relB_get hB))
           clear hp hq
           go_simp
           exact hK _ _ (RelB.refl _) rfl
         · refine opR_guard (j := 2) (d := 18) (c := true) rfl rfl (by kernel_rfl) rfl rfl (fun v W h => h) (fun _ => RelB.refl _) (fun hne => absurd rfl hne) fun hc aa W2 hB hp hq K hK => ?_
           have e19 : aa.tmps[19]?.getD undef = .pointer (some ⟨Q, 0, none⟩) := hq 3 _ (by kernel_rfl) rfl
           clear hp hq
           go_simp
           exact hK _ _ (RelB.refl _) rfl
         · refine opR_guard (j := 2) (d := 18) (c := true) rfl rfl (by kernel_rfl) rfl rfl (fun v W h => h) (fun _ => RelB.refl _) (fun hne => absurd rfl hne) fun hc aa W2 hB hp hq K hK => ?_
           have e20 : aa.tmps[20]?.getD undef = .pointer (some ⟨Q, 0, none⟩) := hq 4 _ (by kernel_rfl) rfl
           clear hp hq
           go_simp
           exact hK _ _ (RelB.refl _) rfl
         · refine opR_guard (j := 2) (d := 18) (c := true) rfl rfl (by kernel_rfl) rfl rfl (fun v W h => h) (fun _ => RelB.refl _) (fun hne => absurd rfl hne) fun hc aa W2 hB hp hq K hK => ?_
           have e21 : aa.tmps[21]?.getD undef = .pointer (some ⟨Q, 1, none⟩) := hq 5 _ (by kernel_rfl) rfl
           have d3 := HD3.out W2 (ptrans HB3.out (relB_get hB))
           clear hp hq
           go_simp
           exact hK _ _ (RelB.refl _) rfl
         · refine opR_guard (j := 2) (d := 18) (c := true) rfl rfl (by kernel_rfl) rfl rfl (fun v W h => h) (fun _ => RelB.refl _) (fun hne => absurd rfl hne) fun hc aa W2 hB hp hq K hK => ?_
           have e4 : aa.tmps[4]?.getD undef = .pointer (some ⟨w.heap.size + 1, 0, none⟩) := hp 4 (by kernel_rfl)
           have d2 := HD2.out W2 (ptrans HB3.out (relB_get hB))
           clear hp hq
           go_simp
           exact hK _ _ (RelB.refl _) rfl
         · refine opR_guard (j := 2) (d := 18) (c := true) rfl rfl (by kernel_rfl) rfl rfl (fun v W h => h) (fun _ => RelB.refl _) (fun hne => absurd rfl hne) fun hc aa W2 hB hp hq K hK => ?_
           have e7 : aa.tmps[7]?.getD undef = .int .i64 (j : Int) := hp 7 (by kernel_rfl)
           clear hp hq
           go_simp
           exact hK _ _ (RelB.refl _) rfl
         · refine opR_guard (j := 2) (d := 18) (c := true) rfl rfl (by kernel_rfl) rfl rfl (fun v W h => h) (fun _ => RelB.refl _) (fun hne => absurd rfl hne) fun hc aa W2 hB hp hq K hK => ?_
           have e23 : aa.tmps[23]?.getD undef = .int .i64 (i : Int) := hq 7 _ (by kernel_rfl) rfl
           have e24 : aa.tmps[24]?.getD undef = .int .i64 (j : Int) := hq 8 _ (by kernel_rfl) rfl
           clear hp hq
           go_simp
           refine hK _ _ (RelB.refl _) ?_
           show Value.int .i64 _ = Value.int .i64 _
           rw [HMC.out, IntWalk.i64_in _ (by omega)]
         · refine opR_guard (j := 2) (d := 18) (c := true) rfl rfl (by kernel_rfl) rfl rfl (fun v W h => h) (fun _ => RelB.refl _) (fun hne => absurd rfl hne) fun hc aa W2 hB hp hq K hK => ?_
           have e22 : aa.tmps[22]?.getD undef = .slice (some ⟨b, o, none⟩) n c := hq 6 _ (by kernel_rfl) rfl
           have e25 : aa.tmps[25]?.getD undef = .int .i64 (m : Int) := hq 9 _ (by kernel_rfl) rfl
           clear hp hq
           go_simp
           exact hK _ _ (RelB.refl _) rfl
         · refine opR_guard (j := 2) (d := 18) (c := true) rfl rfl (by kernel_rfl) rfl rfl (fun v W h => h) (fun _ => RelB.refl _) (fun hne => absurd rfl hne) fun hc aa W2 hB hp hq K hK => ?_
           have e26 : aa.tmps[26]?.getD undef = .pointer (some ⟨b, o + m * 18, none⟩) := hq 10 _ (by kernel_rfl) rfl
           clear hp hq
           go_simp
           exact hK _ _ (RelB.refl _) rfl
         · refine opR_guard (j := 2) (d := 18) (c := true) rfl rfl (by kernel_rfl) rfl rfl (fun v W h => h) (fun _ => RelB.refl _) (fun hne => absurd rfl hne) fun hc aa W2 hB hp hq K hK => ?_
           have e27 : aa.tmps[27]?.getD undef = .pointer (some ⟨b, o + m * 18 + 9, none⟩) := hq 11 _ (by kernel_rfl) rfl
           obtain ⟨z0, z1, z2, z3, z4, z5, z6, z7, z8⟩ := HYC.out W2 (ptrans HB3.out (relB_get hB))
           clear hp hq
           go_simp
           exact hK _ _ (RelB.refl _) rfl
         · refine opR_guard (j := 2) (d := 18) (c := true) rfl rfl (by kernel_rfl) rfl rfl (fun v W h => h) (fun _ => RelB.refl _) (fun hne => absurd rfl hne) fun hc aa W2 hB hp hq K hK => ?_
           clear hp hq
           go_simp
           exact hK _ _ (RelB.refl _) rfl
         · refine opR_guard (j := 2) (d := 18) (c := true) rfl rfl (by kernel_rfl) rfl rfl (fun v W h => h) (fun _ => RelB.refl _) (fun hne => absurd rfl hne) fun hc aa W2 hB hp hq K hK => ?_
           have e28 : aa.tmps[28]?.getD undef = .agg #[.int .i64 ye, .int .i64 yf, .int .u32 yi, .int .u32 y0, .int .u8 y1, .int .i64 y2, .int .u32 y3, .slice yA yn ycp, .string yd] := hq 12 _ (by kernel_rfl) rfl
           have e29 : aa.tmps[29]?.getD undef = .agg #[.int .i64 270, .int .i64 0, .int .u32 0, .int .u32 0, .int .u8 0, .int .i64 0, .int .u32 0, .slice none 0 0, .string ⟨#[]⟩] := hq 13 _ (by kernel_rfl) rfl
           clear hp hq
           go_simp
           go_at_call 219
           (with_reducible refine (HAK.out W2 (ptrans HB3.out (relB_get hB))).mono ?_)
           rintro e w5 ⟨rfl, hb5⟩
           exact hK _ _ (RelB.of hb5) rfl
         · refine opR_mk rfl fun aa W2 hB hp hq K hK => ?_
           have e18 : aa.tmps[18]?.getD undef = .bool true := hq 2 _ (by kernel_rfl) rfl
           have e30 : aa.tmps[30]?.getD undef = .bool true := hq 14 _ (by kernel_rfl) rfl
           clear hp hq
           go_simp
           exact hK _ _ (RelB.refl _) rfl
         · refine opR_mk rfl fun aa W2 hB hp hq K hK => ?_
           have e31 : aa.tmps[31]?.getD undef = .bool true := hq 15 _ (by kernel_rfl) rfl
           clear hp hq
           go_simp
           exact hK _ _ (RelB.refl _) rfl
         · refine opR_guard (j := 16) (d := 32) (c := true) rfl rfl (by kernel_rfl) rfl rfl (fun v W h => h) (fun _ => RelB.refl _) (fun hne => absurd rfl hne) fun hc aa W2 hB hp hq K hK => ?_
           have e5 : aa.tmps[5]?.getD undef = .pointer (some ⟨w.heap.size + 1 + 1, 0, none⟩) := hp 5 (by kernel_rfl)
           clear hp hq
           go_simp
           exact hK _ _ (RelB.refl _) rfl
         · refine opR_guard (j := 16) (d := 32) (c := true) rfl rfl (by kernel_rfl) rfl rfl (fun v W h => h) (fun _ => RelB.refl _) (fun hne => absurd rfl hne) fun hc aa W2 hB hp hq K hK => ?_
           have e33 : aa.tmps[33]?.getD undef = .pointer (some ⟨w.heap.size + 1 + 1, 0, none⟩) := hq 17 _ (by kernel_rfl) rfl
           have d4 := HXA.out W2 (ptrans HB3.out (relB_get hB))
           clear hp hq
           go_simp
           exact hK _ _ (RelB.refl _) rfl
         · refine opR_guard (j := 16) (d := 32) (c := true) rfl rfl (by kernel_rfl) rfl rfl (fun v W h => h) (fun _ => RelB.refl _) (fun hne => absurd rfl hne) fun hc aa W2 hB hp hq K hK => ?_
           have e34 : aa.tmps[34]?.getD undef = .int .u8 (a : Int) := hq 18 _ (by kernel_rfl) rfl
           clear hp hq
           go_simp
           go_at_call 258
           (with_reducible refine (HCH.out W2).mono ?_)
           rintro e w5 ⟨rfl, rfl⟩
           exact hK _ _ (RelB.refl _) rfl
         · refine opR_guard (j := 16) (d := 32) (c := true) rfl rfl (by kernel_rfl) rfl rfl (fun v W h => h) (fun _ => RelB.refl _) (fun hne => absurd rfl hne) fun hc aa W2 hB hp hq K hK => ?_
           have e35 : aa.tmps[35]?.getD undef = .bool false := hq 19 _ (by kernel_rfl) rfl
           clear hp hq
           go_simp
           exact hK _ _ (RelB.refl _) rfl
         · refine opR_guard (j := 20) (d := 36) (c := false) rfl rfl (by kernel_rfl) rfl rfl (fun v W h => h) (fun _ => RelB.refl _) (fun hne => absurd rfl hne) fun hc aa W2 hB hp hq K hK => ?_
           have e5 : aa.tmps[5]?.getD undef = .pointer (some ⟨w.heap.size + 1 + 1, 0, none⟩) := hp 5 (by kernel_rfl)
           clear hp hq
           go_simp
           exact hK _ _ (RelB.refl _) rfl
         · refine opR_guard (j := 20) (d := 36) (c := false) rfl rfl (by kernel_rfl) rfl rfl (fun v W h => h) (fun _ => RelB.refl _) (fun hne => absurd rfl hne) fun hc aa W2 hB hp hq K hK => ?_
           have e37 : aa.tmps[37]?.getD undef = .pointer (some ⟨w.heap.size + 1 + 1, 0, none⟩) := hq 21 _ (by kernel_rfl) rfl
           have d4 := HXA.out W2 (ptrans HB3.out (relB_get hB))
           clear hp hq
           go_simp
           exact hK _ _ (RelB.refl _) rfl
         · refine opR_guard (j := 20) (d := 36) (c := false) rfl rfl (by kernel_rfl) rfl rfl (fun v W h => h) (fun _ => RelB.refl _) (fun hne => absurd rfl hne) fun hc aa W2 hB hp hq K hK => ?_
           have e38 : aa.tmps[38]?.getD undef = .int .u8 (a : Int) := hq 22 _ (by kernel_rfl) rfl
           have hqq := HQ13.out
           clear hp hq
           go_simp
           exact hK _ _ (RelB.refl _) rfl
         · refine opR_guard (j := 16) (d := 32) (c := true) rfl rfl (by kernel_rfl) rfl rfl (fun v W h => h) (fun _ => RelB.refl _) (fun hne => absurd rfl hne) fun hc aa W2 hB hp hq K hK => ?_
           have e36 : aa.tmps[36]?.getD undef = .bool false := hq 20 _ (by kernel_rfl) rfl
           have e39 : aa.tmps[39]?.getD undef = .bool qq := hq 23 _ (by kernel_rfl) rfl
           clear hp hq
           go_simp
           exact hK _ _ (RelB.refl _) rfl
         · refine opR_mk rfl fun aa W2 hB hp hq K hK => ?_
           have e32 : aa.tmps[32]?.getD undef = .bool true := hq 16 _ (by kernel_rfl) rfl
           have e40 : aa.tmps[40]?.getD undef = .bool qq := hq 24 _ (by kernel_rfl) rfl
           clear hp hq
           go_simp
           exact hK _ _ (RelB.refl _) rfl
         · refine opR_mk rfl fun aa W2 hB hp hq K hK => ?_
           have e41 : aa.tmps[41]?.getD undef = .bool qq := hq 25 _ (by kernel_rfl) rfl
           clear hp hq
           go_simp
           exact hK _ _ (RelB.refl _) rfl
       · intro vs W3 hB3 hv3 _
         have v26 : vs 26 = .bool qq := hv3 26 _ rfl rfl
         have HB4 := zz (relB_get hB3)
         simp only [putAll, Act.put, List.setIfInBounds_toArray, List.set_cons_succ, List.set_cons_zero, Nat.zero_add, Nat.reduceAdd]
         rw [v26]
         clear hB3 hv3 v26
         go_wp2
         go_ret
         exact ⟨by rw [HFR.out]; rfl, ptrans HBW.out (ptrans HB3.out HB4.out)⟩
end
end Go.Proofs.YtpcnolkdnmolgaaGreatDoor
