/- Records, played on the program's tree: each kind, walked. -/
import Derived.Test.YtogljgiefmfafaaGreatPd10
import Derived.Test.YtogljgiefmfafaaGreatPd13
import Derived.Test.YtogljgiefmfafaaGreatPd18
namespace Go.Proofs.YtogljgiefmfafaaGreat
open Go.RowKit Go.Maps
abbrev cellsA (P : Nat) (r : R) : Array Value := #[.pointer (some ⟨P, 0, none⟩), .int .u64 r.stamp, .int .u8 r.act, .int .u32 r.dir, .string r.name, .int .u32 r.ino, .int .u8 r.kind, .int .u32 r.dir2, .string r.name2, .int .u32 r.old, .int .u32 r.size, .int .i64 r.page, .string r.data]
def actV (P : Nat) (r : R) : Value := .agg #[.pointer (some ⟨P, 0, none⟩), .int .u64 r.stamp, .int .u8 r.act, .int .u32 r.dir, .string r.name, .int .u32 r.ino, .int .u8 r.kind, .int .u32 r.dir2, .string r.name2, .int .u32 r.old, .int .u32 r.size, .int .i64 r.page, .string r.data]
structure R.Texts (r : R) : Prop where
 ok : r.Ok
 name : r.name.size ≤ maxLen
 name2 : r.name2.size ≤ maxLen
 data : r.data.size ≤ maxLen
section
variable {F F1 : Nat → Prop} {P N N1 : Nat} {y : Lay} {t t1 : PT} {w w0 w1 w2 : World}
def ActPost (w : World) (F : Nat → Prop) (P N : Nat) (a : Int) (t' : PT) (e : Ending) (w' : World) : Prop := e = .returned (.int .i64 a) ∧ Became w w' F P (N + 2) t'
theorem Became.front (h : Below w.heap.size w w0) (hb : Became w0 w1 F P N t1) : Became w w1 F P N t1 := by
 obtain ⟨y', F', hT, hu⟩ := hb
 exact ⟨y', F', hT, (Turn.of_below F h).trans hu⟩
theorem Became.most (hb : Became w w1 F P N t1) (h : N ≤ N1) : Became w w1 F P N1 t1 := by
 obtain ⟨y', F', hT, hu⟩ := hb
 exact ⟨y', F', hT.mono h, hu⟩
theorem Became.same (h : TreeM w F P N y t) (hb : Below w.heap.size w w1) : Became w w1 F P N t := ⟨y, F, h.below hb, Turn.of_below F hb⟩
theorem Became.block (hb : Became w w1 F P N t1) {B : Nat} {o : Obj} (h : w.heap[B]? = some o) (hF : ¬ F B) : w1.heap[B]? = some o := by
 obtain ⟨y', F', _, hu⟩ := hb
 exact (hu.block B (lt_heap h) hF).trans h
def ActAt (w : World) (B P : Nat) (r : R) : Prop := w.heap[B]? = some (.cells (cellsA P r) 122 (0, 0))
theorem ActAt.cell {B : Nat} {r : R} (h : ActAt w B P r) (i : Nat) (v : Value) (hv : (cellsA P r)[i]? = some v) : w.cell? ⟨B, i, none⟩ = some v := by
 unfold ActAt at h
 simp only [World.cell?, h]; exact hv
theorem ActAt.below {B : Nat} {r : R} (h : ActAt w B P r) (hb : Below w.heap.size w w1) : ActAt w1 B P r := (hb.block B (lt_heap h)).trans h
theorem act_new (w : World) (P : Nat) (r : R) : ActAt (w.alloc (.cells (cellsA P r) 122)) w.heap.size P r := heap_alloc_new _ _
end
section
variable {F : Nat → Prop} {P N : Nat} {y : Lay} {t : PT}
set_option maxRecDepth 100000 in
set_option maxHeartbeats 4000000 in
theorem t_madeA (r : R) (hr : r.Texts) (a : Int) (t' : PT) (he : madeA t r = (a, t')) (w : World) (h : TreeM w F P N y t) (hW : WellP t) (hK : HeldK 999999999 t) (hN : N < 900000) :
  Calls Tryz.prog 125 #[actV P r] w (ActPost w F P N a t') := by
 obtain ⟨e0, t1, he0⟩ : ∃ e0 t1, makeAtP t r.dir r.name r.kind r.ino = (e0, t1) := ⟨_, _, rfl⟩
 have hW1 : WellP t1 := by have := hW.makeAtP_ r.dir r.name r.kind r.ino; rw [he0] at this; exact this
 have hK1 : HeldK 999999999 t1 := by have := hK.makeAtP_ (by omega) (d := r.dir) (s := r.name) (i := r.ino) r.kind; rw [he0] at this; exact this
 have hl := h.lt
 have HC := Lib.hid (t_makeAt r.dir r.name r.kind r.ino e0 t1 he0 _ (h.below (below_a1' w (.cells (cellsA P r) 122))) hN hr.ok.dir hr.ok.ino hr.name)
 unfold madeA at he
 rw [he0] at he
 simp only at he
 unfold actV
 by_cases h0 : e0 = 0
 · subst h0
   by_cases hk : r.kind = 2
   · rw [if_pos (.inr hk)] at he
     cases he
     have HK := Lib.hid hk
     have HR := Lib.hid hr
     have HL := Lib.hid hl
     clear he0 h hr hl hk hW hW1 hK hK1
     go_enter Tryz.func125, Tryz.ntmps125
     go_wp2_with (go_at_call 169; (with_reducible refine HC.out.mono ?_); rintro e w1 ⟨rfl, hb⟩; have c6 := (show ActAt w1 w.heap.size P r from hb.block (act_new w P r) (fun hF => by have := HL.out _ hF; omega)).cell 6 (.int .u8 2) (by rw [← HK.out]; rfl); have HB := Lib.hid (Became.front (below_a1' w _) hb); clear hb)
     go_ret
     exact ⟨rfl, HB.out⟩
   · rw [if_neg (by simp [hk])] at he
     have HE := Lib.hid he0
     have HC2 := Lib.hid (fun W F1 y1 (hT : TreeM W F1 P (N + 2) y1 t1) => t_holdP r.ino a t' he W hT hr.ok.ino (hK1.mono (by omega)) (fun x hx => hW1.held _ x hx))
     have HT := Lib.hid h
     have HR := Lib.hid hr
     have HL := Lib.hid hl
     have HK1 := Lib.hid hK1
     have HW1 := Lib.hid hW1
     have hkb : (r.kind == 2) = false := by simpa using hk
     clear he0 he h hr hl hk hW hW1 hK hK1
     go_enter Tryz.func125, Tryz.ntmps125
     go_wp2_with (first
      | (go_at_call 169; (with_reducible refine HC.out.mono ?_); rintro e w1 ⟨rfl, hb⟩; have HA := Lib.hid (show ActAt w1 w.heap.size P r from hb.block (act_new w P r) (fun hF => by have := HL.out _ hF; omega)); have c0 := HA.out.cell 0 _ rfl; have c5 := HA.out.cell 5 _ rfl; have c6 := HA.out.cell 6 _ rfl; obtain ⟨y1, F1, hT1, hU1⟩ := Became.front (below_a1' w _) hb; have HT1 := Lib.hid hT1; have HU1 := Lib.hid hU1; clear hb hT1 hU1)
      | (go_at_call 170; (with_reducible refine (HC2.out _ _ _ HT1.out).mono ?_); rintro e w2 ⟨rfl, hb⟩; obtain ⟨y2, F2, hT2, hU2⟩ := hb; have HB := Lib.hid (show Became w w2 F P (N + 2) _ from ⟨y2, F2, hT2, HU1.out.trans hU2⟩); clear hT2 hU2))
     go_ret
     exact ⟨rfl, HB.out⟩
 · rw [if_pos (.inl h0)] at he
   cases he
   have hb0 : (a == 0) = false := by simpa using h0
   have hb1 : (a != 0) = true := by simpa using h0
   clear he0 h hr hl h0 hW hW1 hK hK1
   go_enter Tryz.func125, Tryz.ntmps125
   go_wp2_with (go_at_call 169; (with_reducible refine HC.out.mono ?_); rintro e w1 ⟨rfl, hb⟩; have HB := Lib.hid (Became.front (below_a1' w _) hb); clear hb)
   go_ret
   exact ⟨rfl, HB.out⟩
set_option maxRecDepth 100000 in
set_option maxHeartbeats 4000000 in
theorem t_linkA (r : R) (hr : r.Texts) (a : Int) (t' : PT) (he : linkA t r = (a, t')) (w : World) (h : TreeM w F P N y t) (hW : WellP t) (hN : N < 900000) :
  Calls Tryz.prog 126 #[actV P r] w (ActPost w F P N a t') := by
 unfold linkA at he
 have HC := Lib.hid (t_linkP r.dir r.name r.ino a t' he _ (h.below (below_a1' w (.cells (cellsA P r) 122))) hN hr.ok.dir hr.ok.ino hr.name hW.good.links)
 clear he h hW hr
 unfold actV
 go_enter Tryz.func126, Tryz.ntmps126
 go_wp2_with (go_at_call 171; (with_reducible refine HC.out.mono ?_); rintro e w1 ⟨rfl, hb⟩; have HB := Lib.hid (Became.front (below_a1' w _) hb); clear hb)
 go_ret
 exact ⟨rfl, HB.out.most (by omega)⟩
set_option maxRecDepth 100000 in
set_option maxHeartbeats 4000000 in
theorem t_lookA (r : R) (hr : r.Texts) (w : World) (h : TreeM w F P N y t) :
  Calls Tryz.prog 172 #[actV P r] w fun e w' => e = .returned (.int .i64 (lookA t r)) ∧ Below w.heap.size w w' := by
 obtain ⟨v, x, hl⟩ : ∃ v x, lookP t r.dir r.name = (v, x) := ⟨_, _, rfl⟩
 obtain ⟨q, hq⟩ : ∃ q, lookA t r = q := ⟨_, rfl⟩
 have hq' : (if x = 0 ∧ v ≠ r.ino then (2 : Int) else x) = q := by rw [← hq]; unfold lookA; rw [hl]
 have HC := Lib.hid (t_look r.dir r.name v x hl _ (h.below (below_a1' w (.cells (cellsA P r) 122))) hr.ok.dir hr.name)
 rw [hq]
 clear h hl hq hr
 unfold actV
 have HQ := Lib.hid hq'
 clear hq'
 by_cases h0 : x = 0
 · subst h0
   by_cases hv : v = r.ino
   · have e : q = 0 := by have := HQ.out; rw [if_neg (by simp [hv])] at this; exact this.symm
     have HV := Lib.hid hv
     have hvb : (v == r.ino) = true := by simpa using hv
     have hvc : (v != r.ino) = false := by simpa using hv
     subst e
     clear hv
     go_enter Tryz.func172, Tryz.ntmps172
     go_wp2_with (go_at_call 133; (with_reducible refine HC.out.mono ?_); rintro e w1 ⟨rfl, hb⟩; have HA := Lib.hid ((act_new w P r).below hb); have c5 := HA.out.cell 5 _ rfl; have HB := Lib.hid (ptrans (below_a1' w _) hb); clear hb)
     go_ret
     exact ⟨rfl, HB.out⟩
   · have e : q = 2 := by have := HQ.out; rw [if_pos ⟨rfl, hv⟩] at this; exact this.symm
     have hvb : (v == r.ino) = false := by simpa using hv
     have hvc : (v != r.ino) = true := by simpa using hv
     subst e
     clear hv
     go_enter Tryz.func172, Tryz.ntmps172
     go_wp2_with (go_at_call 133; (with_reducible refine HC.out.mono ?_); rintro e w1 ⟨rfl, hb⟩; have HA := Lib.hid ((act_new w P r).below hb); have c5 := HA.out.cell 5 _ rfl; have HB := Lib.hid (ptrans (below_a1' w _) hb); clear hb)
     go_ret
     exact ⟨rfl, HB.out⟩
 · have e : q = x := by have := HQ.out; rw [if_neg (by simp [h0])] at this; exact this.symm
   have hxb : (x == 0) = false := by simpa using h0
   have hxc : (x != 0) = true := by simpa using h0
   subst e
   clear h0
   go_enter Tryz.func172, Tryz.ntmps172
   go_wp2_with (go_at_call 133; (with_reducible refine HC.out.mono ?_); rintro e w1 ⟨rfl, hb⟩; have HA := Lib.hid ((act_new w P r).below hb); have c5 := HA.out.cell 5 _ rfl; have HB := Lib.hid (ptrans (below_a1' w _) hb); clear hb)
   go_ret
   exact ⟨rfl, HB.out⟩
set_option maxRecDepth 100000 in
set_option maxHeartbeats 4000000 in
theorem t_unlinkA (r : R) (hr : r.Texts) (a : Int) (t' : PT) (he : unlinkA t r = (a, t')) (w : World) (h : TreeM w F P N y t) (hW : WellP t) :
  Calls Tryz.prog 127 #[actV P r] w (ActPost w F P N a t') := by
 have hb0 := below_a1' w (.cells (cellsA P r) 122)
 obtain ⟨e0, he0⟩ : ∃ e0, lookA t r = e0 := ⟨_, rfl⟩
 have HL := Lib.hid (fun W (hb : Below w.heap.size w W) => t_lookA r hr W (h.below hb))
 rw [he0] at HL
 unfold unlinkA at he
 rw [he0] at he
 have HB0 := Lib.hid hb0
 have HT := Lib.hid h
 by_cases h0 : e0 = 0
 · subst h0
   rw [if_neg (by simp)] at he
   by_cases hk : r.kind = 2
   · rw [if_pos hk] at he
     obtain ⟨⟨⟨a1, a2⟩, t2⟩, hq⟩ : ∃ q, dropP t r.dir r.name rmdirE = q := ⟨_, rfl⟩
     rw [hq] at he
     cases he
     have HC := Lib.hid (fun W (hb : Below w.heap.size w W) => t_rmdirP r.dir r.name a1 a2 t2 hq W (h.below hb) hW.good hr.ok.dir hr.name)
     have HK := Lib.hid hk
     clear hq h hW hk hr hb0
     unfold actV at HL ⊢
     go_enter Tryz.func127, Tryz.ntmps127
     go_wp2_with (first
      | (go_at_call 172; (with_reducible refine (HL.out _ HB0.out).mono ?_); rintro e w1 ⟨rfl, hb⟩; have HA := Lib.hid ((act_new w P r).below hb); have c0 := HA.out.cell 0 _ rfl; have c3 := HA.out.cell 3 _ rfl; have c4 := HA.out.cell 4 _ rfl; have c6 := HA.out.cell 6 (.int .u8 2) (by rw [← HK.out]; rfl); have HB := Lib.hid (ptrans HB0.out hb); clear hb)
      | (go_at_call 173; (with_reducible refine (HC.out _ HB.out).mono ?_); rintro e w2 ⟨rfl, hb⟩; have HX := Lib.hid (Became.front HB.out hb); clear hb))
     go_ret
     exact ⟨rfl, HX.out.most (by omega)⟩
   · rw [if_neg hk] at he
     obtain ⟨⟨⟨a1, a2⟩, t2⟩, hq⟩ : ∃ q, dropP t r.dir r.name unlinkE = q := ⟨_, rfl⟩
     rw [hq] at he
     cases he
     have HC := Lib.hid (fun W (hb : Below w.heap.size w W) => t_unlinkP r.dir r.name a1 a2 t2 hq W (h.below hb) hW.good hr.ok.dir hr.name)
     have hkb : (r.kind == 2) = false := by simpa using hk
     clear hq h hW hk hr hb0
     unfold actV at HL ⊢
     go_enter Tryz.func127, Tryz.ntmps127
     go_wp2_with (first
      | (go_at_call 172; (with_reducible refine (HL.out _ HB0.out).mono ?_); rintro e w1 ⟨rfl, hb⟩; have HA := Lib.hid ((act_new w P r).below hb); have c0 := HA.out.cell 0 _ rfl; have c3 := HA.out.cell 3 _ rfl; have c4 := HA.out.cell 4 _ rfl; have c6 := HA.out.cell 6 _ rfl; have HB := Lib.hid (ptrans HB0.out hb); clear hb)
      | (go_at_call 174; (with_reducible refine (HC.out _ HB.out).mono ?_); rintro e w2 ⟨rfl, hb⟩; have HX := Lib.hid (Became.front HB.out hb); clear hb))
     go_ret
     exact ⟨rfl, HX.out.most (by omega)⟩
 · rw [if_pos h0] at he
   cases he
   have hxb : (a == 0) = false := by simpa using h0
   have hxc : (a != 0) = true := by simpa using h0
   clear h hW hr hb0 h0
   unfold actV at HL ⊢
   go_enter Tryz.func127, Tryz.ntmps127
   go_wp2_with (go_at_call 172; (with_reducible refine (HL.out _ HB0.out).mono ?_); rintro e w1 ⟨rfl, hb⟩; have HB := Lib.hid (ptrans HB0.out hb); clear hb)
   go_ret
   exact ⟨rfl, (Became.same HT.out HB.out).most (by omega)⟩
set_option maxRecDepth 100000 in
set_option maxHeartbeats 4000000 in
theorem t_sizeA (r : R) (hr : r.Texts) (a : Int) (t' : PT) (he : sizeA t r = (a, t')) (w : World) (h : TreeM w F P N y t) (hW : WellP t) (hN : N < 900000) :
  Calls Tryz.prog 129 #[actV P r] w (ActPost w F P N a t') := by
 unfold sizeA at he
 have HC := Lib.hid (t_resizeP r.ino r.size a t' he _ (h.below (below_a1' w (.cells (cellsA P r) 122))) hN hr.ok.ino (by have := hr.ok.size; omega) (fun x hx => hW.pages _ x hx))
 clear he h hW hr
 unfold actV
 go_enter Tryz.func129, Tryz.ntmps129
 go_wp2_with (go_at_call 176; (with_reducible refine HC.out.mono ?_); rintro e w1 ⟨rfl, h1, h2⟩; have HB := Lib.hid (Became.front (below_a1' w _) ⟨_, _, h1, h2⟩); clear h1 h2)
 go_ret
 exact ⟨rfl, HB.out.most (by omega)⟩
set_option maxRecDepth 100000 in
set_option maxHeartbeats 4000000 in
theorem t_pageA (r : R) (hr : r.Texts) (a : Int) (t' : PT) (he : pageA t r = (a, t')) (w : World) (h : TreeM w F P N y t) (hW : WellP t) (hN : N < 800000) :
  Calls Tryz.prog 130 #[actV P r] w (ActPost w F P N a t') := by
 have hn0 : 0 ≤ r.size := hr.ok.size.1
 obtain ⟨e0, t1, he0⟩ : ∃ e0 t1, writeP t r.ino r.page r.data = (e0, t1) := ⟨_, _, rfl⟩
 have hW1 : WellP t1 := by have := hW.writeP_ r.ino r.page r.data; rw [he0] at this; exact this
 have hl := h.lt
 have HC := Lib.hid (t_writeP r.ino r.page r.data e0 t1 he0 _ (h.below (below_a1' w (.cells (cellsA P r) 122))) (by omega) hr.ok.ino hr.data (fun x hx => hW.pages _ x hx))
 have HL := Lib.hid hl
 unfold pageA at he
 rw [he0] at he
 simp only at he
 by_cases h0 : e0 = 0
 · subst h0
   rw [if_neg (by simp)] at he
   have HC2 := Lib.hid (fun W (hT : TreeM W F P (N + 1) y t1) => t_resizeP r.ino r.size a t' he W hT (by omega) hr.ok.ino hn0 (fun x hx => hW1.pages _ x hx))
   clear he he0 h hW hW1 hr hl
   unfold actV
   go_enter Tryz.func130, Tryz.ntmps130
   go_wp2_with (first
    | (go_at_call 177; (with_reducible refine HC.out.mono ?_); rintro e w1 ⟨rfl, h1, h2⟩; have HA := Lib.hid (show ActAt w1 w.heap.size P r from (h2.block _ (lt_heap (act_new w P r)) (fun hF => by have := HL.out _ hF; omega)).trans (act_new w P r)); have c0 := HA.out.cell 0 _ rfl; have c5 := HA.out.cell 5 _ rfl; have c10 := HA.out.cell 10 _ rfl; have HT1 := Lib.hid h1; have HU1 := Lib.hid ((Turn.of_below F (below_a1' w _)).trans h2); clear h1 h2)
    | (go_at_call 176; (with_reducible refine (HC2.out _ HT1.out).mono ?_); rintro e w2 ⟨rfl, h1, h2⟩; have HB := Lib.hid (show Became w w2 F P (N + 1) t' from ⟨_, _, h1, HU1.out.trans h2⟩); clear h1 h2))
   go_ret
   exact ⟨rfl, HB.out.most (by omega)⟩
 · rw [if_pos h0] at he
   cases he
   have hxb : (a == 0) = false := by simpa using h0
   have hxc : (a != 0) = true := by simpa using h0
   clear he0 h hW hW1 hr hl h0
   unfold actV
   go_enter Tryz.func130, Tryz.ntmps130
   go_wp2_with (go_at_call 177; (with_reducible refine HC.out.mono ?_); rintro e w1 ⟨rfl, h1, h2⟩; have HB := Lib.hid (Became.front (below_a1' w _) ⟨_, _, h1, h2⟩); clear h1 h2)
   go_ret
   exact ⟨rfl, HB.out.most (by omega)⟩
set_option maxRecDepth 100000 in
set_option maxHeartbeats 4000000 in
theorem t_freeA (r : R) (hr : r.Texts) (a : Int) (t' : PT) (he : freeA t r = (a, t')) (w : World) (h : TreeM w F P N y t) (hW : WellP t) (hK : HeldK 999999999 t) :
  Calls Tryz.prog 131 #[actV P r] w (ActPost w F P N a t') := by
 have hb0 := below_a1' w (.cells (cellsA P r) 122)
 have HS := Lib.hid (fun W (hb : Below w.heap.size w W) => t_statP r.ino W (h.below hb) hr.ok.ino)
 have HB0 := Lib.hid hb0
 have HT := Lib.hid h
 unfold freeA at he
 cases hx : t.n r.ino with
 | none =>
  rw [hx] at he
  cases he
  rw [show statR t r.ino = (stat0, 3) by unfold statR; rw [hx]] at HS
  unfold stat0 at HS
  clear h hW hr hb0 hx hK
  unfold actV
  go_enter Tryz.func131, Tryz.ntmps131
  go_wp2_with (go_at_call 19; (with_reducible refine (HS.out _ HB0.out).mono ?_); rintro e w1 ⟨rfl, hb⟩; have HB := Lib.hid (ptrans HB0.out hb); clear hb)
  go_ret
  exact ⟨rfl, (Became.same HT.out (ptrans HB.out (below_a1' _ _))).most (by omega)⟩
 | some x =>
  rw [hx] at he
  simp only at he
  rw [show statR t r.ino = (statP r.ino x, 0) by unfold statR; rw [hx]] at HS
  unfold statP at HS
  by_cases hlk : 0 < x.links
  · rw [if_pos hlk] at he
    cases he
    clear h hW hr hb0 hx hK
    unfold actV
    go_enter Tryz.func131, Tryz.ntmps131
    go_wp2_with (go_at_call 19; (with_reducible refine (HS.out _ HB0.out).mono ?_); rintro e w1 ⟨rfl, hb⟩; have HB := Lib.hid (ptrans HB0.out hb); clear hb)
    go_ret
    exact ⟨rfl, (Became.same HT.out (ptrans HB.out (below_a1' _ _))).most (by omega)⟩
  · rw [if_neg hlk] at he
    have HC := Lib.hid (fun W (hb : Below w.heap.size w W) => t_unholdP r.ino a t' he W (h.below hb) hr.ok.ino (hK.mono (by omega)) (fun x hx => hW.held _ x hx))
    clear h hW hr hb0 hx hK he
    unfold actV
    go_enter Tryz.func131, Tryz.ntmps131
    go_wp2_with (first
     | (go_at_call 19; (with_reducible refine (HS.out _ HB0.out).mono ?_); rintro e w1 ⟨rfl, hb⟩; have HA := Lib.hid ((act_new w P r).below hb); have HA2 := Lib.hid (HA.out.below (below_a1' w1 (.cells #[.int .u32 r.ino, .int .u8 x.kind, .int .i64 x.links, .int .u32 x.size] 39))); have c0 := HA2.out.cell 0 _ rfl; have c5 := HA2.out.cell 5 _ rfl; have HB := Lib.hid (ptrans HB0.out hb); have HB2 := Lib.hid (ptrans HB.out (below_a1' w1 (.cells #[.int .u32 r.ino, .int .u8 x.kind, .int .i64 x.links, .int .u32 x.size] 39))); clear hb)
     | (go_at_call 178; (with_reducible refine (HC.out _ HB2.out).mono ?_); rintro e w2 ⟨rfl, hb⟩; have HX := Lib.hid (Became.front HB2.out hb); clear hb))
    go_ret
    exact ⟨rfl, HX.out.most (by omega)⟩
theorem stat_cell {w w' : World} {B : Nat} {cs : Array Value} {T : TypeId} (h : w.heap[B]? = some (.cells cs T (0, 0))) (hb : Below w.heap.size w w') (i : Nat) (v : Value) (hv : cs[i]? = some v) : w'.cell? ⟨B, i, none⟩ = some v := by
 simp only [World.cell?, (hb.block B (lt_heap h)).trans h]; exact hv
set_option maxRecDepth 100000 in
set_option maxHeartbeats 8000000 in
theorem t_renameA (r : R) (hr : r.Texts) (a : Int) (t' : PT) (he : renameA t r = (a, t')) (w : World) (h : TreeM w F P N y t) (hW : WellP t) (hN : N < 900000) :
  Calls Tryz.prog 128 #[actV P r] w (ActPost w F P N a t') := by
 have hb0 := below_a1' w (.cells (cellsA P r) 122)
 obtain ⟨e0, he0⟩ : ∃ e0, lookA t r = e0 := ⟨_, rfl⟩
 have HL := Lib.hid (fun W (hb : Below w.heap.size w W) => t_lookA r hr W (h.below hb))
 rw [he0] at HL
 unfold renameA at he
 rw [he0] at he
 have HB0 := Lib.hid hb0
 have HT := Lib.hid h
 by_cases h0 : e0 = 0
 · subst h0
   rw [if_neg (by simp)] at he
   obtain ⟨h00, h01⟩ : (lookP t r.dir r.name).2 = 0 ∧ (lookP t r.dir r.name).1 = r.ino := by
    unfold lookA at he0
    split at he0
    · cases he0
    · rename_i h1
      exact ⟨he0, Decidable.byContradiction fun c => h1 ⟨he0, c⟩⟩
   obtain ⟨_, x, _, _, hx, _⟩ := look_okP hW.good h00
   rw [h01] at hx
   have HS := Lib.hid (fun W (hb : Below w.heap.size w W) => t_statP r.ino W (h.below hb) hr.ok.ino)
   rw [show statR t r.ino = (statP r.ino x, 0) by unfold statR; rw [hx]] at HS
   unfold statP at HS
   rw [show kindAt t r.ino = x.kind by unfold kindAt; rw [hx]] at he
   obtain ⟨v2, e2, hl2⟩ : ∃ v2 e2, lookP t r.dir2 r.name2 = (v2, e2) := ⟨_, _, rfl⟩
   have HC := Lib.hid (fun W (hb : Below w.heap.size w W) => t_look r.dir2 r.name2 v2 e2 hl2 W (h.below hb) hr.ok.dir2 hr.name2)
   rw [show oldAt t r = if e2 = 0 then v2 else 0 by unfold oldAt; rw [hl2]] at he
   by_cases hk : x.kind = r.kind
   · by_cases ho : (if e2 = 0 then v2 else 0) = r.old
     · rw [if_neg (by simp [hk, ho])] at he
       have HR := Lib.hid (fun W (hb : Below w.heap.size w W) => t_renameP r.dir r.name r.dir2 r.name2 a t' he W (h.below hb) hW hr.ok.dir hr.ok.dir2 hr.name hr.name2 hN)
       have hkb : (x.kind == r.kind) = true := by simpa using hk
       have hkc : (x.kind != r.kind) = false := by simpa using hk
       clear h hW hr hb0 hl2 hx he he0 h00 h01 hk
       by_cases h2 : e2 = 0
       · subst h2
         rw [if_pos rfl] at ho
         have hob : (v2 == r.old) = true := by simpa using ho
         have hoc : (v2 != r.old) = false := by simpa using ho
         clear ho
         unfold actV at HL ⊢
         go_enter Tryz.func128, Tryz.ntmps128
         go_wp2_with (first
          | (go_at_call 172; (with_reducible refine (HL.out _ HB0.out).mono ?_); rintro e w1 ⟨rfl, hb⟩; have HA := Lib.hid ((act_new w P r).below hb); have c0 := HA.out.cell 0 _ rfl; have c5 := HA.out.cell 5 _ rfl; have HB := Lib.hid (ptrans HB0.out hb); clear hb)
          | (go_at_call 19; (with_reducible refine (HS.out _ HB.out).mono ?_); rintro e w2 ⟨rfl, hb⟩; have HA2 := Lib.hid (HA.out.below (ptrans hb (below_a1' w2 (.cells #[.int .u32 r.ino, .int .u8 x.kind, .int .i64 x.links, .int .u32 x.size] 39)))); have b0 := HA2.out.cell 0 _ rfl; have b7 := HA2.out.cell 7 _ rfl; have b8 := HA2.out.cell 8 _ rfl; have HB2 := Lib.hid (ptrans HB.out (ptrans hb (below_a1' w2 (.cells #[.int .u32 r.ino, .int .u8 x.kind, .int .i64 x.links, .int .u32 x.size] 39)))); have HS2 := Lib.hid (heap_alloc_new w2 (.cells #[.int .u32 r.ino, .int .u8 x.kind, .int .i64 x.links, .int .u32 x.size] 39)); clear hb)
          | (go_at_call 133; (with_reducible refine (HC.out _ HB2.out).mono ?_); rintro e w3 ⟨rfl, hb⟩; have HA3 := Lib.hid (HA2.out.below hb); have d0 := HA3.out.cell 0 _ rfl; have d3 := HA3.out.cell 3 _ rfl; have d4 := HA3.out.cell 4 _ rfl; have d6 := HA3.out.cell 6 _ rfl; have d7 := HA3.out.cell 7 _ rfl; have d8 := HA3.out.cell 8 _ rfl; have d9 := HA3.out.cell 9 _ rfl; have s1 := stat_cell (HS2.out) hb 1 _ rfl; have HB3 := Lib.hid (ptrans HB2.out hb); clear hb)
          | (go_at_call 175; (with_reducible refine (HR.out _ HB3.out).mono ?_); rintro e w4 ⟨rfl, hb⟩; have HX := Lib.hid (Became.front HB3.out hb); clear hb))
         go_ret
         exact ⟨rfl, HX.out.most (by omega)⟩
       · rw [if_neg h2] at ho
         have h2b : (e2 == 0) = false := by simpa using h2
         have h2c : (e2 != 0) = true := by simpa using h2
         have hob : (0 == r.old) = true := by simpa using ho
         have hoc : (0 != r.old) = false := by simpa using ho
         clear ho
         clear h2
         unfold actV at HL ⊢
         go_enter Tryz.func128, Tryz.ntmps128
         go_wp2_with (first
          | (go_at_call 172; (with_reducible refine (HL.out _ HB0.out).mono ?_); rintro e w1 ⟨rfl, hb⟩; have HA := Lib.hid ((act_new w P r).below hb); have c0 := HA.out.cell 0 _ rfl; have c5 := HA.out.cell 5 _ rfl; have HB := Lib.hid (ptrans HB0.out hb); clear hb)
          | (go_at_call 19; (with_reducible refine (HS.out _ HB.out).mono ?_); rintro e w2 ⟨rfl, hb⟩; have HA2 := Lib.hid (HA.out.below (ptrans hb (below_a1' w2 (.cells #[.int .u32 r.ino, .int .u8 x.kind, .int .i64 x.links, .int .u32 x.size] 39)))); have b0 := HA2.out.cell 0 _ rfl; have b7 := HA2.out.cell 7 _ rfl; have b8 := HA2.out.cell 8 _ rfl; have HB2 := Lib.hid (ptrans HB.out (ptrans hb (below_a1' w2 (.cells #[.int .u32 r.ino, .int .u8 x.kind, .int .i64 x.links, .int .u32 x.size] 39)))); have HS2 := Lib.hid (heap_alloc_new w2 (.cells #[.int .u32 r.ino, .int .u8 x.kind, .int .i64 x.links, .int .u32 x.size] 39)); clear hb)
          | (go_at_call 133; (with_reducible refine (HC.out _ HB2.out).mono ?_); rintro e w3 ⟨rfl, hb⟩; have HA3 := Lib.hid (HA2.out.below hb); have d0 := HA3.out.cell 0 _ rfl; have d3 := HA3.out.cell 3 _ rfl; have d4 := HA3.out.cell 4 _ rfl; have d6 := HA3.out.cell 6 _ rfl; have d7 := HA3.out.cell 7 _ rfl; have d8 := HA3.out.cell 8 _ rfl; have d9 := HA3.out.cell 9 _ rfl; have s1 := stat_cell (HS2.out) hb 1 _ rfl; have HB3 := Lib.hid (ptrans HB2.out hb); clear hb)
          | (go_at_call 175; (with_reducible refine (HR.out _ HB3.out).mono ?_); rintro e w4 ⟨rfl, hb⟩; have HX := Lib.hid (Became.front HB3.out hb); clear hb))
         go_ret
         exact ⟨rfl, HX.out.most (by omega)⟩
     · rw [if_pos (.inr ho)] at he
       cases he
       have hkb : (x.kind == r.kind) = true := by simpa using hk
       have hkc : (x.kind != r.kind) = false := by simpa using hk
       clear h hW hr hb0 hl2 hx he0 h00 h01 hk
       by_cases h2 : e2 = 0
       · subst h2
         rw [if_pos rfl] at ho
         have hob : (v2 == r.old) = false := by simpa using ho
         have hoc : (v2 != r.old) = true := by simpa using ho
         clear ho
         unfold actV at HL ⊢
         go_enter Tryz.func128, Tryz.ntmps128
         go_wp2_with (first
          | (go_at_call 172; (with_reducible refine (HL.out _ HB0.out).mono ?_); rintro e w1 ⟨rfl, hb⟩; have HA := Lib.hid ((act_new w P r).below hb); have c0 := HA.out.cell 0 _ rfl; have c5 := HA.out.cell 5 _ rfl; have HB := Lib.hid (ptrans HB0.out hb); clear hb)
          | (go_at_call 19; (with_reducible refine (HS.out _ HB.out).mono ?_); rintro e w2 ⟨rfl, hb⟩; have HA2 := Lib.hid (HA.out.below (ptrans hb (below_a1' w2 (.cells #[.int .u32 r.ino, .int .u8 x.kind, .int .i64 x.links, .int .u32 x.size] 39)))); have b0 := HA2.out.cell 0 _ rfl; have b7 := HA2.out.cell 7 _ rfl; have b8 := HA2.out.cell 8 _ rfl; have HB2 := Lib.hid (ptrans HB.out (ptrans hb (below_a1' w2 (.cells #[.int .u32 r.ino, .int .u8 x.kind, .int .i64 x.links, .int .u32 x.size] 39)))); have HS2 := Lib.hid (heap_alloc_new w2 (.cells #[.int .u32 r.ino, .int .u8 x.kind, .int .i64 x.links, .int .u32 x.size] 39)); clear hb)
          | (go_at_call 133; (with_reducible refine (HC.out _ HB2.out).mono ?_); rintro e w3 ⟨rfl, hb⟩; have HA3 := Lib.hid (HA2.out.below hb); have d0 := HA3.out.cell 0 _ rfl; have d3 := HA3.out.cell 3 _ rfl; have d4 := HA3.out.cell 4 _ rfl; have d6 := HA3.out.cell 6 _ rfl; have d7 := HA3.out.cell 7 _ rfl; have d8 := HA3.out.cell 8 _ rfl; have d9 := HA3.out.cell 9 _ rfl; have s1 := stat_cell (HS2.out) hb 1 _ rfl; have HB3 := Lib.hid (ptrans HB2.out hb); clear hb))
         go_ret
         exact ⟨rfl, (Became.same HT.out HB3.out).most (by omega)⟩
       · rw [if_neg h2] at ho
         have h2b : (e2 == 0) = false := by simpa using h2
         have h2c : (e2 != 0) = true := by simpa using h2
         have hob : (0 == r.old) = false := by simpa using ho
         have hoc : (0 != r.old) = true := by simpa using ho
         clear ho
         clear h2
         unfold actV at HL ⊢
         go_enter Tryz.func128, Tryz.ntmps128
         go_wp2_with (first
          | (go_at_call 172; (with_reducible refine (HL.out _ HB0.out).mono ?_); rintro e w1 ⟨rfl, hb⟩; have HA := Lib.hid ((act_new w P r).below hb); have c0 := HA.out.cell 0 _ rfl; have c5 := HA.out.cell 5 _ rfl; have HB := Lib.hid (ptrans HB0.out hb); clear hb)
          | (go_at_call 19; (with_reducible refine (HS.out _ HB.out).mono ?_); rintro e w2 ⟨rfl, hb⟩; have HA2 := Lib.hid (HA.out.below (ptrans hb (below_a1' w2 (.cells #[.int .u32 r.ino, .int .u8 x.kind, .int .i64 x.links, .int .u32 x.size] 39)))); have b0 := HA2.out.cell 0 _ rfl; have b7 := HA2.out.cell 7 _ rfl; have b8 := HA2.out.cell 8 _ rfl; have HB2 := Lib.hid (ptrans HB.out (ptrans hb (below_a1' w2 (.cells #[.int .u32 r.ino, .int .u8 x.kind, .int .i64 x.links, .int .u32 x.size] 39)))); have HS2 := Lib.hid (heap_alloc_new w2 (.cells #[.int .u32 r.ino, .int .u8 x.kind, .int .i64 x.links, .int .u32 x.size] 39)); clear hb)
          | (go_at_call 133; (with_reducible refine (HC.out _ HB2.out).mono ?_); rintro e w3 ⟨rfl, hb⟩; have HA3 := Lib.hid (HA2.out.below hb); have d0 := HA3.out.cell 0 _ rfl; have d3 := HA3.out.cell 3 _ rfl; have d4 := HA3.out.cell 4 _ rfl; have d6 := HA3.out.cell 6 _ rfl; have d7 := HA3.out.cell 7 _ rfl; have d8 := HA3.out.cell 8 _ rfl; have d9 := HA3.out.cell 9 _ rfl; have s1 := stat_cell (HS2.out) hb 1 _ rfl; have HB3 := Lib.hid (ptrans HB2.out hb); clear hb))
         go_ret
         exact ⟨rfl, (Became.same HT.out HB3.out).most (by omega)⟩
   · rw [if_pos (.inl hk)] at he
     cases he
     have hkb : (x.kind == r.kind) = false := by simpa using hk
     have hkc : (x.kind != r.kind) = true := by simpa using hk
     clear h hW hr hb0 hl2 hx he0 h00 h01 hk
     by_cases h2 : e2 = 0
     · subst h2
       unfold actV at HL ⊢
       go_enter Tryz.func128, Tryz.ntmps128
       go_wp2_with (first
        | (go_at_call 172; (with_reducible refine (HL.out _ HB0.out).mono ?_); rintro e w1 ⟨rfl, hb⟩; have HA := Lib.hid ((act_new w P r).below hb); have c0 := HA.out.cell 0 _ rfl; have c5 := HA.out.cell 5 _ rfl; have HB := Lib.hid (ptrans HB0.out hb); clear hb)
        | (go_at_call 19; (with_reducible refine (HS.out _ HB.out).mono ?_); rintro e w2 ⟨rfl, hb⟩; have HA2 := Lib.hid (HA.out.below (ptrans hb (below_a1' w2 (.cells #[.int .u32 r.ino, .int .u8 x.kind, .int .i64 x.links, .int .u32 x.size] 39)))); have b0 := HA2.out.cell 0 _ rfl; have b7 := HA2.out.cell 7 _ rfl; have b8 := HA2.out.cell 8 _ rfl; have HB2 := Lib.hid (ptrans HB.out (ptrans hb (below_a1' w2 (.cells #[.int .u32 r.ino, .int .u8 x.kind, .int .i64 x.links, .int .u32 x.size] 39)))); have HS2 := Lib.hid (heap_alloc_new w2 (.cells #[.int .u32 r.ino, .int .u8 x.kind, .int .i64 x.links, .int .u32 x.size] 39)); clear hb)
        | (go_at_call 133; (with_reducible refine (HC.out _ HB2.out).mono ?_); rintro e w3 ⟨rfl, hb⟩; have HA3 := Lib.hid (HA2.out.below hb); have d0 := HA3.out.cell 0 _ rfl; have d3 := HA3.out.cell 3 _ rfl; have d4 := HA3.out.cell 4 _ rfl; have d6 := HA3.out.cell 6 _ rfl; have d7 := HA3.out.cell 7 _ rfl; have d8 := HA3.out.cell 8 _ rfl; have d9 := HA3.out.cell 9 _ rfl; have s1 := stat_cell (HS2.out) hb 1 _ rfl; have HB3 := Lib.hid (ptrans HB2.out hb); clear hb))
       go_ret
       exact ⟨rfl, (Became.same HT.out HB3.out).most (by omega)⟩
     · have h2b : (e2 == 0) = false := by simpa using h2
       have h2c : (e2 != 0) = true := by simpa using h2
       clear h2
       unfold actV at HL ⊢
       go_enter Tryz.func128, Tryz.ntmps128
       go_wp2_with (first
        | (go_at_call 172; (with_reducible refine (HL.out _ HB0.out).mono ?_); rintro e w1 ⟨rfl, hb⟩; have HA := Lib.hid ((act_new w P r).below hb); have c0 := HA.out.cell 0 _ rfl; have c5 := HA.out.cell 5 _ rfl; have HB := Lib.hid (ptrans HB0.out hb); clear hb)
        | (go_at_call 19; (with_reducible refine (HS.out _ HB.out).mono ?_); rintro e w2 ⟨rfl, hb⟩; have HA2 := Lib.hid (HA.out.below (ptrans hb (below_a1' w2 (.cells #[.int .u32 r.ino, .int .u8 x.kind, .int .i64 x.links, .int .u32 x.size] 39)))); have b0 := HA2.out.cell 0 _ rfl; have b7 := HA2.out.cell 7 _ rfl; have b8 := HA2.out.cell 8 _ rfl; have HB2 := Lib.hid (ptrans HB.out (ptrans hb (below_a1' w2 (.cells #[.int .u32 r.ino, .int .u8 x.kind, .int .i64 x.links, .int .u32 x.size] 39)))); have HS2 := Lib.hid (heap_alloc_new w2 (.cells #[.int .u32 r.ino, .int .u8 x.kind, .int .i64 x.links, .int .u32 x.size] 39)); clear hb)
        | (go_at_call 133; (with_reducible refine (HC.out _ HB2.out).mono ?_); rintro e w3 ⟨rfl, hb⟩; have HA3 := Lib.hid (HA2.out.below hb); have d0 := HA3.out.cell 0 _ rfl; have d3 := HA3.out.cell 3 _ rfl; have d4 := HA3.out.cell 4 _ rfl; have d6 := HA3.out.cell 6 _ rfl; have d7 := HA3.out.cell 7 _ rfl; have d8 := HA3.out.cell 8 _ rfl; have d9 := HA3.out.cell 9 _ rfl; have s1 := stat_cell (HS2.out) hb 1 _ rfl; have HB3 := Lib.hid (ptrans HB2.out hb); clear hb))
       go_ret
       exact ⟨rfl, (Became.same HT.out HB3.out).most (by omega)⟩
 · rw [if_pos h0] at he
   cases he
   have hxb : (a == 0) = false := by simpa using h0
   have hxc : (a != 0) = true := by simpa using h0
   clear h hW hr hb0 h0
   unfold actV at HL ⊢
   go_enter Tryz.func128, Tryz.ntmps128
   go_wp2_with (go_at_call 172; (with_reducible refine (HL.out _ HB0.out).mono ?_); rintro e w1 ⟨rfl, hb⟩; have HB := Lib.hid (ptrans HB0.out hb); clear hb)
   go_ret
   exact ⟨rfl, (Became.same HT.out HB.out).most (by omega)⟩
end
end Go.Proofs.YtogljgiefmfafaaGreat
