/- A step of a script, played on the program's tree. -/
import Derived.Test.YtpcjbfhgmcioaaaGreatKN
import Derived.Test.YtpcjbfhgmcioaaaGreatQE
import Derived.Test.YtpcjbfhgmcioaaaGreatQG
import Derived.Test.YtpcjbfhgmcioaaaGreatQC
namespace Go.Proofs.YtpcjbfhgmcioaaaGreat
open Go.RowKit Go.Maps

section
variable {F : Nat → Prop} {P N : Nat} {y : Lay} {t : PT}
def stepV (s : PStep) : Value := .agg #[.int .i64 s.what, .int .u32 s.dir, .int .u32 s.ino, .string s.name, .string s.toN, .int .u8 s.kind, .int .i64 s.n, .string s.data]
def PlayPost (w : World) (F : Nat → Prop) (P N : Nat) (r : Int) (t' : PT) (e : Ending) (w' : World) : Prop := e = .returned (.int .i64 r) ∧ Became w w' F P (N + 2) t'
theorem Became.later {w w0 w' : World} {N' : Nat} (h : Became w0 w' F P N' t) (hb : Below w.heap.size w w0) (hN : N' ≤ N) : Became w w' F P N t := by
  obtain ⟨y', F', h1, h2⟩ := h
  exact ⟨y', F', h1.mono hN, (Turn.of_below F hb).trans h2⟩
theorem WellP.pages_ {i : Int} (h : WellP t) : ∀ x, t.n i = some x → PagesOk x := fun x hx => h.pages i x hx
theorem WellP.held_ {i : Int} (h : WellP t) : ∀ x, t.n i = some x → 0 ≤ x.held := fun x hx => h.held i x hx
set_option maxRecDepth 100000 in
set_option maxHeartbeats 1000000 in
theorem t_play0 (s : PStep) (hs : s.what = 0) (hf : StepFits s) (r : Int) (t' : PT) (hr : playP t s = (r, t')) (w : World) (h : TreeM w F P N y t) (hW : WellP t) (_hK : HeldK 1000000000 t) (hN : N < 900000) :
    Calls Tryz.prog 19 #[.pointer (some ⟨P, 0, none⟩), stepV s] w (PlayPost w F P N r t') := by
  have hB : Below w.heap.size w (w.alloc (.cells #[.int .i64 s.what, .int .u32 s.dir, .int .u32 s.ino, .string s.name, .string s.toN, .int .u8 s.kind, .int .i64 s.n, .string s.data] 33)) := u_alloc1 w _
  have hT := h.below hB
  obtain ⟨⟨⟨a, b⟩, t2⟩, hq⟩ : ∃ q, makeP t s.dir s.name s.kind (leastI t) = q := ⟨_, rfl⟩
  have hE : b = r ∧ t2 = t' := by
    unfold playP at hr
    simp [hs, hq] at hr
    exact hr
  have HC := Lib.hid (t_makeP s.dir s.name s.kind (leastI t) a b t2 hW.leastI_ hq _ hT hN hf.dir hf.name)
  obtain ⟨rfl, rfl⟩ := hE
  have HB := Lib.hid hB
  rw [hs] at HC HB
  clear hr hq hT hB h hW _hK hf
  unfold stepV
  rw [hs]
  go_enter Tryz.func19, Tryz.ntmps19
  go_wp2_with (go_at_call 12; refine HC.out.mono ?_; rintro e w1 ⟨rfl, hR⟩; have HR := Lib.hid hR; clear hR)
  go_ret
  exact ⟨rfl, HR.out.later HB.out (by omega)⟩
set_option maxRecDepth 100000 in
set_option maxHeartbeats 1000000 in
theorem t_play1 (s : PStep) (hs : s.what = 1) (hf : StepFits s) (r : Int) (t' : PT) (hr : playP t s = (r, t')) (w : World) (h : TreeM w F P N y t) (_hW : WellP t) (_hK : HeldK 1000000000 t) (hN : N < 900000) :
    Calls Tryz.prog 19 #[.pointer (some ⟨P, 0, none⟩), stepV s] w (PlayPost w F P N r t') := by
  have hB : Below w.heap.size w (w.alloc (.cells #[.int .i64 s.what, .int .u32 s.dir, .int .u32 s.ino, .string s.name, .string s.toN, .int .u8 s.kind, .int .i64 s.n, .string s.data] 33)) := u_alloc1 w _
  have hT := h.below hB
  have hq : makeAtP t s.dir s.name s.kind s.ino = (r, t') := by
    unfold playP at hr
    simpa [hs] using hr
  have HC := Lib.hid (t_makeAt s.dir s.name s.kind s.ino r t' hq _ hT hN hf.dir hf.ino hf.name)
  have HB := Lib.hid hB
  rw [hs] at HC HB
  clear hr hq hT hB h _hW _hK hf
  unfold stepV
  rw [hs]
  go_enter Tryz.func19, Tryz.ntmps19
  go_wp2_with (go_at_call 30; refine HC.out.mono ?_; rintro e w1 ⟨rfl, hR⟩; have HR := Lib.hid hR; clear hR)
  go_ret
  exact ⟨rfl, HR.out.later HB.out (by omega)⟩
set_option maxRecDepth 100000 in
set_option maxHeartbeats 1000000 in
theorem t_play2 (s : PStep) (hs : s.what = 2) (hf : StepFits s) (r : Int) (t' : PT) (hr : playP t s = (r, t')) (w : World) (h : TreeM w F P N y t) (hW : WellP t) (_hK : HeldK 1000000000 t) (hN : N < 900000) :
    Calls Tryz.prog 19 #[.pointer (some ⟨P, 0, none⟩), stepV s] w (PlayPost w F P N r t') := by
  have hB : Below w.heap.size w (w.alloc (.cells #[.int .i64 s.what, .int .u32 s.dir, .int .u32 s.ino, .string s.name, .string s.toN, .int .u8 s.kind, .int .i64 s.n, .string s.data] 33)) := u_alloc1 w _
  have hT := h.below hB
  have hq : linkP t s.dir s.name s.ino = (r, t') := by
    unfold playP at hr
    simpa [hs] using hr
  have HC := Lib.hid (t_linkP s.dir s.name s.ino r t' hq _ hT hN hf.dir hf.ino hf.name hW.good.links)
  have HB := Lib.hid hB
  rw [hs] at HC HB
  clear hr hq hT hB h hW _hK hf
  unfold stepV
  rw [hs]
  go_enter Tryz.func19, Tryz.ntmps19
  go_wp2_with (go_at_call 25; refine HC.out.mono ?_; rintro e w1 ⟨rfl, hR⟩; have HR := Lib.hid hR; clear hR)
  go_ret
  exact ⟨rfl, HR.out.later HB.out (by omega)⟩
set_option maxRecDepth 100000 in
set_option maxHeartbeats 1000000 in
theorem t_play3 (s : PStep) (hs : s.what = 3) (hf : StepFits s) (r : Int) (t' : PT) (hr : playP t s = (r, t')) (w : World) (h : TreeM w F P N y t) (hW : WellP t) (_hK : HeldK 1000000000 t) (_hN : N < 900000) :
    Calls Tryz.prog 19 #[.pointer (some ⟨P, 0, none⟩), stepV s] w (PlayPost w F P N r t') := by
  have hB : Below w.heap.size w (w.alloc (.cells #[.int .i64 s.what, .int .u32 s.dir, .int .u32 s.ino, .string s.name, .string s.toN, .int .u8 s.kind, .int .i64 s.n, .string s.data] 33)) := u_alloc1 w _
  have hT := h.below hB
  obtain ⟨⟨⟨a, b⟩, t2⟩, hq⟩ : ∃ q, dropP t s.dir s.name unlinkE = q := ⟨_, rfl⟩
  have hE : b = r ∧ t2 = t' := by
    unfold playP at hr
    simp [hs, hq] at hr
    exact hr
  have HC := Lib.hid (t_unlinkP s.dir s.name a b t2 hq _ hT hW.good hf.dir hf.name)
  obtain ⟨rfl, rfl⟩ := hE
  have HB := Lib.hid hB
  rw [hs] at HC HB
  clear hr hq hT hB h hW _hK hf
  unfold stepV
  rw [hs]
  go_enter Tryz.func19, Tryz.ntmps19
  go_wp2_with (go_at_call 13; refine HC.out.mono ?_; rintro e w1 ⟨rfl, hR⟩; have HR := Lib.hid hR; clear hR)
  go_ret
  exact ⟨rfl, HR.out.later HB.out (by omega)⟩
set_option maxRecDepth 100000 in
set_option maxHeartbeats 1000000 in
theorem t_play4 (s : PStep) (hs : s.what = 4) (hf : StepFits s) (r : Int) (t' : PT) (hr : playP t s = (r, t')) (w : World) (h : TreeM w F P N y t) (hW : WellP t) (_hK : HeldK 1000000000 t) (_hN : N < 900000) :
    Calls Tryz.prog 19 #[.pointer (some ⟨P, 0, none⟩), stepV s] w (PlayPost w F P N r t') := by
  have hB : Below w.heap.size w (w.alloc (.cells #[.int .i64 s.what, .int .u32 s.dir, .int .u32 s.ino, .string s.name, .string s.toN, .int .u8 s.kind, .int .i64 s.n, .string s.data] 33)) := u_alloc1 w _
  have hT := h.below hB
  obtain ⟨⟨⟨a, b⟩, t2⟩, hq⟩ : ∃ q, dropP t s.dir s.name rmdirE = q := ⟨_, rfl⟩
  have hE : b = r ∧ t2 = t' := by
    unfold playP at hr
    simp [hs, hq] at hr
    exact hr
  have HC := Lib.hid (t_rmdirP s.dir s.name a b t2 hq _ hT hW.good hf.dir hf.name)
  obtain ⟨rfl, rfl⟩ := hE
  have HB := Lib.hid hB
  rw [hs] at HC HB
  clear hr hq hT hB h hW _hK hf
  unfold stepV
  rw [hs]
  go_enter Tryz.func19, Tryz.ntmps19
  go_wp2_with (go_at_call 27; refine HC.out.mono ?_; rintro e w1 ⟨rfl, hR⟩; have HR := Lib.hid hR; clear hR)
  go_ret
  exact ⟨rfl, HR.out.later HB.out (by omega)⟩
set_option maxRecDepth 100000 in
set_option maxHeartbeats 1000000 in
theorem t_play5 (s : PStep) (hs : s.what = 5) (hf : StepFits s) (r : Int) (t' : PT) (hr : playP t s = (r, t')) (w : World) (h : TreeM w F P N y t) (hW : WellP t) (_hK : HeldK 1000000000 t) (hN : N < 900000) :
    Calls Tryz.prog 19 #[.pointer (some ⟨P, 0, none⟩), stepV s] w (PlayPost w F P N r t') := by
  have hB : Below w.heap.size w (w.alloc (.cells #[.int .i64 s.what, .int .u32 s.dir, .int .u32 s.ino, .string s.name, .string s.toN, .int .u8 s.kind, .int .i64 s.n, .string s.data] 33)) := u_alloc1 w _
  have hT := h.below hB
  have hq : renameP t s.dir s.name s.ino s.toN = (r, t') := by
    unfold playP at hr
    simpa [hs] using hr
  have HC := Lib.hid (t_renameP s.dir s.name s.ino s.toN r t' hq _ hT hW hf.dir hf.ino hf.name hf.toN hN)
  have HB := Lib.hid hB
  rw [hs] at HC HB
  clear hr hq hT hB h hW _hK hf
  unfold stepV
  rw [hs]
  go_enter Tryz.func19, Tryz.ntmps19
  go_wp2_with (go_at_call 24; refine HC.out.mono ?_; rintro e w1 ⟨rfl, hR⟩; have HR := Lib.hid hR; clear hR)
  go_ret
  exact ⟨rfl, HR.out.later HB.out (by omega)⟩
set_option maxRecDepth 100000 in
set_option maxHeartbeats 1000000 in
theorem t_play6 (s : PStep) (hs : s.what = 6) (hf : StepFits s) (r : Int) (t' : PT) (hr : playP t s = (r, t')) (w : World) (h : TreeM w F P N y t) (hW : WellP t) (_hK : HeldK 1000000000 t) (hN : N < 900000) :
    Calls Tryz.prog 19 #[.pointer (some ⟨P, 0, none⟩), stepV s] w (PlayPost w F P N r t') := by
  have hB : Below w.heap.size w (w.alloc (.cells #[.int .i64 s.what, .int .u32 s.dir, .int .u32 s.ino, .string s.name, .string s.toN, .int .u8 s.kind, .int .i64 s.n, .string s.data] 33)) := u_alloc1 w _
  have hT := h.below hB
  have hq : resizeP t s.ino (s.n % 4294967296) = (r, t') := by
    unfold playP at hr
    simpa [hs] using hr
  have HC := Lib.hid (t_resizeP s.ino (s.n % 4294967296) r t' hq _ hT hN hf.ino (by omega) hW.pages_)
  have HB := Lib.hid hB
  rw [hs] at HC HB
  clear hr hq hT hB h hW _hK hf
  unfold stepV
  rw [hs]
  go_enter Tryz.func19, Tryz.ntmps19
  go_wp2_with (go_at_call 31; refine HC.out.mono ?_; rintro e w1 ⟨rfl, hT1, hU1⟩; have HR := Lib.hid (show Became _ w1 F P _ _ from ⟨_, _, hT1, hU1⟩); clear hT1 hU1)
  go_ret
  exact ⟨rfl, HR.out.later HB.out (by omega)⟩
set_option maxRecDepth 100000 in
set_option maxHeartbeats 1000000 in
theorem t_play7 (s : PStep) (hs : s.what = 7) (hf : StepFits s) (r : Int) (t' : PT) (hr : playP t s = (r, t')) (w : World) (h : TreeM w F P N y t) (hW : WellP t) (_hK : HeldK 1000000000 t) (hN : N < 900000) :
    Calls Tryz.prog 19 #[.pointer (some ⟨P, 0, none⟩), stepV s] w (PlayPost w F P N r t') := by
  have hB : Below w.heap.size w (w.alloc (.cells #[.int .i64 s.what, .int .u32 s.dir, .int .u32 s.ino, .string s.name, .string s.toN, .int .u8 s.kind, .int .i64 s.n, .string s.data] 33)) := u_alloc1 w _
  have hT := h.below hB
  have hq : writeP t s.ino s.n s.data = (r, t') := by
    unfold playP at hr
    simpa [hs] using hr
  have HC := Lib.hid (t_writeP s.ino s.n s.data r t' hq _ hT hN hf.ino hf.data hW.pages_)
  have HB := Lib.hid hB
  rw [hs] at HC HB
  clear hr hq hT hB h hW _hK hf
  unfold stepV
  rw [hs]
  go_enter Tryz.func19, Tryz.ntmps19
  go_wp2_with (go_at_call 14; refine HC.out.mono ?_; rintro e w1 ⟨rfl, hT1, hU1⟩; have HR := Lib.hid (show Became _ w1 F P _ _ from ⟨_, _, hT1, hU1⟩); clear hT1 hU1)
  go_ret
  exact ⟨rfl, HR.out.later HB.out (by omega)⟩
set_option maxRecDepth 100000 in
set_option maxHeartbeats 1000000 in
theorem t_play8 (s : PStep) (hs : s.what = 8) (hf : StepFits s) (r : Int) (t' : PT) (hr : playP t s = (r, t')) (w : World) (h : TreeM w F P N y t) (hW : WellP t) (hK : HeldK 1000000000 t) (_hN : N < 900000) :
    Calls Tryz.prog 19 #[.pointer (some ⟨P, 0, none⟩), stepV s] w (PlayPost w F P N r t') := by
  have hB : Below w.heap.size w (w.alloc (.cells #[.int .i64 s.what, .int .u32 s.dir, .int .u32 s.ino, .string s.name, .string s.toN, .int .u8 s.kind, .int .i64 s.n, .string s.data] 33)) := u_alloc1 w _
  have hT := h.below hB
  have hq : holdP t s.ino = (r, t') := by
    unfold playP at hr
    simpa [hs] using hr
  have HC := Lib.hid (t_holdP s.ino r t' hq _ hT hf.ino hK hW.held_)
  have HB := Lib.hid hB
  rw [hs] at HC HB
  clear hr hq hT hB h hW hK hf
  unfold stepV
  rw [hs]
  go_enter Tryz.func19, Tryz.ntmps19
  go_wp2_with (go_at_call 15; refine HC.out.mono ?_; rintro e w1 ⟨rfl, hR⟩; have HR := Lib.hid hR; clear hR)
  go_ret
  exact ⟨rfl, HR.out.later HB.out (by omega)⟩
set_option maxRecDepth 100000 in
set_option maxHeartbeats 1000000 in
theorem t_play9 (s : PStep) (hs : s.what = 9) (hf : StepFits s) (r : Int) (t' : PT) (hr : playP t s = (r, t')) (w : World) (h : TreeM w F P N y t) (hW : WellP t) (hK : HeldK 1000000000 t) (_hN : N < 900000) :
    Calls Tryz.prog 19 #[.pointer (some ⟨P, 0, none⟩), stepV s] w (PlayPost w F P N r t') := by
  have hB : Below w.heap.size w (w.alloc (.cells #[.int .i64 s.what, .int .u32 s.dir, .int .u32 s.ino, .string s.name, .string s.toN, .int .u8 s.kind, .int .i64 s.n, .string s.data] 33)) := u_alloc1 w _
  have hT := h.below hB
  have hq : unholdP t s.ino = (r, t') := by
    unfold playP at hr
    simpa [hs] using hr
  have HC := Lib.hid (t_unholdP s.ino r t' hq _ hT hf.ino hK hW.held_)
  have HB := Lib.hid hB
  rw [hs] at HC HB
  clear hr hq hT hB h hW hK hf
  unfold stepV
  rw [hs]
  go_enter Tryz.func19, Tryz.ntmps19
  go_wp2_with (go_at_call 32; refine HC.out.mono ?_; rintro e w1 ⟨rfl, hR⟩; have HR := Lib.hid hR; clear hR)
  go_ret
  exact ⟨rfl, HR.out.later HB.out (by omega)⟩
set_option maxRecDepth 100000 in
set_option maxHeartbeats 1000000 in
theorem t_playN (s : PStep) (hs : s.what < 0 ∨ 9 < s.what) (r : Int) (t' : PT) (hr : playP t s = (r, t')) (w : World) (h : TreeM w F P N y t) :
    Calls Tryz.prog 19 #[.pointer (some ⟨P, 0, none⟩), stepV s] w (PlayPost w F P N r t') := by
  have hB : Below w.heap.size w (w.alloc (.cells #[.int .i64 s.what, .int .u32 s.dir, .int .u32 s.ino, .string s.name, .string s.toN, .int .u8 s.kind, .int .i64 s.n, .string s.data] 33)) := u_alloc1 w _
  have hT := h.below hB
  have hE : r = 0 ∧ t = t' := by
    unfold playP at hr
    rw [if_neg (by omega), if_neg (by omega), if_neg (by omega), if_neg (by omega), if_neg (by omega), if_neg (by omega), if_neg (by omega), if_neg (by omega), if_neg (by omega), if_neg (by omega)] at hr
    injection hr with h1 h2
    exact ⟨h1.symm, h2⟩
  obtain ⟨rfl, rfl⟩ := hE
  have n0 : (s.what == 0) = false := by simp; omega
  have n1 : (s.what == 1) = false := by simp; omega
  have n2 : (s.what == 2) = false := by simp; omega
  have n3 : (s.what == 3) = false := by simp; omega
  have n4 : (s.what == 4) = false := by simp; omega
  have n5 : (s.what == 5) = false := by simp; omega
  have n6 : (s.what == 6) = false := by simp; omega
  have n7 : (s.what == 7) = false := by simp; omega
  have n8 : (s.what == 8) = false := by simp; omega
  have n9 : (s.what == 9) = false := by simp; omega
  have HR := Lib.hid (show Became w _ F P _ _ from ⟨_, _, hT.mono (Nat.le_add_right N 2), Turn.of_below F hB⟩)
  clear hr hT hB h hs
  unfold stepV
  go_enter Tryz.func19, Tryz.ntmps19
  go_wp2
  go_ret
  exact ⟨rfl, HR.out⟩
theorem t_play (s : PStep) (hf : StepFits s) (r : Int) (t' : PT) (hr : playP t s = (r, t')) (w : World) (h : TreeM w F P N y t) (hW : WellP t) (hK : HeldK 1000000000 t) (hN : N < 900000) :
    Calls Tryz.prog 19 #[.pointer (some ⟨P, 0, none⟩), stepV s] w (PlayPost w F P N r t') := by
  by_cases hn : s.what < 0 ∨ 9 < s.what
  · exact t_playN s hn r t' hr w h
  · rcases (show s.what = 0 ∨ s.what = 1 ∨ s.what = 2 ∨ s.what = 3 ∨ s.what = 4 ∨ s.what = 5 ∨ s.what = 6 ∨ s.what = 7 ∨ s.what = 8 ∨ s.what = 9 by omega) with e | e | e | e | e | e | e | e | e | e
    · exact t_play0 s e hf r t' hr w h hW hK hN
    · exact t_play1 s e hf r t' hr w h hW hK hN
    · exact t_play2 s e hf r t' hr w h hW hK hN
    · exact t_play3 s e hf r t' hr w h hW hK hN
    · exact t_play4 s e hf r t' hr w h hW hK hN
    · exact t_play5 s e hf r t' hr w h hW hK hN
    · exact t_play6 s e hf r t' hr w h hW hK hN
    · exact t_play7 s e hf r t' hr w h hW hK hN
    · exact t_play8 s e hf r t' hr w h hW hK hN
    · exact t_play9 s e hf r t' hr w h hW hK hN
end
end Go.Proofs.YtpcjbfhgmcioaaaGreat
