/- Get: what memory holds between its statements. -/
import Derived.Test.YtogljgiefmfafaaGreatPb29
import Derived.Test.YtogljgiefmfafaaGreatPb30
import Derived.Laws.EntriesVeiled
namespace Go.Proofs.YtogljgiefmfafaaGreat
section
open Go.RowKit Go.Maps
abbrev fCutV (Bs Bb : Nat) : Value := .func (.func 100) #[] #[.pointer (some ⟨Bs, 0, none⟩), .pointer (some ⟨Bb, 0, none⟩)]
abbrev fNumV (Bc : Nat) : Value := .func (.func 103) #[] #[.pointer (some ⟨Bc, 0, none⟩)]
structure StG (w : World) (Bs Br Bb Bc Bn : Nat) (d : Rd) (r : R) (W : World) : Prop where
 rd : RdAt W Bs Bb d
 rc : W.heap[Br]? = some (.cells (cellsR r) 50 (0, 0))
 cut : W.heap[Bc]? = some (.cells #[fCutV Bs Bb] 175 (0, 0))
 num : W.heap[Bn]? = some (.cells #[fNumV Bc] 178 (0, 0))
 below : Below w.heap.size w W
 ls : w.heap.size ≤ Bs
 lr : w.heap.size ≤ Br
 lb : w.heap.size ≤ Bb
 len : d.s.length ≤ maxLen
structure StK (w : World) (Bs Br Bb Bc Bn Bk : Nat) (kc : Array Value) (d : Rd) (r : R) (W : World) : Prop where
 g : StG w Bs Br Bb Bc Bn d r W
 kd : W.heap[Bk]? = some (.cells kc 118 (0, 0))
section
variable {w W W' : World} {Bs Br Bb Bc Bn Bk : Nat} {kc : Array Value} {d d' : Rd} {r r' : R}
theorem StG.nrs (h : StG w Bs Br Bb Bc Bn d r W) : Br ≠ Bs := fun e => by have a := h.rc; rw [e, h.rd.s] at a; injection a with a; injection a with _ a; cases a
theorem StG.nrb (h : StG w Bs Br Bb Bc Bn d r W) : Br ≠ Bb := fun e => by have a := h.rc; rw [e, h.rd.b] at a; injection a with a; injection a with _ a; cases a
theorem StG.ncs (h : StG w Bs Br Bb Bc Bn d r W) : Bc ≠ Bs := fun e => by have a := h.cut; rw [e, h.rd.s] at a; injection a with a; injection a with _ a; cases a
theorem StG.ncb (h : StG w Bs Br Bb Bc Bn d r W) : Bc ≠ Bb := fun e => by have a := h.cut; rw [e, h.rd.b] at a; injection a with a; injection a with _ a; cases a
theorem StG.nns (h : StG w Bs Br Bb Bc Bn d r W) : Bn ≠ Bs := fun e => by have a := h.num; rw [e, h.rd.s] at a; injection a with a; injection a with _ a; cases a
theorem StG.nnb (h : StG w Bs Br Bb Bc Bn d r W) : Bn ≠ Bb := fun e => by have a := h.num; rw [e, h.rd.b] at a; injection a with a; injection a with _ a; cases a
theorem StG.ncr (h : StG w Bs Br Bb Bc Bn d r W) : Bc ≠ Br := fun e => by have a := h.cut; rw [e, h.rc] at a; injection a with a; injection a with _ a; cases a
theorem StG.nnr (h : StG w Bs Br Bb Bc Bn d r W) : Bn ≠ Br := fun e => by have a := h.num; rw [e, h.rc] at a; injection a with a; injection a with _ a; cases a
theorem StK.nks (h : StK w Bs Br Bb Bc Bn Bk kc d r W) : Bk ≠ Bs := fun e => by have a := h.kd; rw [e, h.g.rd.s] at a; injection a with a; injection a with _ a; cases a
theorem StK.nkb (h : StK w Bs Br Bb Bc Bn Bk kc d r W) : Bk ≠ Bb := fun e => by have a := h.kd; rw [e, h.g.rd.b] at a; injection a with a; injection a with _ a; cases a
theorem StK.nkr (h : StK w Bs Br Bb Bc Bn Bk kc d r W) : Bk ≠ Br := fun e => by have a := h.kd; rw [e, h.g.rc] at a; injection a with a; injection a with _ a; cases a
theorem StG.rel (h : StG w Bs Br Bb Bc Bn d r W) (h1 : RdAt W' Bs Bb d') (h2 : Rel2 Bs Bb W W') (hl : d'.s.length ≤ d.s.length) : StG w Bs Br Bb Bc Bn d' r W' :=
 ⟨h1, (h2.old _ (lt_heap h.rc) h.nrs h.nrb).trans h.rc, (h2.old _ (lt_heap h.cut) h.ncs h.ncb).trans h.cut, (h2.old _ (lt_heap h.num) h.nns h.nnb).trans h.num,
  ⟨h2.os.trans h.below.os, h2.tape.trans h.below.tape, h2.output.trans h.below.output, Nat.le_trans h.below.size h2.size, fun b hb => (h2.old b (Nat.lt_of_lt_of_le hb h.below.size) (by have := h.ls; omega) (by have := h.lb; omega)).trans (h.below.block b hb)⟩, h.ls, h.lr, h.lb, Nat.le_trans hl h.len⟩
theorem StG.mono (h : StG w Bs Br Bb Bc Bn d r W) (hb : Below W.heap.size W W') : StG w Bs Br Bb Bc Bn d r W' := h.rel (h.rd.below hb) (Rel2.of_below hb) (Nat.le_refl _)
theorem StG.set (h : StG w Bs Br Bb Bc Bn d r W) (i : Nat) (v : Value) (he : (cellsR r).setIfInBounds i v = cellsR r') : StG w Bs Br Bb Bc Bn d r' (W.setCell ⟨Br, i, none⟩ v) := by
 have hg := pgrown_set W Br i v
 have ne : ∀ b, b ≠ Br → some b ≠ some Br := fun b hb e => hb (by injection e)
 exact ⟨⟨(hg.block _ (lt_heap h.rd.s) (ne _ (Ne.symm h.nrs))).trans h.rd.s, (hg.block _ (lt_heap h.rd.b) (ne _ (Ne.symm h.nrb))).trans h.rd.b⟩,
  by rw [pheap_set W Br i v _ _ h.rc, he], (hg.block _ (lt_heap h.cut) (ne _ h.ncr)).trans h.cut, (hg.block _ (lt_heap h.num) (ne _ h.nnr)).trans h.num, below_grown h.below hg h.lr, h.ls, h.lr, h.lb, h.len⟩
theorem StK.rel (h : StK w Bs Br Bb Bc Bn Bk kc d r W) (h1 : RdAt W' Bs Bb d') (h2 : Rel2 Bs Bb W W') (hl : d'.s.length ≤ d.s.length) : StK w Bs Br Bb Bc Bn Bk kc d' r W' :=
 ⟨h.g.rel h1 h2 hl, (h2.old _ (lt_heap h.kd) h.nks h.nkb).trans h.kd⟩
theorem StK.mono (h : StK w Bs Br Bb Bc Bn Bk kc d r W) (hb : Below W.heap.size W W') : StK w Bs Br Bb Bc Bn Bk kc d r W' := h.rel (h.g.rd.below hb) (Rel2.of_below hb) (Nat.le_refl _)
theorem StK.set (h : StK w Bs Br Bb Bc Bn Bk kc d r W) (i : Nat) (v : Value) (he : (cellsR r).setIfInBounds i v = cellsR r') : StK w Bs Br Bb Bc Bn Bk kc d r' (W.setCell ⟨Br, i, none⟩ v) :=
 ⟨h.g.set i v he, ((pgrown_set W Br i v).block _ (lt_heap h.kd) (fun e => h.nkr (by injection e))).trans h.kd⟩
theorem StG.cn (h : StG w Bs Br Bb Bc Bn d r W) : W.cell? ⟨Bn, 0, none⟩ = some (fNumV Bc) := by simp only [World.cell?, h.num]; rfl
theorem StG.cc (h : StG w Bs Br Bb Bc Bn d r W) : W.cell? ⟨Bc, 0, none⟩ = some (fCutV Bs Bb) := by simp only [World.cell?, h.cut]; rfl
theorem StG.cr (h : StG w Bs Br Bb Bc Bn d r W) (i : Nat) (v : Value) (hv : (cellsR r)[i]? = some v) : W.cell? ⟨Br, i, none⟩ = some v := by simp only [World.cell?, h.rc]; exact hv
theorem StG.fr (h : StG w Bs Br Bb Bc Bn d r W) (i : Nat) : W.frozen? ⟨Br, i, none⟩ = false := by simp [World.frozen?, h.rc]
theorem num_left (n : Nat) (d : Rd) : (numR n d).2.s.length ≤ d.s.length := cut_left n d
theorem num_lt (n : Nat) (d : Rd) : (numR n d).1 < 256 ^ n := by
 have := leN_lt (cutR n d).1
 rw [cut_len] at this
 exact this
theorem word_left (d : Rd) : (wordR d).2.s.length ≤ d.s.length := Nat.le_trans (cut_left _ _) (num_left 1 d)
theorem word_lt (d : Rd) : (wordR d).1.length < 256 := by
 unfold wordR
 rw [cut_len]
 exact num1_lt d
theorem g_num (n : Nat) (hn : n ≤ 8) {v : Nat} (he : numR n d = (v, d')) (h : StG w Bs Br Bb Bc Bn d r W) :
  Calls Tryz.prog 103 #[.int .i64 (n : Int), .pointer (some ⟨Bc, 0, none⟩)] W fun e W' => e = .returned (.int .u64 (v : Int)) ∧ RdAt W' Bs Bb d' ∧ Rel2 Bs Bb W W' ∧ d'.s.length ≤ d.s.length := by
 refine (t_get2 n hn Bs Bb Bc d W h.rd h.len h.cc).mono ?_
 rintro e W' ⟨rfl, h1, h2⟩
 have hl := num_left n d
 rw [he] at h1 hl ⊢
 exact ⟨rfl, h1, h2, hl⟩
theorem g_num8 {v : Nat} (he : numR 8 d = (v, d')) (h : StG w Bs Br Bb Bc Bn d r W) : Calls Tryz.prog 103 #[.int .i64 8, .pointer (some ⟨Bc, 0, none⟩)] W fun e W' => e = .returned (.int .u64 (v : Int)) ∧ RdAt W' Bs Bb d' ∧ Rel2 Bs Bb W W' ∧ d'.s.length ≤ d.s.length := g_num 8 (by decide) he h
theorem g_num4 {v : Nat} (he : numR 4 d = (v, d')) (h : StG w Bs Br Bb Bc Bn d r W) : Calls Tryz.prog 103 #[.int .i64 4, .pointer (some ⟨Bc, 0, none⟩)] W fun e W' => e = .returned (.int .u64 (v : Int)) ∧ RdAt W' Bs Bb d' ∧ Rel2 Bs Bb W W' ∧ d'.s.length ≤ d.s.length := g_num 4 (by decide) he h
theorem g_num1 {v : Nat} (he : numR 1 d = (v, d')) (h : StG w Bs Br Bb Bc Bn d r W) : Calls Tryz.prog 103 #[.int .i64 1, .pointer (some ⟨Bc, 0, none⟩)] W fun e W' => e = .returned (.int .u64 (v : Int)) ∧ RdAt W' Bs Bb d' ∧ Rel2 Bs Bb W W' ∧ d'.s.length ≤ d.s.length := g_num 1 (by decide) he h
theorem g_word {l : List UInt8} (he : wordR d = (l, d')) (h : StG w Bs Br Bb Bc Bn d r W) :
  Calls Tryz.prog 105 #[.pointer (some ⟨Bc, 0, none⟩), .pointer (some ⟨Bn, 0, none⟩)] W fun e W' => e = .returned (.string ⟨l.toArray⟩) ∧ RdAt W' Bs Bb d' ∧ Rel2 Bs Bb W W' ∧ d'.s.length ≤ d.s.length := by
 refine (t_get3 Bs Bb Bc Bn d W h.rd h.len h.cut h.num).mono ?_
 rintro e W' ⟨rfl, h1, h2⟩
 have hl := word_left d
 rw [he] at h1 hl ⊢
 exact ⟨rfl, h1, h2, hl⟩
theorem g_cut64 {l : List UInt8} (he : cutR 64 d = (l, d')) (h : StG w Bs Br Bb Bc Bn d r W) :
  Calls Tryz.prog 100 #[.int .i64 64, .pointer (some ⟨Bs, 0, none⟩), .pointer (some ⟨Bb, 0, none⟩)] W fun e W' => e = .returned (.string ⟨l.toArray⟩) ∧ RdAt W' Bs Bb d' ∧ Rel2 Bs Bb W W' ∧ d'.s.length ≤ d.s.length := by
 refine (t_get1 64 (by decide) Bs Bb d W h.rd h.len).mono ?_
 rintro e W' ⟨rfl, h1, h2⟩
 have hl := cut_left 64 d
 rw [he] at h1 hl ⊢
 exact ⟨rfl, h1, h2, hl⟩
theorem StG.zero (h : StG w Bs Br Bb Bc Bn d r W) : StG w Bs Br Bb Bc Bn d ⟨0, 0, 0, ⟨#[]⟩, 0, 0, 0, ⟨#[]⟩, 0, 0, 0, ⟨#[]⟩⟩ ((((((((((((W.setCell ⟨Br, 0, none⟩ (.int .u64 0)).setCell ⟨Br, 1, none⟩ (.int .u8 0)).setCell ⟨Br, 2, none⟩ (.int .u32 0)).setCell ⟨Br, 3, none⟩ (.string ⟨#[]⟩)).setCell ⟨Br, 4, none⟩ (.int .u32 0)).setCell ⟨Br, 5, none⟩ (.int .u8 0)).setCell ⟨Br, 6, none⟩ (.int .u32 0)).setCell ⟨Br, 7, none⟩ (.string ⟨#[]⟩)).setCell ⟨Br, 8, none⟩ (.int .u32 0)).setCell ⟨Br, 9, none⟩ (.int .u32 0)).setCell ⟨Br, 10, none⟩ (.int .i64 0)).setCell ⟨Br, 11, none⟩ (.string ⟨#[]⟩)) := by
 have h0 := h.set 0 (.int .u64 0) (r' := { r with stamp := 0 }) rfl
 have h1 := h0.set 1 (.int .u8 0) (r' := { r with stamp := 0, act := 0 }) rfl
 have h2 := h1.set 2 (.int .u32 0) (r' := { r with stamp := 0, act := 0, dir := 0 }) rfl
 have h3 := h2.set 3 (.string ⟨#[]⟩) (r' := { r with stamp := 0, act := 0, dir := 0, name := ⟨#[]⟩ }) rfl
 have h4 := h3.set 4 (.int .u32 0) (r' := { r with stamp := 0, act := 0, dir := 0, name := ⟨#[]⟩, ino := 0 }) rfl
 have h5 := h4.set 5 (.int .u8 0) (r' := { r with stamp := 0, act := 0, dir := 0, name := ⟨#[]⟩, ino := 0, kind := 0 }) rfl
 have h6 := h5.set 6 (.int .u32 0) (r' := { r with stamp := 0, act := 0, dir := 0, name := ⟨#[]⟩, ino := 0, kind := 0, dir2 := 0 }) rfl
 have h7 := h6.set 7 (.string ⟨#[]⟩) (r' := { r with stamp := 0, act := 0, dir := 0, name := ⟨#[]⟩, ino := 0, kind := 0, dir2 := 0, name2 := ⟨#[]⟩ }) rfl
 have h8 := h7.set 8 (.int .u32 0) (r' := { r with stamp := 0, act := 0, dir := 0, name := ⟨#[]⟩, ino := 0, kind := 0, dir2 := 0, name2 := ⟨#[]⟩, old := 0 }) rfl
 have h9 := h8.set 9 (.int .u32 0) (r' := { r with stamp := 0, act := 0, dir := 0, name := ⟨#[]⟩, ino := 0, kind := 0, dir2 := 0, name2 := ⟨#[]⟩, old := 0, size := 0 }) rfl
 have h10 := h9.set 10 (.int .i64 0) (r' := { r with stamp := 0, act := 0, dir := 0, name := ⟨#[]⟩, ino := 0, kind := 0, dir2 := 0, name2 := ⟨#[]⟩, old := 0, size := 0, page := 0 }) rfl
 have h11 := h10.set 11 (.string ⟨#[]⟩) (r' := { r with stamp := 0, act := 0, dir := 0, name := ⟨#[]⟩, ino := 0, kind := 0, dir2 := 0, name2 := ⟨#[]⟩, old := 0, size := 0, page := 0, data := ⟨#[]⟩ }) rfl
 exact h11
theorem cellsR_one (r : R) : (cellsR r).all (·.oneCell') = true := by
 rw [← Array.all_toList]
 simp only [List.all_cons, List.all_nil, Bool.and_true]
 rfl
theorem infoR : (Tryz.prog.info? 50).map (·.size) = some 12 := by kernel_rfl
end
theorem results_rec3 {fn : Func} {p u v : Tmp} (h : fn.results = #[.cell p 50, .tmp u, .tmp v]) (tmps : Array Value) (w : World) (g : Nat) (t : TypeId) (cs : Array Value) (fr : Nat × Nat)
  (hp : tmps.getD p undef = .pointer (some ⟨g, 0, none⟩)) (hg : w.heap[g]? = some (.cells cs t fr)) (hi : (Tryz.prog.info? 50).map (·.size) = some cs.size) :
  (results fn tmps).run Tryz.prog w = .ok (.tuple #[.agg cs, tmps.getD u undef, tmps.getD v undef]) w := by
 have hp' : tmps[p]?.getD undef = .pointer (some ⟨g, 0, none⟩) := by simpa using hp
 simp [results, h, hp', asAddr, run_loadVar_row w g t 50 cs fr _ hg Tryz.underlying50 rfl hi]
theorem below_same {W W' : World} {B : Nat} (hg : W.grownBy W' (some B)) (h : W'.heap[B]? = W.heap[B]?) : Below W.heap.size W W' :=
 ⟨hg.os, hg.tape, hg.output, hg.size, fun b hb => by
  by_cases e : b = B
  · rw [e]; exact h
  · exact hg.block b hb (fun e' => e (by injection e'))⟩
theorem optN_lt (c : Bool) (n : Nat) (d : Rd) : (optN c n d).1 < 256 ^ n := by
 unfold optN
 split
 · exact num_lt n d
 · exact Nat.pow_pos (by omega)
theorem optW_lt (c : Bool) (d : Rd) : (optW c d).1.length < 256 := by
 unfold optW
 split
 · exact word_lt d
 · simp
theorem wrap_u8_nat (m : Nat) (h : m < 256) : IntKind.u8.wrap (m : Int) = m := by
 simp only [IntKind.wrap, IntKind.bits, IntKind.signed]
 simp
 omega
theorem wrap_u32_nat (m : Nat) (h : m < 4294967296) : IntKind.u32.wrap (m : Int) = m := by
 simp only [IntKind.wrap, IntKind.bits, IntKind.signed]
 simp
 omega
end
end Go.Proofs.YtogljgiefmfafaaGreat
