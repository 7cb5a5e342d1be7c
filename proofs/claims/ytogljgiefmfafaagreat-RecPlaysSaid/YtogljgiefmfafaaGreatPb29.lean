/- strings.Builder's and strings.Repeat's contracts, at this program's numbers. -/
import Derived.Test.YtogljgiefmfafaaGreatPb19
import Derived.Test.YtogljgiefmfafaaGreatPb20
import Derived.Test.YtogljgiefmfafaaGreatPb22
import Derived.Test.YtogljgiefmfafaaGreatPb28
import Derived.Shelf.Strings.BuilderK
import Derived.Shelf.Strings.Repeat
namespace Go.Proofs.YtogljgiefmfafaaGreat
section
open Go.RowKit
theorem repX : Builder.Extra Tryz.prog rep_ren := {
 sizeBuilder := by kernel_rfl
 liesBuilder := by kernel_rfl
 t5 := Tryz.underlying5
 a5 := Tryz.isAgg5
 z5 := Tryz.sizeOf5
 v5 := Tryz.zeroValue5
 infoByte := by kernel_rfl
 cellsByte := by kernel_rfl
 sizeByte := by kernel_rfl
 neB5 := by decide }
abbrev IsB (B b : Nat) (l : List UInt8) (w : World) : Prop := Lib.IsBuilderF 162 5 B b (Lib.byteCells l) w
abbrev KeptW (b : Nat) (w w' : World) : Prop := Lib.OthersKept 5 (some b) w w'
theorem b_write (B b : Nat) (l : List UInt8) (s : ByteArray) (w : World) (h : IsB B b l w) (hlen : l.length + s.size ≤ 140737488355328) (hBw : B ≤ w.heap.size) :
  Calls Tryz.prog 96 #[.pointer (some ⟨b, 0, none⟩), .string s] w fun e w' => e = .returned (.tuple #[.int .i64 s.size, .nilIface]) ∧ IsB B b (l ++ s.data.toList) w' ∧ Below B w w' ∧ KeptW b w w' := by
 refine (Any.Builder_WriteString_k (P := Tryz.prog) (ρ := rep_ren) { rep with } repX B b (Lib.byteCells l) s w h (by rw [show (Lib.byteCells l).length = l.length by simp [Lib.byteCells]]; exact hlen) hBw).mono ?_
 rintro e w' ⟨rfl, h1, h2, h3⟩
 refine ⟨rfl, ?_, h2, h3⟩
 right
 have : Lib.byteCells (l ++ s.data.toList) = Lib.byteCells l ++ Lib.strCells s := by
  simp [Lib.byteCells, Lib.strCells]
 rw [this]
 exact h1
theorem b_string (B b : Nat) (l : List UInt8) (w : World) (h : IsB B b l w) (hBw : B ≤ w.heap.size) :
  Calls Tryz.prog 99 #[.pointer (some ⟨b, 0, none⟩)] w fun e w' => e = .returned (.string ⟨l.toArray⟩) ∧ Below B w w' := by
 refine (Any.Builder_String_any_f (P := Tryz.prog) (ρ := rep_ren) { rep with } repX B b l w h hBw).mono ?_
 rintro e w' ⟨rfl, _, h2⟩
 exact ⟨rfl, h2⟩
theorem IsB.below {B b : Nat} {l : List UInt8} {w w' : World} (h : IsB B b l w) (hb : Below w.heap.size w w') : IsB B b l w' := by
 have hg : w.grownBy w' none := ⟨hb.os, hb.tape, hb.output, hb.size, fun k hk _ => hb.block k hk⟩
 have key : ∀ p, Lib.BuilderAtF 162 5 B b p (Lib.byteCells l) w → Lib.BuilderAtF 162 5 B b p (Lib.byteCells l) w' := fun p ⟨h1, v, h2, h3, h4⟩ =>
  ⟨h1, v, (hb.block b (Array.getElem?_eq_some_iff.1 h2).1).trans h2, h3.kept hg (by cases hv : v.ownBlock with | none => exact .inl rfl | some x => exact .inr (by simp)), h4⟩
 rcases h with h | h
 · exact .inl (key _ h)
 · exact .inr (key _ h)
theorem IsB.new (B : Nat) (w : World) (hB : B ≤ w.heap.size) : IsB B w.heap.size [] (w.alloc (.cells #[.pointer none, .slice none 0 0] 162)) :=
 .inl ⟨hB, _, heap_alloc_new _ _, World.ownsRowF_nil _ _ _ _, by simp [Value.ownBlock]⟩
theorem IsB.lt {B b : Nat} {l : List UInt8} {w : World} (h : IsB B b l w) : b < w.heap.size := by
 rcases h with ⟨_, v, h2, _⟩ | ⟨_, v, h2, _⟩ <;> exact (Array.getElem?_eq_some_iff.1 h2).1
theorem s_repeat (s : ByteArray) (c : Nat) (w : World) (hc : c ≤ 9223372036854775807) (hlen : s.size * c ≤ 140737488355328) :
  Calls Tryz.prog 102 #[.string s, .int .i64 c] w fun e w' => e = .returned (.string ⟨(Lib.repeatL s.data.toList c).toArray⟩) ∧ Below w.heap.size w w' :=
 Any.strings_Repeat (P := Tryz.prog) (ρ := rep_ren) rep repX s c w hc hlen
end

section
open Go.RowKit Go.Maps
def TextsAt (w : World) (g : Nat) (ss : List ByteArray) : Prop := w.heap[g]? = some (.cells (ss.map Value.string).toArray 9 (0, 0))
def flatB (ss : List ByteArray) : List UInt8 := ss.flatMap fun s => s.data.toList
theorem TextsAt.cell {w : World} {g : Nat} {ss : List ByteArray} (h : TextsAt w g ss) {k : Nat} (hk : k < ss.length) : w.cell? ⟨g, k, none⟩ = some (.string ss[k]) := by
 unfold TextsAt at h
 simp only [World.cell?, h]
 simp [hk]
theorem TextsAt.kept {w w' : World} {g b : Nat} {ss : List ByteArray} (h : TextsAt w g ss) (hg : g ≠ b) (hk : KeptW b w w') : TextsAt w' g ss :=
 hk g _ h (fun e => hg (by injection e)) (fun c fz e => by injection e with _ e; cases e)
theorem flatB_take (ss : List ByteArray) (k : Nat) (hk : k < ss.length) : flatB (ss.take (k + 1)) = flatB (ss.take k) ++ ss[k].data.toList := by
 unfold flatB
 rw [List.take_succ_eq_append_getElem hk, List.flatMap_append]
 simp
theorem flatB_le (ss : List ByteArray) (k : Nat) : (flatB (ss.take k)).length ≤ (flatB ss).length := by
 unfold flatB
 conv => rhs; rw [← List.take_append_drop k ss]
 rw [List.flatMap_append, List.length_append]
 omega
set_option maxRecDepth 100000 in
set_option maxHeartbeats 2000000 in
theorem t_put1 (is : Bool) (ss : List ByteArray) (n g B b : Nat) (l : List UInt8) (w : World) (hn : ss.length = n) (hn2 : n ≤ 60000) (hs : TextsAt w g ss) (hgb : g ≠ b) (hB : IsB B b l w) (hBw : B ≤ w.heap.size)
  (hlen : l.length + (flatB ss).length ≤ 140737488355328) :
  Calls Tryz.prog 95 #[.bool is, .slice (some ⟨g, 0, none⟩) n n, .pointer (some ⟨b, 0, none⟩)] w fun e w' => e = .returned (.tuple #[]) ∧ IsB B b (l ++ onB is (flatB ss)) w' ∧ Below B w w' ∧ KeptW b w w' := by
 have HN := zz hn
 have HS := zz hs
 have HB := zz hB
 have HL := zz hlen
 clear hn hs hB hlen
 go_enter Tryz.func95, Tryz.ntmps95
 go_wp2
 go_loopw [9] (fun x wr => ∃ k : Nat, x = .int .i64 (k : Int) ∧ k ≤ n ∧ Hid (IsB B b (l ++ onB is (flatB (ss.take k))) wr ∧ Below B w wr ∧ KeptW b w wr)) (fun x _ => n - (intOf x).toNat)
 case atStart => exact ⟨0, rfl, Nat.zero_le _, by show _ ∧ _; refine ⟨?_, Below.refl _ _, Lib.OthersKept.refl _ _ _⟩; have := HB.out; cases is <;> simpa [flatB, onB] using this⟩
 case round =>
  obtain ⟨k, rfl, hk, HR⟩ := hrel
  by_cases he : k = n
  · have hf : ss.take k = ss := List.take_of_length_le (by rw [HN.out]; omega)
    have h1 := HR.out
    rw [hf] at h1
    have H1 := zz h1
    clear h1 hf
    go_wp2
    all_goals
     go_end0
     exact ⟨rfl, H1.out⟩
  · have hk2 : k < n := by omega
    have hk3 : k < ss.length := by rw [HN.out]; exact hk2
    have c1 := (HS.out.kept hgb HR.out.2.2).cell hk3
    have hle := flatB_le ss (k + 1)
    rw [flatB_take ss k hk3, List.length_append] at hle
    have hd : ss[k].data.toList.length = ss[k].size := by rw [← Lib.size_eq]
    rw [hd] at hle
    cases is
    · have HR2 : Hid (IsB B b (l ++ onB false (flatB (ss.take (k + 1)))) wr ∧ Below B w wr ∧ KeptW b w wr) := HR
      clear hle hd
      go_wp2
      refine ⟨⟨k + 1, rfl, hk2, HR2⟩, ?_⟩
      simp only [intOf]
      omega
    · have hl := HL.out
      have hlt : (l ++ onB true (flatB (ss.take k))).length + ss[k].size ≤ 140737488355328 := by show (l ++ flatB (ss.take k)).length + _ ≤ _; rw [List.length_append]; omega
      have HLT := zz hlt
      have HBW : Hid (B ≤ wr.heap.size) := Nat.le_trans hBw HR.out.2.1.size
      clear hle hd hl hlt
      go_wp2_with (go_at_call 96; (with_reducible refine (b_write B b _ _ _ HR.out.1 HLT.out HBW.out).mono ?_); rintro e w2 ⟨rfl, g1, g2, g3⟩; have HG := zz (And.intro g1 (And.intro g2 g3)); clear g1 g2 g3)
      refine ⟨⟨k + 1, rfl, hk2, ?_⟩, ?_⟩
      · show _ ∧ _
        obtain ⟨g1, g2, g3⟩ := HG.out
        refine ⟨?_, HR.out.2.1.trans g2, HR.out.2.2.trans g3⟩
        rw [flatB_take ss k hk3]
        simpa [onB] using g1
      · simp only [intOf]
        omega
end

section
open Go.RowKit Go.Maps
def nB (v n : Nat) : ByteArray := ⟨(leB v n).toArray⟩
def tB (s : ByteArray) : ByteArray := ⟨(leB s.size 1 ++ s.data.toList).toArray⟩
theorem nB_list (v n : Nat) : (nB v n).data.toList = leB v n := by simp [nB]
theorem tB_list (s : ByteArray) : (tB s).data.toList = leB s.size 1 ++ s.data.toList := by simp [tB]
theorem t_num8 (v : Int) (h0 : 0 ≤ v ∧ v ≤ 18446744073709551615) (w : World) : Calls Tryz.prog 97 #[.int .u64 v, .int .i64 8] w fun e w' => e = .returned (.string (nB v.toNat 8)) ∧ Below w.heap.size w w' := by
 have h := t_rnum v.toNat 8 (by omega) (by omega) w
 rw [Int.toNat_of_nonneg h0.1] at h
 exact h
theorem t_num4 (v : Int) (h0 : 0 ≤ v ∧ v ≤ 4294967295) (w : World) : Calls Tryz.prog 97 #[.int .u64 v, .int .i64 4] w fun e w' => e = .returned (.string (nB v.toNat 4)) ∧ Below w.heap.size w w' := by
 have h := t_rnum v.toNat 4 (by omega) (by omega) w
 rw [Int.toNat_of_nonneg h0.1] at h
 exact h
theorem t_num1 (v : Int) (h0 : 0 ≤ v ∧ v ≤ 255) (w : World) : Calls Tryz.prog 97 #[.int .u64 v, .int .i64 1] w fun e w' => e = .returned (.string (nB v.toNat 1)) ∧ Below w.heap.size w w' := by
 have h := t_rnum v.toNat 1 (by omega) (by omega) w
 rw [Int.toNat_of_nonneg h0.1] at h
 exact h
theorem t_textB (s : ByteArray) (hs : s.size ≤ 255) (w : World) : Calls Tryz.prog 98 #[.string s] w fun e w' => e = .returned (.string (tB s)) ∧ Below w.heap.size w w' := t_rtext s hs w
structure StP (r : R) (w : World) (B5 b : Nat) (wd : ByteArray) (f : Value) (l : List UInt8) (W : World) : Prop where
 rc : W.heap[w.heap.size]? = some (.cells #[.int .u64 r.stamp, .int .u8 r.act, .int .u32 r.dir, .string r.name, .int .u32 r.ino, .int .u8 r.kind, .int .u32 r.dir2, .string r.name2, .int .u32 r.old, .int .u32 r.size, .int .i64 r.page, .string r.data] 50 (0, 0))
 kd : W.heap[B5]? = some (.cells #[.string wd, .bool (kEntry r.act), .bool (kKind r.act), .bool (kMove r.act), .bool (kSized r.act), .bool (kData r.act), f] 118 (0, 0))
 sb : IsB w.heap.size b l W
 below : Below w.heap.size w W
 n1 : w.heap.size ≠ b
 n2 : B5 ≠ b
theorem KeptW.of_below {b : Nat} {W W' : World} (h : Below W.heap.size W W') : KeptW b W W' := fun k _o hk _ _ => (h.block k (Array.getElem?_eq_some_iff.1 hk).1).trans hk
section
variable {r : R} {w : World} {B5 b : Nat} {wd : ByteArray} {f : Value} {l l' : List UInt8} {W W' : World}
theorem StP.mono (h : StP r w B5 b wd f l W) (hb : Below W.heap.size W W') : StP r w B5 b wd f l W' := by
 have lt : ∀ (B : Nat) (o : Obj), W.heap[B]? = some o → B < W.heap.size := fun B o h => (Array.getElem?_eq_some_iff.1 h).1
 exact ⟨(hb.block _ (lt _ _ h.rc)).trans h.rc, (hb.block _ (lt _ _ h.kd)).trans h.kd, h.sb.below hb, h.below.trans (hb.mono h.below.size), h.n1, h.n2⟩
theorem StP.put (h : StP r w B5 b wd f l W) (hs : IsB w.heap.size b l' W') (hb : Below w.heap.size W W') (hk : KeptW b W W') : StP r w B5 b wd f l' W' :=
 ⟨hk _ _ h.rc (fun e => h.n1 (by injection e)) (fun c fz e => by injection e with _ e; cases e), hk _ _ h.kd (fun e => h.n2 (by injection e)) (fun c fz e => by injection e with _ e; cases e), hs, h.below.trans hb, h.n1, h.n2⟩
end
def stL (a b : List UInt8) : Nat → List UInt8
 | 0 => a
 | _ + 1 => b
def isTexts (b n : Nat) (ss : List ByteArray) : Ph := fun v W => ∃ g, v = .slice (some ⟨g, 0, none⟩) n n ∧ g ≠ b ∧ TextsAt W g ss
theorem isTexts.stays {b n : Nat} {ss : List ByteArray} : ∀ v W W', isTexts b n ss v W → KeptW b W W' → isTexts b n ss v W' := fun _ _ _ ⟨g, h1, h2, h3⟩ hk => ⟨g, h1, h2, h3.kept h2 hk⟩
theorem onB_len (c : Bool) (l : List UInt8) : (onB c l).length ≤ l.length := by unfold onB; split <;> simp
theorem put_bytes (r : R) (L1 L2 L3 L4 L5 L6 L7 : List UInt8) (h1 : ([] : List UInt8) ++ onB true (flatB [nB r.stamp.toNat 8, nB r.act.toNat 1]) = L1)
  (h2 : L1 ++ onB (kEntry r.act) (flatB [nB r.dir.toNat 4, tB r.name]) = L2) (h3 : L2 ++ onB true (flatB [nB r.ino.toNat 4]) = L3)
  (h4 : L3 ++ onB (kKind r.act) (flatB [nB r.kind.toNat 1]) = L4) (h5 : L4 ++ onB (kMove r.act) (flatB [nB r.dir2.toNat 4, tB r.name2, nB r.old.toNat 4]) = L5)
  (h6 : L5 ++ onB (kSized r.act) (flatB [nB r.size.toNat 4]) = L6) (h7 : L6 ++ onB (kData r.act) (flatB [nB r.page.toNat 1, r.data]) = L7) : L7 = r.bytes := by
 subst h1 h2 h3 h4 h5 h6 h7
 have hsz : ∀ s : ByteArray, s.size = s.data.toList.length := fun s => Lib.size_eq s
 unfold R.bytes
 cases kEntry r.act <;> cases kKind r.act <;> cases kMove r.act <;> cases kSized r.act <;> cases kData r.act <;>
  simp only [onB, flatB, List.flatMap_cons, List.flatMap_nil, nB_list, tB_list, List.append_assoc, List.append_nil, List.nil_append, hsz, if_true, if_false, Bool.false_eq_true]
end

section
open Go.RowKit Go.Maps
structure RdAt (w : World) (Bs Bb : Nat) (d : Rd) : Prop where
 s : w.heap[Bs]? = some (.cells #[.string ⟨d.s.toArray⟩] 9 (0, 0))
 b : w.heap[Bb]? = some (.cells #[.bool d.bad] 4 (0, 0))
structure Rel2 (Bs Bb : Nat) (W W' : World) : Prop where
 os : W'.os = W.os
 tape : W'.tape = W.tape
 output : W'.output = W.output
 size : W.heap.size ≤ W'.heap.size
 old : ∀ b, b < W.heap.size → b ≠ Bs → b ≠ Bb → W'.heap[b]? = W.heap[b]?
section
variable {w w' w2 : World} {Bs Bb : Nat} {d d' : Rd}
theorem Rel2.trans (h : Rel2 Bs Bb w w') (g : Rel2 Bs Bb w' w2) : Rel2 Bs Bb w w2 :=
 ⟨g.os.trans h.os, g.tape.trans h.tape, g.output.trans h.output, Nat.le_trans h.size g.size, fun b hb h1 h2 => (g.old b (Nat.lt_of_lt_of_le hb h.size) h1 h2).trans (h.old b hb h1 h2)⟩
theorem Rel2.of_below (h : Below w.heap.size w w') : Rel2 Bs Bb w w' := ⟨h.os, h.tape, h.output, h.size, fun b hb _ _ => h.block b hb⟩
theorem Rel2.of_s (h : w.grownBy w' (some Bs)) : Rel2 Bs Bb w w' := ⟨h.os, h.tape, h.output, h.size, fun b hb h1 _ => h.block b hb (fun e => h1 (by injection e))⟩
theorem Rel2.of_b (h : w.grownBy w' (some Bb)) : Rel2 Bs Bb w w' := ⟨h.os, h.tape, h.output, h.size, fun b hb _ h2 => h.block b hb (fun e => h2 (by injection e))⟩
theorem RdAt.below (h : RdAt w Bs Bb d) (hb : Below w.heap.size w w') : RdAt w' Bs Bb d :=
 ⟨(hb.block _ (Array.getElem?_eq_some_iff.1 h.s).1).trans h.s, (hb.block _ (Array.getElem?_eq_some_iff.1 h.b).1).trans h.b⟩
theorem RdAt.ne (h : RdAt w Bs Bb d) : Bs ≠ Bb := fun e => by
 have a := h.s
 rw [e, h.b] at a
 injection a with a
 injection a with _ a
 cases a
theorem RdAt.set_s (h : RdAt w Bs Bb d) (l : List UInt8) : RdAt (w.setCell ⟨Bs, 0, none⟩ (.string ⟨l.toArray⟩)) Bs Bb ⟨d.bad, l⟩ :=
 ⟨by rw [pheap_set w Bs 0 _ _ _ h.s]; rfl, ((pgrown_set w Bs 0 _).block _ (Array.getElem?_eq_some_iff.1 h.b).1 (fun e => h.ne (by injection e with e; exact e.symm))).trans h.b⟩
theorem RdAt.set_b (h : RdAt w Bs Bb d) (x : Bool) : RdAt (w.setCell ⟨Bb, 0, none⟩ (.bool x)) Bs Bb ⟨x, d.s⟩ :=
 ⟨((pgrown_set w Bb 0 _).block _ (Array.getElem?_eq_some_iff.1 h.s).1 (fun e => h.ne (by injection e))).trans h.s, by rw [pheap_set w Bb 0 _ _ _ h.b]; rfl⟩
theorem RdAt.cs (h : RdAt w Bs Bb d) : w.cell? ⟨Bs, 0, none⟩ = some (.string ⟨d.s.toArray⟩) := by simp only [World.cell?, h.s]; rfl
theorem RdAt.cb (h : RdAt w Bs Bb d) : w.cell? ⟨Bb, 0, none⟩ = some (.bool d.bad) := by simp only [World.cell?, h.b]; rfl
theorem RdAt.fs (h : RdAt w Bs Bb d) : w.frozen? ⟨Bs, 0, none⟩ = false := by simp [World.frozen?, h.s]
theorem RdAt.fb (h : RdAt w Bs Bb d) : w.frozen? ⟨Bb, 0, none⟩ = false := by simp [World.frozen?, h.b]
end
theorem repeat_zero (n : Nat) : Lib.repeatL ((⟨#[0]⟩ : ByteArray).data.toList) n = List.replicate n 0 := by
 induction n with
 | zero => rfl
 | succ n ih => show [0] ++ Lib.repeatL _ n = _; rw [ih]; rfl
set_option maxRecDepth 100000 in
set_option maxHeartbeats 2000000 in
theorem t_get1 (n : Nat) (hn : n ≤ 65536) (Bs Bb : Nat) (d : Rd) (w : World) (h : RdAt w Bs Bb d) (hl : d.s.length ≤ maxLen) :
  Calls Tryz.prog 100 #[.int .i64 (n : Int), .pointer (some ⟨Bs, 0, none⟩), .pointer (some ⟨Bb, 0, none⟩)] w fun e w' => e = .returned (.string ⟨(cutR n d).1.toArray⟩) ∧ RdAt w' Bs Bb (cutR n d).2 ∧ Rel2 Bs Bb w w' := by
 have cs := h.cs
 have hsz : (⟨d.s.toArray⟩ : ByteArray).size = d.s.length := by show d.s.toArray.size = _; simp
 obtain ⟨bad, s⟩ := d
 have H := zz h
 have HN := zz hn
 have HL := zz hl
 have HZ := zz hsz
 simp only at cs
 clear h hsz
 have hrp := fun w => s_repeat ⟨#[0]⟩ n w (Nat.le_trans hn (by decide)) (by show 1 * n ≤ _; omega)
 rw [repeat_zero] at hrp
 by_cases hc : s.length < n
 · have hr : cutR n ⟨bad, s⟩ = (List.replicate n 0, ⟨true, s⟩) := by unfold cutR; rw [if_pos (.inr hc)]
   rw [hr]
   clear hr
   cases bad <;>
    (go_enter Tryz.func100, Tryz.ntmps100
     go_wp2_with (first
      | (go_at_call 101; (with_reducible refine (t_ocut _ n (by rw [HZ.out]; exact HL.out) (Nat.le_trans HN.out (by decide)) _).mono ?_); rw [if_pos (by rw [HZ.out]; exact hc)]; rintro e w1 ⟨rfl, hb⟩; have H1 := zz (H.out.below hb); have HB1 := zz hb; have c1 := H1.out.cb; have f1 := H1.out.fb; clear hb)
      | (go_at_call 102; (with_reducible refine (hrp _).mono ?_); rintro e w2 ⟨rfl, hb⟩; have HB2 := zz hb; clear hb))
     go_ret
     refine ⟨rfl, (H1.out.set_b true).below HB2.out, ((Rel2.of_below HB1.out).trans (Rel2.of_b (pgrown_set _ Bb 0 _))).trans (Rel2.of_below HB2.out)⟩)
 · cases bad
   · have hr : cutR n ⟨false, s⟩ = (s.take n, ⟨false, s.drop n⟩) := by unfold cutR; rw [if_neg (by simp; omega)]
     rw [hr]
     clear hr
     go_enter Tryz.func100, Tryz.ntmps100
     go_wp2_with (go_at_call 101; (with_reducible refine (t_ocut _ n (by rw [HZ.out]; exact HL.out) (Nat.le_trans HN.out (by decide)) _).mono ?_); rw [if_neg (by rw [HZ.out]; exact hc)]; rintro e w1 ⟨rfl, hb⟩; have H1 := zz (H.out.below hb); have HB1 := zz hb; have c1 := H1.out.cb; have f1 := H1.out.fb; have H1' := zz (H1.out.set_b false); have c2 := H1'.out.cs; have f2 := H1'.out.fs; clear hb)
     go_ret
     exact ⟨rfl, H1'.out.set_s _, ((Rel2.of_below HB1.out).trans (Rel2.of_b (pgrown_set _ Bb 0 _))).trans (Rel2.of_s (pgrown_set _ Bs 0 _))⟩
   · have hr : cutR n ⟨true, s⟩ = (List.replicate n 0, ⟨true, s⟩) := by unfold cutR; rw [if_pos (.inl rfl)]
     rw [hr]
     clear hr
     go_enter Tryz.func100, Tryz.ntmps100
     go_wp2_with (first
        | (go_at_call 101; (with_reducible refine (t_ocut _ n (by rw [HZ.out]; exact HL.out) (Nat.le_trans HN.out (by decide)) _).mono ?_); rw [if_neg (by rw [HZ.out]; exact hc)]; rintro e w1 ⟨rfl, hb⟩; have H1 := zz (H.out.below hb); have HB1 := zz hb; have c1 := H1.out.cb; have f1 := H1.out.fb; clear hb)
        | (go_at_call 102; (with_reducible refine (hrp _).mono ?_); rintro e w2 ⟨rfl, hb⟩; have HB2 := zz hb; clear hb))
     go_ret
     refine ⟨rfl, (H1.out.set_b true).below HB2.out, ((Rel2.of_below HB1.out).trans (Rel2.of_b (pgrown_set _ Bb 0 _))).trans (Rel2.of_below HB2.out)⟩
theorem cut_len (n : Nat) (d : Rd) : (cutR n d).1.length = n := by
 unfold cutR
 split
 · simp
 · rename_i h
   simp only [List.length_take]
   have : ¬ d.s.length < n := fun e => h (.inr e)
   omega
theorem cut_left (n : Nat) (d : Rd) : (cutR n d).2.s.length ≤ d.s.length := by
 unfold cutR
 split
 · exact Nat.le_refl _
 · simp
theorem num1_lt (d : Rd) : (numR 1 d).1 < 256 := by
 have := leN_lt (cutR 1 d).1
 rw [cut_len] at this
 exact this
def rdW (d : Rd) : Nat → Rd
 | 0 => d
 | 1 => (numR 1 d).2
 | _ + 2 => (wordR d).2
theorem wrap_i64_nat (m : Nat) (h : m < 256) : IntKind.i64.wrap (m : Int) = m := by
 simp only [IntKind.wrap, IntKind.bits, IntKind.signed]
 simp
 omega
theorem size_mk (l : List UInt8) : (⟨l.toArray⟩ : ByteArray).size = l.length := by show l.toArray.size = _; simp
set_option maxRecDepth 100000 in
set_option maxHeartbeats 2000000 in
theorem t_get2 (n : Nat) (hn : n ≤ 8) (Bs Bb Bc : Nat) (d : Rd) (w : World) (h : RdAt w Bs Bb d) (hl : d.s.length ≤ maxLen)
  (hc : w.cell? ⟨Bc, 0, none⟩ = some (.func (.func 100) #[] #[.pointer (some ⟨Bs, 0, none⟩), .pointer (some ⟨Bb, 0, none⟩)])) :
  Calls Tryz.prog 103 #[.int .i64 (n : Int), .pointer (some ⟨Bc, 0, none⟩)] w fun e w' => e = .returned (.int .u64 ((numR n d).1 : Int)) ∧ RdAt w' Bs Bb (numR n d).2 ∧ Rel2 Bs Bb w w' := by
 have H := zz h
 have HL := zz hl
 clear h hl
 go_enter Tryz.func103, Tryz.ntmps103
 go_wp2_with (first
  | (go_at_call 100; (with_reducible refine (t_get1 n (by omega) Bs Bb d _ H.out HL.out).mono ?_); rintro e w1 ⟨rfl, g1, g2⟩; have H1 := zz (And.intro g1 g2); clear g1 g2)
  | (go_at_call 104; (with_reducible refine (t_oget _ (by rw [size_mk, cut_len]; exact hn) _).mono ?_); rintro e w2 ⟨rfl, hb⟩; have HB := zz hb; clear hb))
 go_ret
 refine ⟨?_, H1.out.1.below HB.out, H1.out.2.trans (Rel2.of_below HB.out)⟩
 unfold numR
 simp
set_option maxRecDepth 100000 in
set_option maxHeartbeats 2000000 in
theorem t_get3 (Bs Bb Bc Bn : Nat) (d : Rd) (w : World) (h : RdAt w Bs Bb d) (hl : d.s.length ≤ maxLen)
  (hc : w.heap[Bc]? = some (.cells #[.func (.func 100) #[] #[.pointer (some ⟨Bs, 0, none⟩), .pointer (some ⟨Bb, 0, none⟩)]] 175 (0, 0)))
  (hn : w.heap[Bn]? = some (.cells #[.func (.func 103) #[] #[.pointer (some ⟨Bc, 0, none⟩)]] 178 (0, 0))) :
  Calls Tryz.prog 105 #[.pointer (some ⟨Bc, 0, none⟩), .pointer (some ⟨Bn, 0, none⟩)] w fun e w' => e = .returned (.string ⟨(wordR d).1.toArray⟩) ∧ RdAt w' Bs Bb (wordR d).2 ∧ Rel2 Bs Bb w w' := by
 have c1 : w.cell? ⟨Bc, 0, none⟩ = some (.func (.func 100) #[] #[.pointer (some ⟨Bs, 0, none⟩), .pointer (some ⟨Bb, 0, none⟩)]) := by simp only [World.cell?, hc]; rfl
 have c2 : w.cell? ⟨Bn, 0, none⟩ = some (.func (.func 103) #[] #[.pointer (some ⟨Bc, 0, none⟩)]) := by simp only [World.cell?, hn]; rfl
 have ncs : Bc ≠ Bs := fun e => by rw [e, h.s] at hc; injection hc with hc; injection hc with _ hc; cases hc
 have ncb : Bc ≠ Bb := fun e => by rw [e, h.b] at hc; injection hc with hc; injection hc with _ hc; cases hc
 have nns : Bn ≠ Bs := fun e => by rw [e, h.s] at hn; injection hn with hn; injection hn with _ hn; cases hn
 have nnb : Bn ≠ Bb := fun e => by rw [e, h.b] at hn; injection hn with hn; injection hn with _ hn; cases hn
 have lc := (Array.getElem?_eq_some_iff.1 hc).1
 have ln := (Array.getElem?_eq_some_iff.1 hn).1
 have hm := num1_lt d
 have hml : (numR 1 d).2.s.length ≤ maxLen := Nat.le_trans (cut_left 1 d) hl
 obtain ⟨m, hm2⟩ : ∃ m, (numR 1 d).1 = m := ⟨_, rfl⟩
 rw [hm2] at hm
 have HM := zz hm2
 have H := zz h
 have HL := zz hl
 have HML := zz hml
 clear h hl hc hn hm2 hml
 go_enter Tryz.func105, Tryz.ntmps105
 go_wp2
 refine wp_region_st (fun n W => RdAt W Bs Bb (rdW d n) ∧ Rel2 Bs Bb w W) (fun W W' => Below W.heap.size W W') (Rel2 Bs Bb) [2, 4] (phi [isV (.func (.func 100) #[] #[.pointer (some ⟨Bs, 0, none⟩), .pointer (some ⟨Bb, 0, none⟩)]), isV (.func (.func 103) #[] #[.pointer (some ⟨Bc, 0, none⟩)]), isV (.int .u64 (m : Int)), isV (.int .i64 (m : Int)), isV (.string ⟨(wordR d).1.toArray⟩), isV (.string ⟨(wordR d).1.toArray⟩)]) (by kernel_rfl) (by kernel_rfl) (by kernel_rfl) (by kernel_rfl) (by kernel_rfl) ⟨H.out.below (below_drew _), Rel2.of_below (below_drew _)⟩ (fun _ _ _ h hr => ⟨h.1.below hr, h.2.trans (Rel2.of_below hr)⟩) (fun _ _ h => Rel2.of_below h) ?_ ?_ ?_
 · refine stays_phiR ?_
   simp only [List.forall_mem_cons]
   exact ⟨kv, kv, kv, kv, kv, kv, fun _ h => absurd h (by simp)⟩
 · refine ⟨?_, ?_, ?_, ?_, ?_, ?_, trivial⟩
   · refine opS_mk rfl rfl fun a W2 n hJ hp hq K hK => ?_
     have e0 : a.tmps[0]?.getD undef = .pointer (some ⟨Bc, 0, none⟩) := hp 0 (by kernel_rfl)
     have cc := (World.cell?_of_block (a := ⟨Bc, 0, none⟩) (hJ.2.old Bc lc ncs ncb)).trans c1
     clear hp hq hJ
     go_simp
     exact hK _ _ (Below.refl _ _) rfl
   · refine opS_mk rfl rfl fun a W2 n hJ hp hq K hK => ?_
     have e1 : a.tmps[1]?.getD undef = .pointer (some ⟨Bn, 0, none⟩) := hp 1 (by kernel_rfl)
     have cc := (World.cell?_of_block (a := ⟨Bn, 0, none⟩) (hJ.2.old Bn ln nns nnb)).trans c2
     clear hp hq hJ
     go_simp
     exact hK _ _ (Below.refl _ _) rfl
   · refine opS_at (m := 0) rfl rfl fun a W2 hJ hp hq K hK => ?_
     have e4 : a.tmps[4]?.getD undef = .func (.func 103) #[] #[.pointer (some ⟨Bc, 0, none⟩)] := hq 1 _ (by kernel_rfl) rfl
     have cc := (World.cell?_of_block (a := ⟨Bc, 0, none⟩) (hJ.2.old Bc lc ncs ncb)).trans c1
     have HJ := zz hJ
     clear hp hq hJ
     go_simp
     refine (t_get2 1 (by decide) Bs Bb Bc d W2 HJ.out.1 HL.out cc).mono ?_
     rintro e w2 ⟨rfl, g1, g2⟩
     exact hK _ _ g2 ⟨g1, HJ.out.2.trans g2⟩ (by show _ = _; rw [HM.out])
   · refine opS_mk rfl rfl fun a W2 n hJ hp hq K hK => ?_
     have e5 : a.tmps[5]?.getD undef = .int .u64 (m : Int) := hq 2 _ (by kernel_rfl) rfl
     clear hp hq hJ
     go_simp
     have hwr : IntKind.i64.wrap (m : Int) = m := wrap_i64_nat m (by omega)
     first | (rw [hwr]; exact hK _ _ (Below.refl _ _) rfl) | exact hK _ _ (Below.refl _ _) (by show _ = _; rw [hwr])
   · refine opS_at (m := 1) rfl rfl fun a W2 hJ hp hq K hK => ?_
     have e3 : a.tmps[3]?.getD undef = .func (.func 100) #[] #[.pointer (some ⟨Bs, 0, none⟩), .pointer (some ⟨Bb, 0, none⟩)] := hq 0 _ (by kernel_rfl) rfl
     have e6 : a.tmps[6]?.getD undef = .int .i64 (m : Int) := hq 3 _ (by kernel_rfl) rfl
     have HJ := zz hJ
     clear hp hq hJ
     go_simp
     refine (t_get1 m (by omega) Bs Bb (numR 1 d).2 W2 HJ.out.1 HML.out).mono ?_
     rintro e w2 ⟨rfl, g1, g2⟩
     have hw : wordR d = cutR m (numR 1 d).2 := by unfold wordR; rw [HM.out]
     exact hK _ _ g2 ⟨by show RdAt w2 Bs Bb (wordR d).2; rw [hw]; exact g1, HJ.out.2.trans g2⟩ (by show _ = _; rw [hw])
   · refine opS_mk rfl rfl fun a W2 n hJ hp hq K hK => ?_
     have e7 : a.tmps[7]?.getD undef = .string ⟨(wordR d).1.toArray⟩ := hq 4 _ (by kernel_rfl) rfl
     clear hp hq hJ
     go_simp
     exact hK _ _ (Below.refl _ _) rfl
 · intro vs W3 hJ3 hv _
   have H3 : Hid (RdAt W3 Bs Bb (wordR d).2 ∧ Rel2 Bs Bb w W3) := hJ3
   have hv5 : vs 5 = .string ⟨(wordR d).1.toArray⟩ := hv 5 _ rfl rfl
   clear hJ3 hv
   simp only [putAll, Act.put, List.setIfInBounds_toArray, List.set_cons_succ, List.set_cons_zero, Nat.zero_add, Nat.reduceAdd, hv5]
   go_wp2
   go_ret
   exact ⟨rfl, H3.out⟩
end
end Go.Proofs.YtogljgiefmfafaaGreat
