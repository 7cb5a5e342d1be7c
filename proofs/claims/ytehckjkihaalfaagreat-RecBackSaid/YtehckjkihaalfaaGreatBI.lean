/- Put: what memory holds between its statements; plain facts. -/
import Derived.Test.YtehckjkihaalfaaGreatBD
import Derived.Test.YtehckjkihaalfaaGreatBE
import Derived.Test.YtehckjkihaalfaaGreatBH
import Derived.Test.YtehckjkihaalfaaGreatBS
namespace Go.Proofs.YtehckjkihaalfaaGreat
open Go.RowKit Go.Maps

/-- A record that may be has nothing but what its kind has a use for. -/
theorem bare_of_check {r : R} (hr : r.Ok) (h : checkB r = true) : r.Bare := by
  have hsz : ∀ s : ByteArray, s.data.toList.length = s.size := fun s => (Lib.size_eq s).symm
  have hnil : ∀ s : ByteArray, s.size = 0 → s.data.toList = [] := fun s h => List.eq_nil_of_length_eq_zero (by rw [hsz]; exact h)
  unfold checkB fitB at h
  simp only [Bool.and_eq_true, Bool.or_eq_true, Bool.not_eq_true', decide_eq_true_eq, beq_iff_eq] at h
  obtain ⟨⟨⟨⟨⟨⟨⟨a1, a2⟩, a3⟩, h1⟩, h2⟩, h3⟩, h4⟩, h5⟩ := h
  have hp : ∀ s : ByteArray, pnameB s = true → s.size ≤ 27 := fun s hs => by
    unfold pnameB at hs
    simp only [Bool.and_eq_true, decide_eq_true_eq] at hs
    exact hs.1.1.1.2
  refine ⟨hr, ?_, ?_, ?_, ?_, ?_, ?_, ?_, ?_, ?_, ?_, ?_, ?_, ?_⟩
  · intro c; rcases h1 with ⟨e, _⟩ | ⟨_, e⟩
    · rw [c] at e; cases e
    · exact e.1
  · intro c; rcases h1 with ⟨e, _⟩ | ⟨_, e⟩
    · rw [c] at e; cases e
    · exact hnil _ e.2
  · rcases h1 with ⟨_, e⟩ | ⟨_, e⟩
    · rw [hsz]; have := hp _ e.2; omega
    · rw [hsz]; omega
  · intro c; rcases h2 with ⟨e, _⟩ | ⟨_, e⟩
    · rw [c] at e; cases e
    · exact e
  · intro c; rcases h3 with ⟨e, _⟩ | ⟨_, e⟩
    · rw [c] at e; cases e
    · exact e.1.1
  · intro c; rcases h3 with ⟨e, _⟩ | ⟨_, e⟩
    · rw [c] at e; cases e
    · exact hnil _ e.1.2
  · rcases h3 with ⟨_, e⟩ | ⟨_, e⟩
    · rw [hsz]; have := hp _ e.1.2; omega
    · rw [hsz]; omega
  · intro c; rcases h3 with ⟨e, _⟩ | ⟨_, e⟩
    · rw [c] at e; cases e
    · exact e.2
  · intro c; rcases h4 with ⟨e, _⟩ | ⟨_, e⟩
    · rw [c] at e; cases e
    · exact e
  · intro c; rcases h5 with ⟨e, _⟩ | ⟨_, e⟩
    · rw [c] at e; cases e
    · exact e.1
  · rcases h5 with ⟨_, e⟩ | ⟨_, e⟩
    · omega
    · omega
  · intro c; rcases h5 with ⟨e, _⟩ | ⟨_, e⟩
    · rw [c] at e; cases e
    · exact hnil _ e.2
  · intro c; rcases h5 with ⟨_, e⟩ | ⟨e, _⟩
    · rw [hsz]; exact e.2
    · rw [c] at e; cases e
def nB (v n : Nat) : ByteArray := ⟨(leB v n).toArray⟩
def tB (s : ByteArray) : ByteArray := ⟨(leB s.size 1 ++ s.data.toList).toArray⟩
theorem nB_list (v n : Nat) : (nB v n).data.toList = leB v n := by simp [nB]
theorem tB_list (s : ByteArray) : (tB s).data.toList = leB s.size 1 ++ s.data.toList := by simp [tB]
theorem t_num8 (v : Int) (h0 : 0 ≤ v ∧ v ≤ 18446744073709551615) (w : World) : Calls Tryz.prog 74 #[.int .u64 v, .int .i64 8] w fun e w' => e = .returned (.string (nB v.toNat 8)) ∧ Below w.heap.size w w' := by
  have h := t_rnum v.toNat 8 (by omega) (by omega) w
  rw [Int.toNat_of_nonneg h0.1] at h
  exact h
theorem t_num4 (v : Int) (h0 : 0 ≤ v ∧ v ≤ 4294967295) (w : World) : Calls Tryz.prog 74 #[.int .u64 v, .int .i64 4] w fun e w' => e = .returned (.string (nB v.toNat 4)) ∧ Below w.heap.size w w' := by
  have h := t_rnum v.toNat 4 (by omega) (by omega) w
  rw [Int.toNat_of_nonneg h0.1] at h
  exact h
theorem t_num1 (v : Int) (h0 : 0 ≤ v ∧ v ≤ 255) (w : World) : Calls Tryz.prog 74 #[.int .u64 v, .int .i64 1] w fun e w' => e = .returned (.string (nB v.toNat 1)) ∧ Below w.heap.size w w' := by
  have h := t_rnum v.toNat 1 (by omega) (by omega) w
  rw [Int.toNat_of_nonneg h0.1] at h
  exact h
theorem t_textB (s : ByteArray) (hs : s.size ≤ 255) (w : World) : Calls Tryz.prog 75 #[.string s] w fun e w' => e = .returned (.string (tB s)) ∧ Below w.heap.size w w' := t_rtext s hs w
/-- Between two statements of put: what memory holds. -/
structure StP (r : R) (w : World) (B5 b : Nat) (wd : ByteArray) (f : Value) (l : List UInt8) (W : World) : Prop where
  rc : W.heap[w.heap.size]? = some (.cells #[.int .u64 r.stamp, .int .u8 r.act, .int .u32 r.dir, .string r.name, .int .u32 r.ino, .int .u8 r.kind, .int .u32 r.dir2, .string r.name2, .int .u32 r.old, .int .u32 r.size, .int .i64 r.page, .string r.data] 34 (0, 0))
  kd : W.heap[B5]? = some (.cells #[.string wd, .bool (kEntry r.act), .bool (kKind r.act), .bool (kMove r.act), .bool (kSized r.act), .bool (kData r.act), f] 110 (0, 0))
  sb : IsB w.heap.size b l W
  below : Below w.heap.size w W
  n1 : w.heap.size ≠ b
  n2 : B5 ≠ b
theorem Kept.of_below {b : Nat} {W W' : World} (h : Below W.heap.size W W') : Kept b W W' := fun k o hk _ _ => (h.block k (Array.getElem?_eq_some_iff.1 hk).1).trans hk
section
variable {r : R} {w : World} {B5 b : Nat} {wd : ByteArray} {f : Value} {l l' : List UInt8} {W W' : World}
theorem StP.mono (h : StP r w B5 b wd f l W) (hb : Below W.heap.size W W') : StP r w B5 b wd f l W' := by
  have lt : ∀ (B : Nat) (o : Obj), W.heap[B]? = some o → B < W.heap.size := fun B o h => (Array.getElem?_eq_some_iff.1 h).1
  exact ⟨(hb.block _ (lt _ _ h.rc)).trans h.rc, (hb.block _ (lt _ _ h.kd)).trans h.kd, h.sb.below hb, h.below.trans (hb.mono h.below.size), h.n1, h.n2⟩
theorem StP.put (h : StP r w B5 b wd f l W) (hs : IsB w.heap.size b l' W') (hb : Below w.heap.size W W') (hk : Kept b W W') : StP r w B5 b wd f l' W' :=
  ⟨hk _ _ h.rc (fun e => h.n1 (by injection e)) (fun c fz e => by injection e with _ e; cases e), hk _ _ h.kd (fun e => h.n2 (by injection e)) (fun c fz e => by injection e with _ e; cases e), hs, h.below.trans hb, h.n1, h.n2⟩
end
def stL (a b : List UInt8) : Nat → List UInt8
  | 0 => a
  | _ + 1 => b
/-- A slice of texts, in a block of its own. -/
def isTexts (b n : Nat) (ss : List ByteArray) : Ph := fun v W => ∃ g, v = .slice (some ⟨g, 0, none⟩) n n ∧ g ≠ b ∧ TextsAt W g ss
theorem isTexts.stays {b n : Nat} {ss : List ByteArray} : ∀ v W W', isTexts b n ss v W → Kept b W W' → isTexts b n ss v W' := fun _ _ _ ⟨g, h1, h2, h3⟩ hk => ⟨g, h1, h2, h3.kept h2 hk⟩
theorem onB_len (c : Bool) (l : List UInt8) : (onB c l).length ≤ l.length := by unfold onB; split <;> simp
theorem below_a1' (w : World) (a : Obj) : Below w.heap.size w (w.alloc a) := (Below.refl _ _).alloc (Nat.le_refl _) _
theorem below_drew (w : World) : Below w.heap.size w w.drew := ⟨rfl, rfl, rfl, Nat.le_refl _, fun _ _ => rfl⟩
theorem put_bytes (r : R) (L1 L2 L3 L4 L5 L6 L7 : List UInt8) (h1 : ([] : List UInt8) ++ onB true (flatB [nB r.stamp.toNat 8, nB r.act.toNat 1]) = L1)
    (h2 : L1 ++ onB (kEntry r.act) (flatB [nB r.dir.toNat 4, tB r.name]) = L2) (h3 : L2 ++ onB true (flatB [nB r.ino.toNat 4]) = L3)
    (h4 : L3 ++ onB (kKind r.act) (flatB [nB r.kind.toNat 1]) = L4) (h5 : L4 ++ onB (kMove r.act) (flatB [nB r.dir2.toNat 4, tB r.name2, nB r.old.toNat 4]) = L5)
    (h6 : L5 ++ onB (kSized r.act) (flatB [nB r.size.toNat 4]) = L6) (h7 : L6 ++ onB (kData r.act) (flatB [nB r.page.toNat 1, r.data]) = L7) : L7 = r.bytes := by
  subst h1 h2 h3 h4 h5 h6 h7
  have hsz : ∀ s : ByteArray, s.size = s.data.toList.length := fun s => Lib.size_eq s
  unfold R.bytes
  cases kEntry r.act <;> cases kKind r.act <;> cases kMove r.act <;> cases kSized r.act <;> cases kData r.act <;>
    simp only [onB, flatB, List.flatMap_cons, List.flatMap_nil, nB_list, tB_list, List.append_assoc, List.append_nil, List.nil_append, hsz, if_true, if_false, Bool.false_eq_true, reduceIte]
end Go.Proofs.YtehckjkihaalfaaGreat
