/- Records, plain: their bytes, and which record any bytes begin with. -/
import Derived.Test.YtehckjkihaalfaaGreatRB
namespace Go.Proofs.YtehckjkihaalfaaGreat
open Go.RowKit

/-- A record. -/
structure R where
  stamp : Int
  act : Int
  dir : Int
  name : ByteArray
  ino : Int
  kind : Int
  dir2 : Int
  name2 : ByteArray
  old : Int
  size : Int
  page : Int
  data : ByteArray
/-- Its numbers fit, its texts are texts. -/
structure R.Ok (r : R) : Prop where
  stamp : 0 ≤ r.stamp ∧ r.stamp ≤ 18446744073709551615
  act : 0 ≤ r.act ∧ r.act ≤ 255
  dir : 0 ≤ r.dir ∧ r.dir ≤ 4294967295
  ino : 0 ≤ r.ino ∧ r.ino ≤ 4294967295
  kind : 0 ≤ r.kind ∧ r.kind ≤ 255
  dir2 : 0 ≤ r.dir2 ∧ r.dir2 ≤ 4294967295
  old : 0 ≤ r.old ∧ r.old ≤ 4294967295
  size : 0 ≤ r.size ∧ r.size ≤ 4294967295
/-- n bytes of a number, the lowest first; and the number of bytes. -/
def leB : Nat → Nat → List UInt8
  | _, 0 => []
  | v, n + 1 => UInt8.ofNat v :: leB (v / 256) n
def leN : List UInt8 → Nat
  | [] => 0
  | b :: l => b.toNat + 256 * leN l
theorem leB_len : ∀ n v, (leB v n).length = n
  | 0, _ => rfl
  | n + 1, v => by
    show (leB (v / 256) n).length + 1 = n + 1
    rw [leB_len]
theorem leN_leB : ∀ n v, v < 256 ^ n → leN (leB v n) = v
  | 0, v, h => by
    have : v = 0 := by simpa using h
    subst this
    rfl
  | n + 1, v, h => by
    show (UInt8.ofNat v).toNat + 256 * leN (leB (v / 256) n) = v
    rw [leN_leB n (v / 256) (by rw [Nat.pow_succ] at h; omega)]
    rw [UInt8.toNat_ofNat']
    omega
theorem leN_lt : ∀ l : List UInt8, leN l < 256 ^ l.length
  | [] => by simp [leN]
  | b :: l => by
    have h1 := leN_lt l
    have h2 := b.toNat_lt
    show b.toNat + 256 * leN l < 256 ^ (l.length + 1)
    rw [Nat.pow_succ]
    omega
theorem leB_leN : ∀ l : List UInt8, leB (leN l) l.length = l
  | [] => rfl
  | b :: l => by
    have h2 := b.toNat_lt
    show UInt8.ofNat (b.toNat + 256 * leN l) :: leB ((b.toNat + 256 * leN l) / 256) l.length = b :: l
    rw [show (b.toNat + 256 * leN l) / 256 = leN l by omega, leB_leN l]
    congr 1
    apply UInt8.toNat_inj.1
    rw [UInt8.toNat_ofNat']
    omega
def kEntry (a : Int) : Bool := decide (1 ≤ a ∧ a ≤ 4)
def kKind (a : Int) : Bool := decide (a = 1 ∨ a = 3 ∨ a = 4)
def kMove (a : Int) : Bool := decide (a = 4)
def kSized (a : Int) : Bool := decide (a = 5 ∨ a = 6)
def kData (a : Int) : Bool := decide (a = 6)
/-- What is cut. -/
structure Rd where
  bad : Bool
  s : List UInt8
def cutR (n : Nat) (d : Rd) : List UInt8 × Rd := if d.bad = true ∨ d.s.length < n then (List.replicate n 0, ⟨true, d.s⟩) else (d.s.take n, ⟨false, d.s.drop n⟩)
def numR (n : Nat) (d : Rd) : Nat × Rd := (leN (cutR n d).1, (cutR n d).2)
def wordR (d : Rd) : List UInt8 × Rd := cutR (numR 1 d).1 (numR 1 d).2
def optN (c : Bool) (n : Nat) (d : Rd) : Nat × Rd := if c = true then numR n d else (0, d)
def optW (c : Bool) (d : Rd) : List UInt8 × Rd := if c = true then wordR d else ([], d)
def optC (c : Bool) (n : Nat) (d : Rd) : List UInt8 × Rd := if c = true then cutR n d else ([], d)
def onB (c : Bool) (l : List UInt8) : List UInt8 := if c = true then l else []
theorem cut_on (l s : List UInt8) : cutR l.length ⟨false, l ++ s⟩ = (l, ⟨false, s⟩) := by
  unfold cutR
  rw [if_neg (by simp)]
  simp
theorem num_on (n v : Nat) (h : v < 256 ^ n) (s : List UInt8) : numR n ⟨false, leB v n ++ s⟩ = (v, ⟨false, s⟩) := by
  have h1 := cut_on (leB v n) s
  rw [leB_len] at h1
  unfold numR
  rw [h1, leN_leB n v h]
theorem word_on (l s : List UInt8) (h : l.length < 256) : wordR ⟨false, leB l.length 1 ++ l ++ s⟩ = (l, ⟨false, s⟩) := by
  unfold wordR
  rw [List.append_assoc, num_on 1 l.length (by omega), cut_on]
theorem optN_on (c : Bool) (n v : Nat) (h : v < 256 ^ n) (h0 : c = false → v = 0) (s : List UInt8) : optN c n ⟨false, onB c (leB v n) ++ s⟩ = (v, ⟨false, s⟩) := by
  unfold optN onB
  cases c
  · simp [h0 rfl]
  · simpa using num_on n v h s
theorem optW_on (c : Bool) (l : List UInt8) (h : l.length < 256) (h0 : c = false → l = []) (s : List UInt8) : optW c ⟨false, onB c (leB l.length 1 ++ l) ++ s⟩ = (l, ⟨false, s⟩) := by
  unfold optW onB
  cases c
  · simp [h0 rfl]
  · simpa using word_on l s h
theorem optC_on (c : Bool) (n : Nat) (l : List UInt8) (h : c = true → l.length = n) (h0 : c = false → l = []) (s : List UInt8) : optC c n ⟨false, onB c l ++ s⟩ = (l, ⟨false, s⟩) := by
  unfold optC onB
  cases c
  · simp [h0 rfl]
  · rw [← h rfl]; simpa using cut_on l s
theorem cut_back {n : Nat} {d : Rd} (h : (cutR n d).2.bad = false) : d.bad = false ∧ d.s = (cutR n d).1 ++ (cutR n d).2.s ∧ (cutR n d).1.length = n := by
  unfold cutR at *
  by_cases c : d.bad = true ∨ d.s.length < n
  · rw [if_pos c] at h
    cases h
  · rw [if_neg c]
    have c1 : d.bad = false := by
      cases e : d.bad
      · rfl
      · exact absurd (.inl e) c
    have c2 : n ≤ d.s.length := by
      rcases Nat.lt_or_ge d.s.length n with e | e
      · exact absurd (.inr e) c
      · exact e
    exact ⟨c1, by simp, by simp [c2]⟩
theorem num_back {n : Nat} {d : Rd} (h : (numR n d).2.bad = false) : d.bad = false ∧ d.s = leB (numR n d).1 n ++ (numR n d).2.s ∧ (numR n d).1 < 256 ^ n := by
  obtain ⟨h1, h2, h3⟩ := cut_back (d := d) (n := n) h
  have e := leB_leN (cutR n d).1
  have l := leN_lt (cutR n d).1
  rw [h3] at e l
  refine ⟨h1, ?_, l⟩
  show d.s = leB (leN (cutR n d).1) n ++ (cutR n d).2.s
  rw [e]
  exact h2
theorem word_back {d : Rd} (h : (wordR d).2.bad = false) : d.bad = false ∧ d.s = leB (wordR d).1.length 1 ++ (wordR d).1 ++ (wordR d).2.s ∧ (wordR d).1.length < 256 := by
  obtain ⟨h1, h2, h3⟩ := cut_back (d := (numR 1 d).2) (n := (numR 1 d).1) h
  obtain ⟨g1, g2, g3⟩ := num_back (d := d) (n := 1) h1
  have e : (wordR d).1.length = (numR 1 d).1 := h3
  refine ⟨g1, ?_, by rw [e]; simpa using g3⟩
  rw [e, List.append_assoc]
  show d.s = leB (numR 1 d).1 1 ++ ((cutR (numR 1 d).1 (numR 1 d).2).1 ++ (cutR (numR 1 d).1 (numR 1 d).2).2.s)
  rw [← h2]
  exact g2
theorem optN_back {c : Bool} {n : Nat} {d : Rd} (h : (optN c n d).2.bad = false) : d.bad = false ∧ d.s = onB c (leB (optN c n d).1 n) ++ (optN c n d).2.s ∧ (optN c n d).1 < 256 ^ n ∧ (c = false → (optN c n d).1 = 0) := by
  unfold optN onB at *
  cases c
  · exact ⟨h, rfl, Nat.pow_pos (by omega), fun _ => rfl⟩
  · obtain ⟨h1, h2, h3⟩ := num_back (n := n) (d := d) h
    exact ⟨h1, h2, h3, fun h => by cases h⟩
theorem optW_back {c : Bool} {d : Rd} (h : (optW c d).2.bad = false) : d.bad = false ∧ d.s = onB c (leB (optW c d).1.length 1 ++ (optW c d).1) ++ (optW c d).2.s ∧ (optW c d).1.length < 256 ∧ (c = false → (optW c d).1 = []) := by
  unfold optW onB at *
  cases c
  · exact ⟨h, rfl, by simp, fun _ => rfl⟩
  · obtain ⟨h1, h2, h3⟩ := word_back (d := d) h
    exact ⟨h1, h2, h3, fun h => by cases h⟩
theorem optC_back {c : Bool} {n : Nat} {d : Rd} (h : (optC c n d).2.bad = false) : d.bad = false ∧ d.s = onB c (optC c n d).1 ++ (optC c n d).2.s ∧ (c = true → (optC c n d).1.length = n) ∧ (c = false → (optC c n d).1 = []) := by
  unfold optC onB at *
  cases c
  · exact ⟨h, rfl, (fun h => by cases h), fun _ => rfl⟩
  · obtain ⟨h1, h2, h3⟩ := cut_back (n := n) (d := d) h
    exact ⟨h1, h2, fun _ => h3, fun h => by cases h⟩
/-- A record's bytes. -/
def R.bytes (r : R) : List UInt8 :=
  leB r.stamp.toNat 8 ++ (leB r.act.toNat 1 ++ (onB (kEntry r.act) (leB r.dir.toNat 4) ++ (onB (kEntry r.act) (leB r.name.data.toList.length 1 ++ r.name.data.toList) ++ (leB r.ino.toNat 4 ++ (onB (kKind r.act) (leB r.kind.toNat 1)
    ++ (onB (kMove r.act) (leB r.dir2.toNat 4) ++ (onB (kMove r.act) (leB r.name2.data.toList.length 1 ++ r.name2.data.toList) ++ (onB (kMove r.act) (leB r.old.toNat 4) ++ (onB (kSized r.act) (leB r.size.toNat 4) ++ (onB (kData r.act) (leB r.page.toNat 1) ++ onB (kData r.act) r.data.data.toList))))))))))
/-- The record that bytes begin with, and what is left. -/
def getR (s : List UInt8) : R × Rd :=
  let p0 := numR 8 ⟨false, s⟩
  let p1 := numR 1 p0.2
  let a : Int := (p1.1 : Int)
  let p2 := optN (kEntry a) 4 p1.2
  let p3 := optW (kEntry a) p2.2
  let p4 := numR 4 p3.2
  let p5 := optN (kKind a) 1 p4.2
  let p6 := optN (kMove a) 4 p5.2
  let p7 := optW (kMove a) p6.2
  let p8 := optN (kMove a) 4 p7.2
  let p9 := optN (kSized a) 4 p8.2
  let pA := optN (kData a) 1 p9.2
  let pB := optC (kData a) 64 pA.2
  (⟨(p0.1 : Int), a, (p2.1 : Int), ⟨p3.1.toArray⟩, (p4.1 : Int), (p5.1 : Int), (p6.1 : Int), ⟨p7.1.toArray⟩, (p8.1 : Int), (p9.1 : Int), (pA.1 : Int), ⟨pB.1.toArray⟩⟩, pB.2)
/-- What of a record a kind has no use for is 0; the rest fits. -/
structure R.Bare (r : R) : Prop where
  ok : r.Ok
  dir : kEntry r.act = false → r.dir = 0
  name : kEntry r.act = false → r.name.data.toList = []
  name_ : r.name.data.toList.length < 256
  kind : kKind r.act = false → r.kind = 0
  dir2 : kMove r.act = false → r.dir2 = 0
  name2 : kMove r.act = false → r.name2.data.toList = []
  name2_ : r.name2.data.toList.length < 256
  old : kMove r.act = false → r.old = 0
  size : kSized r.act = false → r.size = 0
  page : kData r.act = false → r.page = 0
  page_ : 0 ≤ r.page ∧ r.page < 256
  data : kData r.act = false → r.data.data.toList = []
  data_ : kData r.act = true → r.data.data.toList.length = 64
theorem ofNat_toNat {x : Int} (h : 0 ≤ x) : ((x.toNat : Nat) : Int) = x := Int.toNat_of_nonneg h
/-- What was put is got. -/
theorem get_put {r : R} (h : r.Bare) (s : List UInt8) : getR (r.bytes ++ s) = (r, ⟨false, s⟩) := by
  have hok := h.ok
  obtain ⟨o1, o2, o3, o4, o5, o6, o7, o8⟩ := hok
  unfold getR R.bytes
  simp only [List.append_assoc]
  have e0 := num_on 8 r.stamp.toNat (by omega)
  simp only [e0]
  have e1 := num_on 1 r.act.toNat (by omega)
  simp only [e1, ofNat_toNat o2.1]
  have e2 := optN_on (kEntry r.act) 4 r.dir.toNat (by omega) (fun c => by rw [h.dir c]; rfl)
  simp only [e2]
  have e3 := optW_on (kEntry r.act) r.name.data.toList h.name_ h.name
  simp only [e3]
  have e4 := num_on 4 r.ino.toNat (by omega)
  simp only [e4]
  have e5 := optN_on (kKind r.act) 1 r.kind.toNat (by omega) (fun c => by rw [h.kind c]; rfl)
  simp only [e5]
  have e6 := optN_on (kMove r.act) 4 r.dir2.toNat (by omega) (fun c => by rw [h.dir2 c]; rfl)
  simp only [e6]
  have e7 := optW_on (kMove r.act) r.name2.data.toList h.name2_ h.name2
  simp only [e7]
  have e8 := optN_on (kMove r.act) 4 r.old.toNat (by omega) (fun c => by rw [h.old c]; rfl)
  simp only [e8]
  have e9 := optN_on (kSized r.act) 4 r.size.toNat (by omega) (fun c => by rw [h.size c]; rfl)
  simp only [e9]
  have eA := optN_on (kData r.act) 1 r.page.toNat (by have := h.page_; omega) (fun c => by rw [h.page c]; rfl)
  simp only [eA]
  have eB := optC_on (kData r.act) 64 r.data.data.toList h.data_ h.data
  simp only [eB]
  simp only [ofNat_toNat o1.1, ofNat_toNat o3.1, ofNat_toNat o4.1, ofNat_toNat o5.1, ofNat_toNat o6.1, ofNat_toNat o7.1, ofNat_toNat o8.1, ofNat_toNat h.page_.1]
/-- What is got is put as it stood. -/
theorem put_get {s : List UInt8} {r : R} {d : Rd} (h : getR s = (r, d)) (hb : d.bad = false) : s = r.bytes ++ d.s ∧ r.Bare := by
  unfold getR at h
  injection h with h1 h2
  subst h2
  obtain ⟨b1, b2, b3, b4⟩ := optC_back hb
  obtain ⟨a1, a2, a3, a4⟩ := optN_back b1
  obtain ⟨n1, n2, n3, n4⟩ := optN_back a1
  obtain ⟨m1, m2, m3, m4⟩ := optN_back n1
  obtain ⟨l1, l2, l3, l4⟩ := optW_back m1
  obtain ⟨k1, k2, k3, k4⟩ := optN_back l1
  obtain ⟨j1, j2, j3, j4⟩ := optN_back k1
  obtain ⟨i1, i2, i3⟩ := num_back j1
  obtain ⟨g1, g2, g3, g4⟩ := optW_back i1
  obtain ⟨f1, f2, f3, f4⟩ := optN_back g1
  obtain ⟨e1, e2, e3⟩ := num_back f1
  obtain ⟨c1, c2, c3⟩ := num_back e1
  subst h1
  refine ⟨?_, ⟨⟨?_, ?_, ?_, ?_, ?_, ?_, ?_, ?_⟩, ?_, ?_, ?_, ?_, ?_, ?_, ?_, ?_, ?_, ?_, ?_, ?_, ?_⟩⟩
  · unfold R.bytes
    simp only [Int.toNat_natCast, List.append_assoc]
    rw [← b2, ← a2, ← n2, ← m2, ← l2, ← k2, ← j2, ← i2, ← g2, ← f2, ← e2, ← c2]
  all_goals simp only [] at *
  · omega
  · omega
  · omega
  · omega
  · omega
  · omega
  · omega
  · omega
  · intro c; rw [f4 c]; rfl
  · exact g4
  · exact g3
  · intro c; rw [j4 c]; rfl
  · intro c; rw [k4 c]; rfl
  · exact l4
  · exact l3
  · intro c; rw [m4 c]; rfl
  · intro c; rw [n4 c]; rfl
  · intro c; rw [a4 c]; rfl
  · omega
  · exact b4
  · exact b3
/-- Its value. -/
def R.val (r : R) : Value := .agg #[.int .u64 r.stamp, .int .u8 r.act, .int .u32 r.dir, .string r.name, .int .u32 r.ino, .int .u8 r.kind, .int .u32 r.dir2, .string r.name2, .int .u32 r.old, .int .u32 r.size, .int .i64 r.page, .string r.data]
/-- May it be? -/
def inoB (i : Int) : Bool := decide (1 ≤ i ∧ i ≤ 256)
def fitB (c a b : Bool) : Bool := c && a || !c && b
def checkB (r : R) : Bool :=
  decide (1 ≤ r.act ∧ r.act ≤ 7) && inoB r.ino && fitB (kEntry r.act) (inoB r.dir && pnameB r.name) (r.dir == 0 && r.name.size == 0) && fitB (kKind r.act) (r.kind == 1 || r.kind == 2) (r.kind == 0)
    && fitB (kMove r.act) (inoB r.dir2 && pnameB r.name2 && decide (r.old ≤ 256)) (r.dir2 == 0 && r.name2.size == 0 && r.old == 0) && fitB (kSized r.act) (decide (r.size ≤ 2304)) (r.size == 0)
    && fitB (kData r.act) (decide (0 ≤ r.page ∧ r.page < 36) && r.data.size == 64) (r.page == 0 && r.data.size == 0)
def checkE (r : R) : Int := if checkB r = true then 0 else 2
end Go.Proofs.YtehckjkihaalfaaGreat
