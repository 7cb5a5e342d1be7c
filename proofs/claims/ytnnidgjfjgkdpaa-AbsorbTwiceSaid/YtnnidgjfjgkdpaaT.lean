/- Trees as the document has them: what a tree is, and how it lies in memory. -/
import Derived.Test.YtnnidgjfjgkdpaaRows
import Derived.WalkKit
import Derived.WalkSpells
import Derived.WalkLawsBesides
import Derived.Lib.Hide
import Derived.Below
import Derived.Deep.Draws
import Derived.LoopTactic
import Derived.BigQuiet
import Derived.Deep.MidRow
import Derived.Laws.OwnMore
import Derived.Maps.AppendAt
import Derived.Deep.RegionHeld3
namespace Go.Proofs.Ytnnidgjfjgkdpaa
open Go.RowKit

/-- A directory's entry. -/
structure Ent where
  name : ByteArray
  ino : Int
/-- An inode: its kind (0: it is not there), entries, bytes, how often it is held. -/
structure Nd where
  kind : Int
  l : List Ent
  data : ByteArray
  held : Int
def noNd : Nd := ⟨0, [], ByteArray.empty, 0⟩
abbrev Tr := List Nd
/-- The inode at a place; of a number. -/
def nd (t : Tr) (k : Nat) : Nd := t.getD k noNd
def ndAt (t : Tr) (ino : Int) : Nd := nd t (ino.toNat - 1)
theorem nd_get {t : Tr} {k : Nat} (hk : k < t.length) : t[k]? = some (nd t k) := by
  unfold nd; rw [List.getD_eq_getElem?_getD, List.getElem?_eq_getElem hk]; rfl

def Ent.cells (e : Ent) : List Value := [.string e.name, .int .u32 e.ino]
def entCells (l : List Ent) : List Value := l.flatMap Ent.cells
theorem entCells_length (l : List Ent) : (entCells l).length = l.length * 2 := by
  induction l with
  | nil => rfl
  | cons e l ih => unfold entCells at *; rw [List.flatMap_cons, List.length_append, ih]; simp [Ent.cells]; omega
theorem entCells_append (a b : List Ent) : entCells (a ++ b) = entCells a ++ entCells b := by simp [entCells]
theorem entCells_get : ∀ (l : List Ent) (k j : Nat) (e : Ent), l[k]? = some e → j < 2 → (entCells l)[k * 2 + j]? = e.cells[j]?
  | [], k, j, e, h, _ => by simp at h
  | x :: l, 0, j, e, h, hj => by
    simp at h; subst h
    unfold entCells; rw [List.flatMap_cons, List.getElem?_append_left (by simp [Ent.cells]; omega)]; simp
  | x :: l, k + 1, j, e, h, hj => by
    have := entCells_get l k j e (by simpa using h) hj
    unfold entCells at *
    rw [List.flatMap_cons, List.getElem?_append_right (by simp [Ent.cells]; omega), show (k + 1) * 2 + j - x.cells.length = k * 2 + j by simp [Ent.cells]; omega]
    exact this

/-- A row of entries: made by the call, or nil. -/
def EntsAt (w : World) (v : Value) (l : List Ent) : Prop := w.ownsRow 0 96 2 v l.length (entCells l)

/-- One inode's cells. -/
def NodeAt (w : World) (cs : Array Value) (k : Nat) (x : Nd) : Prop :=
  cs[k * 4]? = some (.int .u8 x.kind) ∧ (∃ v, cs[k * 4 + 1]? = some v ∧ EntsAt w v x.l) ∧ cs[k * 4 + 2]? = some (.string x.data) ∧ cs[k * 4 + 3]? = some (.int .i64 x.held)

/-- A tree: its head in block P, its inodes in block G. -/
structure TreeAt (w : World) (P G : Nat) (t : Tr) : Prop where
  head : ∃ c, t.length ≤ c ∧ c ≤ maxLen ∧ w.heap[P]? = some (.cells #[.slice (some ⟨G, 0, none⟩) t.length c] 64 (0, 0))
  nodes : ∃ cs, w.heap[G]? = some (.cells cs 67 (0, 0)) ∧ t.length * 4 ≤ cs.size ∧ ∀ k x, t[k]? = some x → NodeAt w cs k x
  small : t.length ≤ 4096

section
variable {w : World} {P G : Nat} {t : Tr}
theorem TreeAt.cell0 (h : TreeAt w P G t) : ∃ c, t.length ≤ c ∧ c ≤ maxLen ∧ w.cell? ⟨P, 0, none⟩ = some (.slice (some ⟨G, 0, none⟩) t.length c) := by
  obtain ⟨c, h1, h2, h3⟩ := h.head
  exact ⟨c, h1, h2, by simp [World.cell?, h3]⟩
theorem EntsAt.get {v : Value} {l : List Ent} (h : EntsAt w v l) : ∃ A c, v = .slice A l.length c ∧ l.length ≤ c ∧ c ≤ maxLen ∧
    ∀ j e, l[j]? = some e → ∃ b, A = some ⟨b, 0, none⟩ ∧ w.cell? ⟨b, j * 2, none⟩ = some (.string e.name) ∧ w.cell? ⟨b, j * 2 + 1, none⟩ = some (.int .u32 e.ino) := by
  rcases h.2 with ⟨rfl, h0⟩ | ⟨g, cap, cur, rfl, _, hg, hc1, hc2, hc3, hc4⟩
  · have hl : l = [] := List.eq_nil_of_length_eq_zero h0
    subst hl
    exact ⟨none, 0, rfl, Nat.le_refl _, Nat.zero_le _, fun j e hj => by simp at hj⟩
  · refine ⟨_, _, rfl, hc1, hc2, fun j e hj => ⟨g, rfl, ?_⟩⟩
    have hjl : j < l.length := (List.getElem?_eq_some_iff.1 hj).1
    have hc : ∀ i, i < 2 → w.cell? ⟨g, j * 2 + i, none⟩ = e.cells[i]? := fun i hi => by
      have e1 := entCells_get l j i e hj hi
      rw [← hc4, List.getElem?_take_of_lt (by omega)] at e1
      simp only [World.cell?, hg]
      rw [← e1]; simp
    exact ⟨hc 0 (by omega), hc 1 (by omega)⟩
theorem TreeAt.get (h : TreeAt w P G t) {k : Nat} (hk : k < t.length) : w.cell? ⟨G, k * 4, none⟩ = some (.int .u8 (nd t k).kind) ∧
    (∃ v, w.cell? ⟨G, k * 4 + 1, none⟩ = some v ∧ EntsAt w v (nd t k).l) ∧
    w.cell? ⟨G, k * 4 + 2, none⟩ = some (.string (nd t k).data) ∧ w.cell? ⟨G, k * 4 + 3, none⟩ = some (.int .i64 (nd t k).held) := by
  obtain ⟨cs, hg, hsz, hn⟩ := h.nodes
  obtain ⟨h0, ⟨v, h1, hv⟩, h2, h3⟩ := hn k _ (nd_get hk)
  have hc : ∀ j, w.cell? ⟨G, j, none⟩ = cs[j]? := fun j => by simp [World.cell?, hg]
  exact ⟨(hc _).trans h0, ⟨v, (hc _).trans h1, hv⟩, (hc _).trans h2, (hc _).trans h3⟩
theorem TreeAt.idx (_ : TreeAt w P G t) {ino : Int} (h1 : 1 ≤ ino) (h2 : ino ≤ t.length) : ino.toNat - 1 < t.length := by omega
end

/-- Two names are the same. -/
def isN (a b : ByteArray) : Bool := a.toList == b.toList
/-- Where a name stands. -/
def place (l : List Ent) (s : ByteArray) : Option Nat := l.findIdx? (fun e => isN e.name s)
def placeI (l : List Ent) (s : ByteArray) : Int := match place l s with | some k => (k : Int) | none => -1
def NoneTo (l : List Ent) (s : ByteArray) (j : Nat) : Prop := ∀ i e, i < j → l[i]? = some e → isN e.name s = false
theorem NoneTo.zero (l : List Ent) (s : ByteArray) : NoneTo l s 0 := fun i e h _ => absurd h (by omega)
theorem NoneTo.succ {l : List Ent} {s : ByteArray} {j : Nat} {e : Ent} (h : NoneTo l s j) (he : l[j]? = some e) (hn : (e.name.toList == s.toList) = false) : NoneTo l s (j + 1) := fun i x hi hx => by
  by_cases hij : i = j
  · subst hij; rw [he] at hx; cases hx; exact hn
  · exact h i x (by omega) hx
theorem NoneTo.found {l : List Ent} {s : ByteArray} {j : Nat} {e : Ent} (h : NoneTo l s j) (he : l[j]? = some e) (hn : (e.name.toList == s.toList) = true) : place l s = some j := by
  unfold place
  rw [List.findIdx?_eq_some_iff_getElem]
  have hj := (List.getElem?_eq_some_iff.1 he).1
  refine ⟨hj, ?_, fun i hi => ?_⟩
  · rw [(List.getElem?_eq_some_iff.1 he).2]; exact hn
  · have := h i l[i] hi (List.getElem?_eq_getElem (by omega)); simp [this]
theorem NoneTo.none_ {l : List Ent} {s : ByteArray} (h : NoneTo l s l.length) : place l s = none := by
  unfold place
  rw [List.findIdx?_eq_none_iff]
  intro e he
  obtain ⟨i, hi, rfl⟩ := List.getElem_of_mem he
  exact h i _ hi (List.getElem?_eq_getElem hi)

set_option maxHeartbeats 1000000 in
theorem t_kind (P G : Nat) (t : Tr) (ino : Int) (w : World) (h : TreeAt w P G t) (h1 : 1 ≤ ino) (h2 : ino ≤ t.length) :
    Calls Try.prog 43 #[.pointer (some ⟨P, 0, none⟩), .int .u32 ino] w fun e w' => e = .returned (.int .u8 (ndAt t ino).kind) ∧ w = w' := by
  have hs := h.small
  obtain ⟨c, hc1, hc2, hc⟩ := h.cell0
  obtain ⟨g0, _⟩ := h.get (h.idx h1 h2)
  unfold maxLen at hc2
  go_enter Try.func43, Try.ntmps43
  go_wp2
  go_ret
  exact ⟨rfl, rfl⟩

theorem ret_bool {a b : Bool} (h : a = b) : Ending.returned (.bool a) = .returned (.bool b) := by rw [h]
/-- Is an inode there? -/
def thereB (t : Tr) (ino : Int) : Bool := decide (1 ≤ ino ∧ ino ≤ t.length ∧ (ndAt t ino).kind ≠ 0)
set_option maxHeartbeats 2000000 in
theorem t_there (P G : Nat) (t : Tr) (ino : Int) (b : Bool) (hb : thereB t ino = b) (w : World) (h : TreeAt w P G t) (h0 : 0 ≤ ino) :
    Calls Try.prog 40 #[.pointer (some ⟨P, 0, none⟩), .int .u32 ino] w fun e w' => e = .returned (.bool b) ∧ w = w' := by
  have hs := h.small
  obtain ⟨c, hc1, hc2, hc⟩ := h.cell0
  unfold maxLen at hc2
  by_cases h1 : 1 ≤ ino ∧ ino ≤ t.length
  · have HB : Hid (((nd t (ino.toNat - 1)).kind != 0) = b) := by
      show _ = _
      rw [← hb]; unfold thereB ndAt
      rw [Bool.eq_iff_iff]; simp [h1]
    obtain ⟨h1, h2⟩ := h1
    obtain ⟨g0, _⟩ := h.get (h.idx h1 h2)
    clear hb
    go_enter Try.func40, Try.ntmps40
    go_wp2
    go_ret
    exact ⟨ret_bool HB.out, rfl⟩
  · have hf : thereB t ino = false := by unfold thereB; simp; omega
    rw [hf] at hb
    subst hb
    clear hf
    by_cases h2 : 1 ≤ ino
    · have h3 : ¬ ino ≤ t.length := fun hh => h1 ⟨h2, hh⟩
      clear h1
      go_enter Try.func40, Try.ntmps40
      go_wp2
      go_ret
      exact ⟨rfl, rfl⟩
    · clear h1
      go_enter Try.func40, Try.ntmps40
      go_wp2
      go_ret
      exact ⟨rfl, rfl⟩

theorem ret_i64 {a b : Int} (h : a = b) : Ending.returned (.int .i64 a) = .returned (.int .i64 b) := by rw [h]
set_option maxHeartbeats 2000000 in
theorem t_at (P G : Nat) (t : Tr) (ino : Int) (s : ByteArray) (r : Int) (hr : placeI (ndAt t ino).l s = r) (w : World) (h : TreeAt w P G t) (h1 : 1 ≤ ino) (h2 : ino ≤ t.length) :
    Calls Try.prog 39 #[.pointer (some ⟨P, 0, none⟩), .int .u32 ino, .string s] w fun e w' => e = .returned (.int .i64 r) ∧ w = w' := by
  have hs := h.small
  obtain ⟨c, hc1, hc2, hc⟩ := h.cell0
  obtain ⟨_, ⟨v, g1, hv⟩, _⟩ := h.get (h.idx h1 h2)
  obtain ⟨A, c', rfl, hcl, hcm, hread⟩ := hv.get
  have HX : Hid (placeI (nd t (ino.toNat - 1)).l s = r) := hr
  clear hr
  obtain ⟨l, hl⟩ : ∃ l, (nd t (ino.toNat - 1)).l = l := ⟨_, rfl⟩
  rw [hl] at HX g1 hcl hread
  have HR := Lib.hid hread
  clear hread hv hl
  unfold maxLen at hc2 hcm
  go_enter Try.func39, Try.ntmps39
  go_wp2
  go_loop [8] (fun i => ∃ j : Nat, j ≤ l.length ∧ NoneTo l s j ∧ i = .int .i64 j) (fun i => l.length + 1 - (intOf i).toNat)
  case atStart => exact ⟨0, Nat.zero_le _, NoneTo.zero _ _, rfl⟩
  case round =>
    obtain ⟨j, hj, hno, rfl⟩ := hrel
    have HN := Lib.hid hno
    clear hno
    by_cases hjn : j < l.length
    · obtain ⟨b, rfl, e1, e2⟩ := HR.out j _ (List.getElem?_eq_getElem hjn)
      by_cases hn : (l[j].name.toList == s.toList) = true
      · go_wp2
        go_ret
        exact ⟨ret_i64 (by rw [← HX.out]; unfold placeI; rw [HN.out.found (List.getElem?_eq_getElem hjn) hn]), rfl⟩
      · have hn' : (l[j].name.toList == s.toList) = false := by simpa using hn
        clear hn
        go_wp2
        go_round
        case rel => exact ⟨j + 1, by omega, HN.out.succ (List.getElem?_eq_getElem hjn) hn', by go_num⟩
        case measure => simp [intOf]; omega
    · have hje : j = l.length := by omega
      have HE := Lib.hid hje
      clear hje
      go_wp2
      go_ret
      exact ⟨ret_i64 (by rw [← HX.out]; unfold placeI; rw [NoneTo.none_ (by rw [← HE.out]; exact HN.out)]), rfl⟩

/-- Has an entry an inode? -/
def namedB (t : Tr) (ino : Int) : Bool := t.any fun x => x.l.any fun e => e.ino == ino
def linksN (t : Tr) (ino : Int) : Nat := (t.map fun x => x.l.countP fun e => e.ino == ino).sum
theorem any_take_succ {α : Type} {l : List α} {j : Nat} {x : α} (p : α → Bool) (hx : l[j]? = some x) : (l.take (j + 1)).any p = ((l.take j).any p || p x) := by
  rw [List.take_add_one, hx]; simp
theorem any_found {α : Type} {l : List α} {j : Nat} {x : α} (p : α → Bool) (hx : l[j]? = some x) (hp : p x = true) : l.any p = true := by
  rw [List.any_eq_true]; exact ⟨x, List.mem_of_getElem? hx, hp⟩
set_option maxHeartbeats 2000000 in
theorem t_named (P G : Nat) (t : Tr) (ino : Int) (b : Bool) (hb : namedB t ino = b) (w : World) (h : TreeAt w P G t) :
    Calls Try.prog 55 #[.pointer (some ⟨P, 0, none⟩), .int .u32 ino] w fun e w' => e = .returned (.bool b) ∧ w = w' := by
  have hs := h.small
  obtain ⟨c, hc1, hc2, hc⟩ := h.cell0
  unfold maxLen at hc2
  have HB := Lib.hid hb
  clear hb
  go_enter Try.func55, Try.ntmps55
  go_wp2
  go_loop [5] (fun i => ∃ k : Nat, k ≤ t.length ∧ i = .int .i64 k ∧ Hid (namedB (t.take k) ino = false)) (fun i => t.length + 1 - (intOf i).toNat)
  case atStart => exact ⟨0, Nat.zero_le _, rfl, rfl⟩
  case round =>
    obtain ⟨k, hk, rfl, hno⟩ := hrel
    by_cases hkn : k < t.length
    · obtain ⟨_, ⟨v, g1, hv⟩, _⟩ := h.get hkn
      obtain ⟨A, c', rfl, hcl, hcm, hread⟩ := hv.get
      have hx := nd_get hkn
      obtain ⟨l, hl⟩ : ∃ l, (nd t k).l = l := ⟨_, rfl⟩
      have HL := Lib.hid hl
      rw [hl] at g1 hcl hread
      have HR := Lib.hid hread
      have HX := Lib.hid hx
      clear hread hv hl hx
      unfold maxLen at hcm
      go_wp2
      go_loop [6] (fun i => ∃ j : Nat, j ≤ l.length ∧ i = .int .i64 j ∧ Hid ((l.take j).any (fun e => e.ino == ino) = false)) (fun i => l.length + 1 - (intOf i).toNat)
      case atStart => exact ⟨0, Nat.zero_le _, rfl, rfl⟩
      case round =>
        obtain ⟨j, hj, rfl, hin⟩ := hrel
        by_cases hjn : j < l.length
        · obtain ⟨bb, rfl, e1, e2⟩ := HR.out j _ (List.getElem?_eq_getElem hjn)
          by_cases hn : (l[j].ino == ino) = true
          · have HF : Hid (b = true) := by
              show _ = _
              rw [← HB.out]
              exact any_found _ HX.out (by rw [HL.out]; exact any_found _ (List.getElem?_eq_getElem hjn) hn)
            go_wp2
            go_ret
            exact ⟨ret_bool HF.out.symm, rfl⟩
          · have hn' : (l[j].ino == ino) = false := by simpa using hn
            clear hn
            go_wp2
            go_round
            case rel => exact ⟨j + 1, by omega, by go_num, by show _ = _; rw [any_take_succ _ (List.getElem?_eq_getElem hjn), hin.out, hn']; rfl⟩
            case measure => simp [intOf]; omega
        · have HF : Hid (l.any (fun e => e.ino == ino) = false) := by
            have := hin.out; rwa [List.take_of_length_le (by omega)] at this
          go_wp2
          go_round
          case rel => exact ⟨k + 1, by omega, by go_num, by show _ = _; unfold namedB; rw [any_take_succ _ HX.out]; have := hno.out; unfold namedB at this; rw [this, HL.out, HF.out]; rfl⟩
          case measure => simp [intOf]; omega
    · have HF : Hid (b = false) := by
        have := hno.out; rw [List.take_of_length_le (by omega)] at this
        show _ = _
        rw [← HB.out, this]
      go_wp2
      go_ret
      exact ⟨ret_bool HF.out.symm, rfl⟩
end Go.Proofs.Ytnnidgjfjgkdpaa
