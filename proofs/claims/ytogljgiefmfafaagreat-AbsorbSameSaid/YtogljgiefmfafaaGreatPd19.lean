/- Trees as the document has them: what a tree is, and how it lies in memory. -/
import Derived.Test.YtogljgiefmfafaaGreatRows
import Derived.WalkKit
import Derived.WalkSpells
import Derived.WalkLawsBesides
import Derived.Lib.Hide
import Derived.Below
import Derived.Deep.Draws
import Derived.LoopTactic
import Derived.BigQuiet
import Derived.Deep.MidRow
import Derived.Laws.OwnMore
import Derived.Maps.AppendAt
import Derived.Deep.RegionHeld3
import Derived.Deep.DrawnRows
namespace Go.Proofs.YtogljgiefmfafaaGreat.D
open Go.RowKit
structure Ent where
 name : ByteArray
 ino : Int
structure Nd where
 kind : Int
 l : List Ent
 data : ByteArray
 held : Int
def noNd : Nd := ⟨0, [], ByteArray.empty, 0⟩
abbrev Tr := List Nd
def nd (t : Tr) (k : Nat) : Nd := t.getD k noNd
def ndAt (t : Tr) (ino : Int) : Nd := nd t (ino.toNat - 1)
theorem nd_get {t : Tr} {k : Nat} (hk : k < t.length) : t[k]? = some (nd t k) := by
 unfold nd; rw [List.getD_eq_getElem?_getD, List.getElem?_eq_getElem hk]; rfl
def Ent.cells (e : Ent) : List Value := [.string e.name, .int .u32 e.ino]
def entCells (l : List Ent) : List Value := l.flatMap Ent.cells
theorem entCells_length (l : List Ent) : (entCells l).length = l.length * 2 := by
 induction l with
 | nil => rfl
 | cons e l ih => unfold entCells at *; rw [List.flatMap_cons, List.length_append, ih]; simp [Ent.cells]; omega
theorem entCells_append (a b : List Ent) : entCells (a ++ b) = entCells a ++ entCells b := by simp [entCells]
theorem entCells_get : ∀ (l : List Ent) (k j : Nat) (e : Ent), l[k]? = some e → j < 2 → (entCells l)[k * 2 + j]? = e.cells[j]?
 | [], k, j, e, h, _ => by simp at h
 | x :: l, 0, j, e, h, hj => by
  simp at h; subst h
  unfold entCells; rw [List.flatMap_cons, List.getElem?_append_left (by simp [Ent.cells]; omega)]; simp
 | x :: l, k + 1, j, e, h, hj => by
  have := entCells_get l k j e (by simpa using h) hj
  unfold entCells at *
  rw [List.flatMap_cons, List.getElem?_append_right (by simp [Ent.cells]; omega), show (k + 1) * 2 + j - x.cells.length = k * 2 + j by simp [Ent.cells]; omega]
  exact this
def EntsAt (w : World) (v : Value) (l : List Ent) : Prop := w.ownsRow 0 149 2 v l.length (entCells l)
def NodeAt (w : World) (cs : Array Value) (k : Nat) (x : Nd) : Prop :=
 cs[k * 4]? = some (.int .u8 x.kind) ∧ (∃ v, cs[k * 4 + 1]? = some v ∧ EntsAt w v x.l) ∧ cs[k * 4 + 2]? = some (.string x.data) ∧ cs[k * 4 + 3]? = some (.int .i64 x.held)
structure TreeAt (w : World) (P G : Nat) (t : Tr) : Prop where
 head : ∃ c, t.length ≤ c ∧ c ≤ maxLen ∧ w.heap[P]? = some (.cells #[.slice (some ⟨G, 0, none⟩) t.length c] 103 (0, 0))
 nodes : ∃ cs, w.heap[G]? = some (.cells cs 105 (0, 0)) ∧ t.length * 4 ≤ cs.size ∧ ∀ k x, t[k]? = some x → NodeAt w cs k x
 small : t.length ≤ 4096
section
variable {w : World} {P G : Nat} {t : Tr}
theorem TreeAt.cell0 (h : TreeAt w P G t) : ∃ c, t.length ≤ c ∧ c ≤ maxLen ∧ w.cell? ⟨P, 0, none⟩ = some (.slice (some ⟨G, 0, none⟩) t.length c) := by
 obtain ⟨c, h1, h2, h3⟩ := h.head
 exact ⟨c, h1, h2, by simp [World.cell?, h3]⟩
theorem EntsAt.get {v : Value} {l : List Ent} (h : EntsAt w v l) : ∃ A c, v = .slice A l.length c ∧ l.length ≤ c ∧ c ≤ maxLen ∧
  ∀ j e, l[j]? = some e → ∃ b, A = some ⟨b, 0, none⟩ ∧ w.cell? ⟨b, j * 2, none⟩ = some (.string e.name) ∧ w.cell? ⟨b, j * 2 + 1, none⟩ = some (.int .u32 e.ino) := by
 rcases h.2 with ⟨rfl, h0⟩ | ⟨g, cap, cur, rfl, _, hg, hc1, hc2, hc3, hc4⟩
 · have hl : l = [] := List.eq_nil_of_length_eq_zero h0
   subst hl
   exact ⟨none, 0, rfl, Nat.le_refl _, Nat.zero_le _, fun j e hj => by simp at hj⟩
 · refine ⟨_, _, rfl, hc1, hc2, fun j e hj => ⟨g, rfl, ?_⟩⟩
   have hjl : j < l.length := (List.getElem?_eq_some_iff.1 hj).1
   have hc : ∀ i, i < 2 → w.cell? ⟨g, j * 2 + i, none⟩ = e.cells[i]? := fun i hi => by
    have e1 := entCells_get l j i e hj hi
    rw [← hc4, List.getElem?_take_of_lt (by omega)] at e1
    simp only [World.cell?, hg]
    rw [← e1]; simp
   exact ⟨hc 0 (by omega), hc 1 (by omega)⟩
theorem TreeAt.get (h : TreeAt w P G t) {k : Nat} (hk : k < t.length) : w.cell? ⟨G, k * 4, none⟩ = some (.int .u8 (nd t k).kind) ∧
  (∃ v, w.cell? ⟨G, k * 4 + 1, none⟩ = some v ∧ EntsAt w v (nd t k).l) ∧
  w.cell? ⟨G, k * 4 + 2, none⟩ = some (.string (nd t k).data) ∧ w.cell? ⟨G, k * 4 + 3, none⟩ = some (.int .i64 (nd t k).held) := by
 obtain ⟨cs, hg, hsz, hn⟩ := h.nodes
 obtain ⟨h0, ⟨v, h1, hv⟩, h2, h3⟩ := hn k _ (nd_get hk)
 have hc : ∀ j, w.cell? ⟨G, j, none⟩ = cs[j]? := fun j => by simp [World.cell?, hg]
 exact ⟨(hc _).trans h0, ⟨v, (hc _).trans h1, hv⟩, (hc _).trans h2, (hc _).trans h3⟩
theorem TreeAt.idx (_ : TreeAt w P G t) {ino : Int} (h1 : 1 ≤ ino) (h2 : ino ≤ t.length) : ino.toNat - 1 < t.length := by omega
end
def isN (a b : ByteArray) : Bool := a.toList == b.toList
def place (l : List Ent) (s : ByteArray) : Option Nat := l.findIdx? (fun e => isN e.name s)
def placeI (l : List Ent) (s : ByteArray) : Int := match place l s with | some k => (k : Int) | none => -1
def NoneTo (l : List Ent) (s : ByteArray) (j : Nat) : Prop := ∀ i e, i < j → l[i]? = some e → isN e.name s = false
theorem NoneTo.zero (l : List Ent) (s : ByteArray) : NoneTo l s 0 := fun i e h _ => absurd h (by omega)
theorem NoneTo.succ {l : List Ent} {s : ByteArray} {j : Nat} {e : Ent} (h : NoneTo l s j) (he : l[j]? = some e) (hn : (e.name.toList == s.toList) = false) : NoneTo l s (j + 1) := fun i x hi hx => by
 by_cases hij : i = j
 · subst hij; rw [he] at hx; cases hx; exact hn
 · exact h i x (by omega) hx
theorem NoneTo.found {l : List Ent} {s : ByteArray} {j : Nat} {e : Ent} (h : NoneTo l s j) (he : l[j]? = some e) (hn : (e.name.toList == s.toList) = true) : place l s = some j := by
 unfold place
 rw [List.findIdx?_eq_some_iff_getElem]
 have hj := (List.getElem?_eq_some_iff.1 he).1
 refine ⟨hj, ?_, fun i hi => ?_⟩
 · rw [(List.getElem?_eq_some_iff.1 he).2]; exact hn
 · have := h i l[i] hi (List.getElem?_eq_getElem (by omega)); simp [this]
theorem NoneTo.none_ {l : List Ent} {s : ByteArray} (h : NoneTo l s l.length) : place l s = none := by
 unfold place
 rw [List.findIdx?_eq_none_iff]
 intro e he
 obtain ⟨i, hi, rfl⟩ := List.getElem_of_mem he
 exact h i _ hi (List.getElem?_eq_getElem hi)
set_option maxHeartbeats 1000000 in
theorem t_kind (P G : Nat) (t : Tr) (ino : Int) (w : World) (h : TreeAt w P G t) (h1 : 1 ≤ ino) (h2 : ino ≤ t.length) :
  Calls Tryz.prog 116 #[.pointer (some ⟨P, 0, none⟩), .int .u32 ino] w fun e w' => e = .returned (.int .u8 (ndAt t ino).kind) ∧ w = w' := by
 have hs := h.small
 obtain ⟨c, hc1, hc2, hc⟩ := h.cell0
 obtain ⟨g0, _⟩ := h.get (h.idx h1 h2)
 unfold maxLen at hc2
 go_enter Tryz.func116, Tryz.ntmps116
 go_wp2
 go_ret
 exact ⟨rfl, rfl⟩
theorem ret_bool {a b : Bool} (h : a = b) : Ending.returned (.bool a) = .returned (.bool b) := by rw [h]
def thereB (t : Tr) (ino : Int) : Bool := decide (1 ≤ ino ∧ ino ≤ t.length ∧ (ndAt t ino).kind ≠ 0)
set_option maxHeartbeats 2000000 in
theorem t_there (P G : Nat) (t : Tr) (ino : Int) (b : Bool) (hb : thereB t ino = b) (w : World) (h : TreeAt w P G t) (_h0 : 0 ≤ ino) :
  Calls Tryz.prog 113 #[.pointer (some ⟨P, 0, none⟩), .int .u32 ino] w fun e w' => e = .returned (.bool b) ∧ w = w' := by
 have hs := h.small
 obtain ⟨c, hc1, hc2, hc⟩ := h.cell0
 unfold maxLen at hc2
 by_cases h1 : 1 ≤ ino ∧ ino ≤ t.length
 · have HB : Hid (((nd t (ino.toNat - 1)).kind != 0) = b) := by
    show _ = _
    rw [← hb]; unfold thereB ndAt
    rw [Bool.eq_iff_iff]; simp [h1]
   obtain ⟨h1, h2⟩ := h1
   obtain ⟨g0, _⟩ := h.get (h.idx h1 h2)
   clear hb
   go_enter Tryz.func113, Tryz.ntmps113
   go_wp2
   go_ret
   exact ⟨ret_bool HB.out, rfl⟩
 · have hf : thereB t ino = false := by unfold thereB; simp; omega
   rw [hf] at hb
   subst hb
   clear hf
   by_cases h2 : 1 ≤ ino
   · have h3 : ¬ ino ≤ t.length := fun hh => h1 ⟨h2, hh⟩
     clear h1
     go_enter Tryz.func113, Tryz.ntmps113
     go_wp2
     go_ret
     exact ⟨rfl, rfl⟩
   · clear h1
     go_enter Tryz.func113, Tryz.ntmps113
     go_wp2
     go_ret
     exact ⟨rfl, rfl⟩
theorem ret_i64 {a b : Int} (h : a = b) : Ending.returned (.int .i64 a) = .returned (.int .i64 b) := by rw [h]
set_option maxHeartbeats 2000000 in
theorem t_at (P G : Nat) (t : Tr) (ino : Int) (s : ByteArray) (r : Int) (hr : placeI (ndAt t ino).l s = r) (w : World) (h : TreeAt w P G t) (h1 : 1 ≤ ino) (h2 : ino ≤ t.length) :
  Calls Tryz.prog 112 #[.pointer (some ⟨P, 0, none⟩), .int .u32 ino, .string s] w fun e w' => e = .returned (.int .i64 r) ∧ w = w' := by
 have hs := h.small
 obtain ⟨c, hc1, hc2, hc⟩ := h.cell0
 obtain ⟨_, ⟨v, g1, hv⟩, _⟩ := h.get (h.idx h1 h2)
 obtain ⟨A, c', rfl, hcl, hcm, hread⟩ := hv.get
 have HX : Hid (placeI (nd t (ino.toNat - 1)).l s = r) := hr
 clear hr
 obtain ⟨l, hl⟩ : ∃ l, (nd t (ino.toNat - 1)).l = l := ⟨_, rfl⟩
 rw [hl] at HX g1 hcl hread
 have HR := Lib.hid hread
 clear hread hv hl
 unfold maxLen at hc2 hcm
 go_enter Tryz.func112, Tryz.ntmps112
 go_wp2
 go_loop [8] (fun i => ∃ j : Nat, j ≤ l.length ∧ NoneTo l s j ∧ i = .int .i64 j) (fun i => l.length + 1 - (intOf i).toNat)
 case atStart => exact ⟨0, Nat.zero_le _, NoneTo.zero _ _, rfl⟩
 case round =>
  obtain ⟨j, hj, hno, rfl⟩ := hrel
  have HN := Lib.hid hno
  clear hno
  by_cases hjn : j < l.length
  · obtain ⟨b, rfl, e1, e2⟩ := HR.out j _ (List.getElem?_eq_getElem hjn)
    by_cases hn : (l[j].name.toList == s.toList) = true
    · go_wp2
      go_ret
      exact ⟨ret_i64 (by rw [← HX.out]; unfold placeI; rw [HN.out.found (List.getElem?_eq_getElem hjn) hn]), rfl⟩
    · have hn' : (l[j].name.toList == s.toList) = false := by simpa using hn
      clear hn
      go_wp2
      go_round
      case rel => exact ⟨j + 1, by omega, HN.out.succ (List.getElem?_eq_getElem hjn) hn', by go_num⟩
      case measure => simp [intOf]; omega
  · have hje : j = l.length := by omega
    have HE := Lib.hid hje
    clear hje
    go_wp2
    go_ret
    exact ⟨ret_i64 (by rw [← HX.out]; unfold placeI; rw [NoneTo.none_ (by rw [← HE.out]; exact HN.out)]), rfl⟩
def namedB (t : Tr) (ino : Int) : Bool := t.any fun x => x.l.any fun e => e.ino == ino
def linksN (t : Tr) (ino : Int) : Nat := (t.map fun x => x.l.countP fun e => e.ino == ino).sum
theorem any_take_succ {α : Type} {l : List α} {j : Nat} {x : α} (p : α → Bool) (hx : l[j]? = some x) : (l.take (j + 1)).any p = ((l.take j).any p || p x) := by
 rw [List.take_add_one, hx]; simp
theorem any_found {α : Type} {l : List α} {j : Nat} {x : α} (p : α → Bool) (hx : l[j]? = some x) (hp : p x = true) : l.any p = true := by
 rw [List.any_eq_true]; exact ⟨x, List.mem_of_getElem? hx, hp⟩
set_option maxHeartbeats 2000000 in
theorem t_named (P G : Nat) (t : Tr) (ino : Int) (b : Bool) (hb : namedB t ino = b) (w : World) (h : TreeAt w P G t) :
  Calls Tryz.prog 168 #[.pointer (some ⟨P, 0, none⟩), .int .u32 ino] w fun e w' => e = .returned (.bool b) ∧ w = w' := by
 have hs := h.small
 obtain ⟨c, hc1, hc2, hc⟩ := h.cell0
 unfold maxLen at hc2
 have HB := Lib.hid hb
 clear hb
 go_enter Tryz.func168, Tryz.ntmps168
 go_wp2
 go_loop [5] (fun i => ∃ k : Nat, k ≤ t.length ∧ i = .int .i64 k ∧ Hid (namedB (t.take k) ino = false)) (fun i => t.length + 1 - (intOf i).toNat)
 case atStart => exact ⟨0, Nat.zero_le _, rfl, rfl⟩
 case round =>
  obtain ⟨k, hk, rfl, hno⟩ := hrel
  by_cases hkn : k < t.length
  · obtain ⟨_, ⟨v, g1, hv⟩, _⟩ := h.get hkn
    obtain ⟨A, c', rfl, hcl, hcm, hread⟩ := hv.get
    have hx := nd_get hkn
    obtain ⟨l, hl⟩ : ∃ l, (nd t k).l = l := ⟨_, rfl⟩
    have HL := Lib.hid hl
    rw [hl] at g1 hcl hread
    have HR := Lib.hid hread
    have HX := Lib.hid hx
    clear hread hv hl hx
    unfold maxLen at hcm
    go_wp2
    go_loop [6] (fun i => ∃ j : Nat, j ≤ l.length ∧ i = .int .i64 j ∧ Hid ((l.take j).any (fun e => e.ino == ino) = false)) (fun i => l.length + 1 - (intOf i).toNat)
    case atStart => exact ⟨0, Nat.zero_le _, rfl, rfl⟩
    case round =>
     obtain ⟨j, hj, rfl, hin⟩ := hrel
     by_cases hjn : j < l.length
     · obtain ⟨bb, rfl, e1, e2⟩ := HR.out j _ (List.getElem?_eq_getElem hjn)
       by_cases hn : (l[j].ino == ino) = true
       · have HF : Hid (b = true) := by
          show _ = _
          rw [← HB.out]
          exact any_found _ HX.out (by rw [HL.out]; exact any_found _ (List.getElem?_eq_getElem hjn) hn)
         go_wp2
         go_ret
         exact ⟨ret_bool HF.out.symm, rfl⟩
       · have hn' : (l[j].ino == ino) = false := by simpa using hn
         clear hn
         go_wp2
         go_round
         case rel => exact ⟨j + 1, by omega, by go_num, by show _ = _; rw [any_take_succ _ (List.getElem?_eq_getElem hjn), hin.out, hn']; rfl⟩
         case measure => simp [intOf]; omega
     · have HF : Hid (l.any (fun e => e.ino == ino) = false) := by
        have := hin.out; rwa [List.take_of_length_le (by omega)] at this
       go_wp2
       go_round
       case rel => exact ⟨k + 1, by omega, by go_num, by show _ = _; unfold namedB; rw [any_take_succ _ HX.out]; have := hno.out; unfold namedB at this; rw [this, HL.out, HF.out]; rfl⟩
       case measure => simp [intOf]; omega
  · have HF : Hid (b = false) := by
     have := hno.out; rw [List.take_of_length_le (by omega)] at this
     show _ = _
     rw [← HB.out, this]
    go_wp2
    go_ret
    exact ⟨ret_bool HF.out.symm, rfl⟩
end Go.Proofs.YtogljgiefmfafaaGreat.D
namespace Go.Proofs.YtogljgiefmfafaaGreat.D
open Go.RowKit
def plainTo (s : ByteArray) (k : Nat) : Bool := (s.data.toList.take k).all fun c => c != 47 && c != 0
def nameB (s : ByteArray) : Bool := decide (1 ≤ s.size) && decide (s.size ≤ 27) && !(s.toList == [46]) && !(s.toList == [46, 46]) && plainTo s s.size
theorem plainTo_succ {s : ByteArray} {k : Nat} (hk : k < s.size) : plainTo s (k + 1) = (plainTo s k && (s[k] != 47 && s[k] != 0)) := by
 unfold plainTo
 rw [List.take_add_one, List.getElem?_eq_getElem (by simpa using hk), List.all_append]
 simp; rfl
theorem plainTo_bad {s : ByteArray} : ∀ {k m : Nat}, k ≤ m → plainTo s k = false → plainTo s m = false := by
 intro k m hkm h
 unfold plainTo at *
 rw [List.all_eq_false] at *
 obtain ⟨x, hx, hp⟩ := h
 exact ⟨x, List.take_subset_take_left _ hkm hx, hp⟩
theorem byte_eq (c : UInt8) (n : Nat) (hn : n < 256) : ((c.toNat : Int) == (n : Int)) = (c == UInt8.ofNat n) := by
 rw [Bool.eq_iff_iff, beq_iff_eq, beq_iff_eq]
 constructor
 · intro h
   apply UInt8.toNat_inj.1
   rw [UInt8.toNat_ofNat_of_lt' (by simpa using hn)]
   omega
 · intro h
   subst h
   rw [UInt8.toNat_ofNat_of_lt' (by simpa using hn)]
set_option maxHeartbeats 4000000 in
theorem t_name (s : ByteArray) (b : Bool) (hb : nameB s = b) (w : World) (hs : s.size ≤ maxLen) :
  Calls Tryz.prog 58 #[.string s] w fun e w' => e = .returned (.bool b) ∧ w = w' := by
 unfold maxLen at hs
 have HB := Lib.hid hb
 clear hb
 by_cases h1 : 1 ≤ s.size
 · by_cases h2 : s.size ≤ 27
   · by_cases h3 : (s.toList == [46]) = true
     · have HF : Hid (false = b) := by show _ = _; rw [← HB.out]; unfold nameB; simp [h3]
       go_enter Tryz.func58, Tryz.ntmps58
       go_wp2
       go_ret
       exact ⟨ret_bool HF.out, rfl⟩
     · have h3' : (s.toList == [46]) = false := by simpa using h3
       clear h3
       by_cases h4 : (s.toList == [46, 46]) = true
       · have HF : Hid (false = b) := by show _ = _; rw [← HB.out]; unfold nameB; simp [h4]
         go_enter Tryz.func58, Tryz.ntmps58
         go_wp2
         go_ret
         exact ⟨ret_bool HF.out, rfl⟩
       · have h4' : (s.toList == [46, 46]) = false := by simpa using h4
         have HP : Hid (plainTo s s.size = b) := by show _ = _; rw [← HB.out]; unfold nameB; rw [h3', h4']; simp [h1, h2]
         clear h4
         go_enter Tryz.func58, Tryz.ntmps58
         go_wp2
         go_loop [3] (fun i => ∃ k : Nat, k ≤ s.size ∧ i = .int .i64 k ∧ Hid (plainTo s k = true)) (fun i => s.size + 1 - (intOf i).toNat)
         case atStart => exact ⟨0, by omega, rfl, rfl⟩
         case round =>
          obtain ⟨k, hk, rfl, hp⟩ := hrel
          by_cases hkn : k < s.size
          · have hsu := plainTo_succ hkn
            have e47 := byte_eq s[k] 47 (by omega)
            have e0 := byte_eq s[k] 0 (by omega)
            by_cases hq : (s[k] == 47) = true
            · have q1 : ((s[k].toNat : Int) == 47) = true := e47.trans hq
              have HF : Hid (false = b) := by
               show _ = _
               rw [← HP.out, plainTo_bad (k := k + 1) (by omega) (by rw [hsu, hp.out]; simp [bne, hq])]
              clear e47 e0 hq hsu
              go_wp2
              go_ret
              exact ⟨ret_bool HF.out, rfl⟩
            · have q1 : ((s[k].toNat : Int) == 47) = false := e47.trans (by simpa using hq)
              by_cases hz : (s[k] == 0) = true
              · have q2 : ((s[k].toNat : Int) == 0) = true := e0.trans hz
                have HF : Hid (false = b) := by
                 show _ = _
                 rw [← HP.out, plainTo_bad (k := k + 1) (by omega) (by rw [hsu, hp.out]; simp [bne, hz])]
                clear e47 e0 hq hz hsu
                go_wp2
                go_ret
                exact ⟨ret_bool HF.out, rfl⟩
              · have q2 : ((s[k].toNat : Int) == 0) = false := e0.trans (by simpa using hz)
                have HQ : Hid (plainTo s (k + 1) = true) := by
                 show _ = _
                 rw [hsu, hp.out]
                 have a1 : (s[k] == 47) = false := by simpa using hq
                 have a2 : (s[k] == 0) = false := by simpa using hz
                 simp [bne, a1, a2]
                clear e47 e0 hq hz hsu
                go_wp2
                go_round
                case rel => exact ⟨k + 1, by omega, by go_num, HQ⟩
                case measure => simp [intOf]; omega
          · have HF : Hid (true = b) := by
             show _ = _
             rw [← HP.out, show s.size = k by omega]; exact hp.out.symm
            go_wp2
            go_ret
            exact ⟨ret_bool HF.out, rfl⟩
   · have HF : Hid (false = b) := by show _ = _; rw [← HB.out]; unfold nameB; simp [h2]
     go_enter Tryz.func58, Tryz.ntmps58
     go_wp2
     go_ret
     exact ⟨ret_bool HF.out, rfl⟩
 · have HF : Hid (false = b) := by show _ = _; rw [← HB.out]; unfold nameB; simp [h1]
   go_enter Tryz.func58, Tryz.ntmps58
   go_wp2
   go_ret
   exact ⟨ret_bool HF.out, rfl⟩
def dirE (t : Tr) (ino : Int) (s : ByteArray) : Int := if nameB s = false then 2 else if thereB t ino = false then 3 else if ((ndAt t ino).kind != 2) = true then 180 else 0
theorem thereB_bounds {t : Tr} {ino : Int} (h : thereB t ino = true) : 1 ≤ ino ∧ ino ≤ t.length ∧ (ndAt t ino).kind ≠ 0 := by unfold thereB at h; simpa using h
set_option maxHeartbeats 2000000 in
theorem t_dir (P G : Nat) (t : Tr) (ino : Int) (s : ByteArray) (r : Int) (hr : dirE t ino s = r) (w : World) (h : TreeAt w P G t) (h0 : 0 ≤ ino) (hs : s.size ≤ maxLen) :
  Calls Tryz.prog 111 #[.pointer (some ⟨P, 0, none⟩), .int .u32 ino, .string s] w fun e w' => e = .returned (.int .i64 r) ∧ w = w' := by
 cases hn : nameB s with
 | false =>
  have HR : Hid (2 = r) := by show _ = _; rw [← hr]; unfold dirE; rw [if_pos hn]
  have HN := Lib.hid hn
  clear hn hr
  go_enter Tryz.func111, Tryz.ntmps111
  go_wp2_with (first | (go_at_call 58; refine (t_name s _ HN.out _ hs).mono ?_; rintro e w' ⟨rfl, rfl⟩))
  go_ret
  exact ⟨ret_i64 HR.out, rfl⟩
 | true =>
  cases ht : thereB t ino with
  | false =>
   have HR : Hid (3 = r) := by show _ = _; rw [← hr]; unfold dirE; rw [if_neg (by rw [hn]; simp), if_pos ht]
   have HN := Lib.hid hn
   have HT := Lib.hid ht
   clear hn hr ht
   go_enter Tryz.func111, Tryz.ntmps111
   go_wp2_with (first | (go_at_call 58; refine (t_name s _ HN.out _ hs).mono ?_; rintro e w' ⟨rfl, rfl⟩) | (go_at_call 113; refine (t_there P G t ino _ HT.out _ h h0).mono ?_; rintro e w' ⟨rfl, rfl⟩))
   go_ret
   exact ⟨ret_i64 HR.out, rfl⟩
  | true =>
   obtain ⟨b1, b2, _⟩ := thereB_bounds ht
   cases hk : ((ndAt t ino).kind != 2) with
   | true =>
    have HR : Hid (180 = r) := by show _ = _; rw [← hr]; unfold dirE; rw [if_neg (by rw [hn]; simp), if_neg (by rw [ht]; simp), if_pos hk]
    have HN := Lib.hid hn
    have HT := Lib.hid ht
    clear hn hr ht
    go_enter Tryz.func111, Tryz.ntmps111
    go_wp2_with (first | (go_at_call 58; refine (t_name s _ HN.out _ hs).mono ?_; rintro e w' ⟨rfl, rfl⟩) | (go_at_call 113; refine (t_there P G t ino _ HT.out _ h h0).mono ?_; rintro e w' ⟨rfl, rfl⟩) | (go_at_call 116; refine (t_kind P G t ino _ h b1 b2).mono ?_; rintro e w' ⟨rfl, rfl⟩))
    go_ret
    exact ⟨ret_i64 HR.out, rfl⟩
   | false =>
    have HR : Hid (0 = r) := by show _ = _; rw [← hr]; unfold dirE; rw [if_neg (by rw [hn]; simp), if_neg (by rw [ht]; simp), if_neg (by rw [hk]; simp)]
    have HN := Lib.hid hn
    have HT := Lib.hid ht
    clear hn hr ht
    go_enter Tryz.func111, Tryz.ntmps111
    go_wp2_with (first | (go_at_call 58; refine (t_name s _ HN.out _ hs).mono ?_; rintro e w' ⟨rfl, rfl⟩) | (go_at_call 113; refine (t_there P G t ino _ HT.out _ h h0).mono ?_; rintro e w' ⟨rfl, rfl⟩) | (go_at_call 116; refine (t_kind P G t ino _ h b1 b2).mono ?_; rintro e w' ⟨rfl, rfl⟩))
    go_ret
    exact ⟨ret_i64 HR.out, rfl⟩
def lookR (t : Tr) (ino : Int) (s : ByteArray) : Int × Int :=
 if dirE t ino s ≠ 0 then (0, dirE t ino s) else match place (ndAt t ino).l s with
  | none => (0, 3)
  | some k => (((ndAt t ino).l[k]?.map Ent.ino).getD 0, 0)
theorem dirE_zero {t : Tr} {ino : Int} {s : ByteArray} (h : dirE t ino s = 0) : nameB s = true ∧ thereB t ino = true ∧ (ndAt t ino).kind = 2 := by
 unfold dirE at h
 by_cases h1 : nameB s = false
 · rw [if_pos h1] at h; omega
 · rw [if_neg h1] at h
   by_cases h2 : thereB t ino = false
   · rw [if_pos h2] at h; omega
   · rw [if_neg h2] at h
     by_cases h3 : ((ndAt t ino).kind != 2) = true
     · rw [if_pos h3] at h; omega
     · exact ⟨by simpa using h1, by simpa using h2, by simpa using h3⟩
theorem place_get {l : List Ent} {s : ByteArray} {k : Nat} (h : place l s = some k) : ∃ e, l[k]? = some e ∧ isN e.name s = true := by
 unfold place at h
 rw [List.findIdx?_eq_some_iff_getElem] at h
 obtain ⟨hk, hp, _⟩ := h
 exact ⟨_, List.getElem?_eq_getElem hk, hp⟩
theorem ret2_i (k k' : IntKind) {a b c d : Int} (h : a = b) (h' : c = d) : Ending.returned (.tuple #[.int k a, .int k' c]) = .returned (.tuple #[.int k b, .int k' d]) := by rw [h, h']
set_option maxHeartbeats 2000000 in
theorem t_look (P G : Nat) (t : Tr) (ino : Int) (s : ByteArray) (r e0 : Int) (hr : lookR t ino s = (r, e0)) (w : World) (h : TreeAt w P G t) (h0 : 0 ≤ ino) (hs : s.size ≤ maxLen) :
  Calls Tryz.prog 118 #[.pointer (some ⟨P, 0, none⟩), .int .u32 ino, .string s] w fun e w' => e = .returned (.tuple #[.int .u32 r, .int .i64 e0]) ∧ w = w' := by
 by_cases hd : dirE t ino s = 0
 · obtain ⟨_, ht, _⟩ := dirE_zero hd
   obtain ⟨b1, b2, _⟩ := thereB_bounds ht
   have hsm := h.small
   obtain ⟨c, hc1, hc2, hc⟩ := h.cell0
   obtain ⟨_, ⟨v, g1, hv⟩, _⟩ := h.get (h.idx b1 b2)
   obtain ⟨A, c', rfl, hcl, hcm, hread⟩ := hv.get
   unfold maxLen at hc2 hcm
   have HD := Lib.hid hd
   cases hp : place (ndAt t ino).l s with
   | none =>
    have HR : Hid (0 = r ∧ 3 = e0) := by
     have : lookR t ino s = (0, 3) := by unfold lookR; rw [if_neg (by simpa using hd), hp]
     rw [this] at hr; injection hr with a b; exact ⟨a, b⟩
    have HP : Hid (placeI (ndAt t ino).l s = -1) := by show _ = _; unfold placeI; rw [hp]
    clear hr hp hd ht hread hv
    go_enter Tryz.func118, Tryz.ntmps118
    go_wp2_with (first | (go_at_call 111; refine (t_dir P G t ino s _ HD.out _ h h0 hs).mono ?_; rintro e w' ⟨rfl, rfl⟩) | (go_at_call 112; refine (t_at P G t ino s _ HP.out _ h b1 b2).mono ?_; rintro e w' ⟨rfl, rfl⟩))
    go_ret2
    exact ⟨ret2_i _ _ HR.out.1 HR.out.2, rfl⟩
   | some k =>
    obtain ⟨x, hx, _⟩ := place_get hp
    have HR : Hid (x.ino = r ∧ 0 = e0) := by
     have : lookR t ino s = (x.ino, 0) := by unfold lookR; rw [if_neg (by simpa using hd), hp]; simp [hx]
     rw [this] at hr; injection hr with a b; exact ⟨a, b⟩
    have HP : Hid (placeI (ndAt t ino).l s = (k : Nat)) := by show _ = _; unfold placeI; rw [hp]
    obtain ⟨bb, rfl, e1, e2⟩ := hread k x hx
    have hkl : k < (nd t (ino.toNat - 1)).l.length := (List.getElem?_eq_some_iff.1 hx).1
    clear hr hp hd ht hread hv hx
    go_enter Tryz.func118, Tryz.ntmps118
    go_wp2_with (first | (go_at_call 111; refine (t_dir P G t ino s _ HD.out _ h h0 hs).mono ?_; rintro e w' ⟨rfl, rfl⟩) | (go_at_call 112; refine (t_at P G t ino s _ HP.out _ h b1 b2).mono ?_; rintro e w' ⟨rfl, rfl⟩))
    go_ret2
    exact ⟨ret2_i _ _ HR.out.1 HR.out.2, rfl⟩
 · have HR : Hid (0 = r ∧ dirE t ino s = e0) := by
    have : lookR t ino s = (0, dirE t ino s) := by unfold lookR; rw [if_pos (by simpa using hd)]
    rw [this] at hr; injection hr with a b; exact ⟨a, b⟩
   obtain ⟨d, hdd⟩ : ∃ d, dirE t ino s = d := ⟨_, rfl⟩
   have HD := Lib.hid hdd
   rw [hdd] at hd HR
   have hne : (d != 0) = true := by simpa using hd
   clear hr hdd hd
   go_enter Tryz.func118, Tryz.ntmps118
   go_wp2_with (first | (go_at_call 111; refine (t_dir P G t ino s _ HD.out _ h h0 hs).mono ?_; rintro e w' ⟨rfl, rfl⟩))
   go_ret2
   exact ⟨ret2_i _ _ HR.out.1 HR.out.2, rfl⟩
end Go.Proofs.YtogljgiefmfafaaGreat.D
namespace Go.Proofs.YtogljgiefmfafaaGreat.D
open Go.RowKit
def fileE (t : Tr) (ino : Int) : Int := if thereB t ino = false then 3 else if ((ndAt t ino).kind == 2) = true then 181 else 0
theorem fileE_zero {t : Tr} {ino : Int} (h : fileE t ino = 0) : thereB t ino = true ∧ (ndAt t ino).kind ≠ 2 := by
 unfold fileE at h
 by_cases h2 : thereB t ino = false
 · rw [if_pos h2] at h; omega
 · rw [if_neg h2] at h
   by_cases h3 : ((ndAt t ino).kind == 2) = true
   · rw [if_pos h3] at h; omega
   · exact ⟨by simpa using h2, by simpa using h3⟩
set_option maxHeartbeats 2000000 in
theorem t_file (P G : Nat) (t : Tr) (ino : Int) (r : Int) (hr : fileE t ino = r) (w : World) (h : TreeAt w P G t) (h0 : 0 ≤ ino) :
  Calls Tryz.prog 115 #[.pointer (some ⟨P, 0, none⟩), .int .u32 ino] w fun e w' => e = .returned (.int .i64 r) ∧ w = w' := by
 cases ht : thereB t ino with
 | false =>
  have HR : Hid (3 = r) := by show _ = _; rw [← hr]; unfold fileE; rw [if_pos ht]
  have HT := Lib.hid ht
  clear hr ht
  go_enter Tryz.func115, Tryz.ntmps115
  go_wp2_with (first | (go_at_call 113; refine (t_there P G t ino _ HT.out _ h h0).mono ?_; rintro e w' ⟨rfl, rfl⟩))
  go_ret
  exact ⟨ret_i64 HR.out, rfl⟩
 | true =>
  obtain ⟨b1, b2, _⟩ := thereB_bounds ht
  cases hk : ((ndAt t ino).kind == 2) with
  | true =>
   have HR : Hid (181 = r) := by show _ = _; rw [← hr]; unfold fileE; rw [if_neg (by rw [ht]; simp), if_pos hk]
   have HT := Lib.hid ht
   clear hr ht
   go_enter Tryz.func115, Tryz.ntmps115
   go_wp2_with (first | (go_at_call 113; refine (t_there P G t ino _ HT.out _ h h0).mono ?_; rintro e w' ⟨rfl, rfl⟩) | (go_at_call 116; refine (t_kind P G t ino _ h b1 b2).mono ?_; rintro e w' ⟨rfl, rfl⟩))
   go_ret
   exact ⟨ret_i64 HR.out, rfl⟩
  | false =>
   have HR : Hid (0 = r) := by show _ = _; rw [← hr]; unfold fileE; rw [if_neg (by rw [ht]; simp), if_neg (by rw [hk]; simp)]
   have HT := Lib.hid ht
   clear hr ht
   go_enter Tryz.func115, Tryz.ntmps115
   go_wp2_with (first | (go_at_call 113; refine (t_there P G t ino _ HT.out _ h h0).mono ?_; rintro e w' ⟨rfl, rfl⟩) | (go_at_call 116; refine (t_kind P G t ino _ h b1 b2).mono ?_; rintro e w' ⟨rfl, rfl⟩))
   go_ret
   exact ⟨ret_i64 HR.out, rfl⟩
def Small (t : Tr) : Prop := ∀ x ∈ t, x.l.length ≤ 100000
theorem Small.nd {t : Tr} (h : Small t) {k : Nat} (hk : k < t.length) : (nd t k).l.length ≤ 100000 := h _ (List.mem_of_getElem? (nd_get hk))
def linksTo (t : Tr) (ino : Int) (k : Nat) : Nat := linksN (t.take k) ino
theorem linksTo_succ {t : Tr} {ino : Int} {k : Nat} (hk : k < t.length) : linksTo t ino (k + 1) = linksTo t ino k + (nd t k).l.countP (fun e => e.ino == ino) := by
 unfold linksTo linksN
 rw [List.take_add_one, nd_get hk]; simp
theorem linksTo_le {t : Tr} {ino : Int} (h : Small t) : ∀ k, k ≤ t.length → linksTo t ino k ≤ k * 100000
 | 0, _ => by simp [linksTo, linksN]
 | k + 1, hk => by
  rw [linksTo_succ (by omega)]
  have h1 := linksTo_le (ino := ino) h k (by omega)
  have h2 : (nd t k).l.countP (fun e => e.ino == ino) ≤ (nd t k).l.length := List.countP_le_length
  have h3 := h.nd (k := k) (by omega)
  omega
theorem countP_take_succ {α : Type} {l : List α} {j : Nat} {x : α} (p : α → Bool) (hx : l[j]? = some x) : (l.take (j + 1)).countP p = (l.take j).countP p + if p x then 1 else 0 := by
 rw [List.take_add_one, hx, List.countP_append]; simp [List.countP_cons]
def linksV (t : Tr) (ino : Int) : Int := if ((ndAt t ino).kind == 2) = true then 1 else (linksN t ino : Nat)
set_option maxHeartbeats 4000000 in
theorem t_links (P G : Nat) (t : Tr) (ino : Int) (r : Int) (hr : linksV t ino = r) (w : World) (h : TreeAt w P G t) (h1 : 1 ≤ ino) (h2 : ino ≤ t.length) (hsm : Small t) :
  Calls Tryz.prog 117 #[.pointer (some ⟨P, 0, none⟩), .int .u32 ino] w fun e w' => e = .returned (.int .i64 r) ∧ w = w' := by
 have hs := h.small
 obtain ⟨c, hc1, hc2, hc⟩ := h.cell0
 unfold maxLen at hc2
 cases hk : ((ndAt t ino).kind == 2) with
 | true =>
  have HR : Hid (1 = r) := by show _ = _; rw [← hr]; unfold linksV; rw [if_pos hk]
  clear hr
  go_enter Tryz.func117, Tryz.ntmps117
  go_wp2_with (first | (go_at_call 116; refine (t_kind P G t ino _ h h1 h2).mono ?_; rintro e w' ⟨rfl, rfl⟩))
  go_ret
  exact ⟨ret_i64 HR.out, rfl⟩
 | false =>
  have HR : Hid (((linksTo t ino t.length : Nat) : Int) = r) := by show _ = _; rw [← hr]; unfold linksV linksTo; rw [if_neg (by rw [hk]; simp), List.take_length]
  have HS := Lib.hid hsm
  clear hr hsm
  go_enter Tryz.func117, Tryz.ntmps117
  go_wp2_with (first | (go_at_call 116; refine (t_kind P G t ino _ h h1 h2).mono ?_; rintro e w' ⟨rfl, rfl⟩))
  go_loop [5, 6] (fun n i => ∃ k : Nat, k ≤ t.length ∧ i = .int .i64 k ∧ n = .int .i64 (linksTo t ino k : Nat)) (fun _ i => t.length + 1 - (intOf i).toNat)
  case atStart => exact ⟨0, Nat.zero_le _, rfl, rfl⟩
  case round =>
   obtain ⟨k, hk, rfl, rfl⟩ := hrel
   by_cases hkn : k < t.length
   · obtain ⟨_, ⟨v, g1, hv⟩, _⟩ := h.get hkn
     obtain ⟨A, c', rfl, hcl, hcm, hread⟩ := hv.get
     have hlt := linksTo_le (ino := ino) HS.out k hk
     have hls := HS.out.nd hkn
     have HSu := Lib.hid (linksTo_succ (ino := ino) hkn)
     obtain ⟨l, hl⟩ : ∃ l, (nd t k).l = l := ⟨_, rfl⟩
     have HL := Lib.hid hl
     rw [hl] at g1 hcl hread hls
     have HR2 := Lib.hid hread
     clear hread hv hl
     unfold maxLen at hcm
     go_wp2
     go_loop [5, 7] (fun n i => ∃ j : Nat, j ≤ l.length ∧ i = .int .i64 j ∧ n = .int .i64 ((linksTo t ino k + (l.take j).countP (fun e => e.ino == ino) : Nat) : Int)) (fun _ i => l.length + 1 - (intOf i).toNat)
     case atStart => exact ⟨0, Nat.zero_le _, rfl, by simp⟩
     case round =>
      obtain ⟨j, hj, rfl, rfl⟩ := hrel
      have hcj : (l.take j).countP (fun e => e.ino == ino) ≤ j := Nat.le_trans List.countP_le_length (List.length_take_le _ _)
      by_cases hjn : j < l.length
      · obtain ⟨bb, rfl, e1, e2⟩ := HR2.out j _ (List.getElem?_eq_getElem hjn)
        have hsj := countP_take_succ (fun e : Ent => e.ino == ino) (List.getElem?_eq_getElem hjn)
        obtain ⟨q, hq⟩ : ∃ q, (l.take j).countP (fun e => e.ino == ino) = q := ⟨_, rfl⟩
        rw [hq] at hsj hcj ⊢
        cases hn : (l[j].ino == ino) with
        | true =>
         rw [hn] at hsj
         have HJ := Lib.hid hsj
         clear hsj hq
         go_wp2
         go_round
         case rel => exact ⟨j + 1, by omega, by go_num, by rw [HJ.out]; simp; go_num⟩
         case measure => simp [intOf]; omega
        | false =>
         rw [hn] at hsj
         have HJ := Lib.hid hsj
         clear hsj hq
         go_wp2
         go_round
         case rel => exact ⟨j + 1, by omega, by go_num, by rw [HJ.out]; simp⟩
         case measure => simp [intOf]; omega
      · have HF : Hid (linksTo t ino (k + 1) = linksTo t ino k + (l.take j).countP (fun e => e.ino == ino)) := by
         show _ = _
         rw [HSu.out, HL.out, List.take_of_length_le (by omega)]
        obtain ⟨q, hq⟩ : ∃ q, (l.take j).countP (fun e => e.ino == ino) = q := ⟨_, rfl⟩
        rw [hq] at HF hcj ⊢
        clear hq
        go_wp2
        go_round
        case rel => exact ⟨k + 1, by omega, by go_num, by rw [HF.out]⟩
        case measure => simp [intOf]; omega
   · have HF : Hid (((linksTo t ino k : Nat) : Int) = r) := by show _ = _; rw [← HR.out, show k = t.length by omega]
     go_wp2
     go_ret
     exact ⟨ret_i64 HF.out, rfl⟩
def Child (t : Tr) (c p : Int) : Prop := ∃ e ∈ (ndAt t p).l, e.ino = c ∧ (ndAt t c).kind = 2
inductive Under (t : Tr) (d : Int) : Int → Prop
 | here : Under t d d
 | step {c p : Int} : Child t c p → Under t d c → Under t d p
def GoodE (t : Tr) : Prop := ∀ x ∈ t, ∀ e ∈ x.l, 1 ≤ e.ino ∧ e.ino ≤ t.length
def NoneUnder (t : Tr) (d : Int) (l : List Ent) (j : Nat) : Prop := ∀ i e, i < j → l[i]? = some e → ¬ ((ndAt t e.ino).kind = 2 ∧ Under t d e.ino)
theorem NoneUnder.zero (t : Tr) (d : Int) (l : List Ent) : NoneUnder t d l 0 := fun i e h _ => absurd h (by omega)
theorem NoneUnder.succ {t : Tr} {d : Int} {l : List Ent} {j : Nat} {e : Ent} (h : NoneUnder t d l j) (he : l[j]? = some e) (hn : ¬ ((ndAt t e.ino).kind = 2 ∧ Under t d e.ino)) : NoneUnder t d l (j + 1) := fun i x hi hx => by
 by_cases hij : i = j
 · subst hij; rw [he] at hx; cases hx; exact hn
 · exact h i x (by omega) hx
theorem NoneUnder.not {t : Tr} {d p : Int} (hne : d ≠ p) (h : NoneUnder t d (ndAt t p).l (ndAt t p).l.length) : ¬ Under t d p := by
 intro hu
 cases hu with
 | here => exact hne rfl
 | step hc hu =>
  obtain ⟨e, he, hec, hk⟩ := hc
  obtain ⟨i, hi, rfl⟩ := List.getElem_of_mem he
  subst hec
  exact h i _ hi (List.getElem?_eq_getElem hi) ⟨hk, hu⟩
set_option maxHeartbeats 4000000 in
theorem t_below (P G : Nat) (t : Tr) (d : Int) (w : World) (h : TreeAt w P G t) (hg : GoodE t) : ∀ (top : Int), Acc (Child t) top → ∀ (b : Bool), (b = true ↔ Under t d top) → 1 ≤ top → top ≤ t.length →
  Calls Tryz.prog 167 #[.pointer (some ⟨P, 0, none⟩), .int .u32 d, .int .u32 top] w fun e w' => e = .returned (.bool b) ∧ w = w' := by
 intro top hacc
 induction hacc with
 | intro top _ ih =>
  intro b hb h1 h2
  have hs := h.small
  obtain ⟨c, hc1, hc2, hc⟩ := h.cell0
  obtain ⟨_, ⟨v, g1, hv⟩, _⟩ := h.get (h.idx h1 h2)
  obtain ⟨A, c', rfl, hcl, hcm, hread⟩ := hv.get
  have HG : Hid (∀ e ∈ (nd t (top.toNat - 1)).l, 1 ≤ e.ino ∧ e.ino ≤ t.length) := hg _ (List.mem_of_getElem? (nd_get (h.idx h1 h2)))
  have HI : Hid (∀ e ∈ (nd t (top.toNat - 1)).l, (ndAt t e.ino).kind = 2 → ∀ (b : Bool), (b = true ↔ Under t d e.ino) → 1 ≤ e.ino → e.ino ≤ t.length →
   Calls Tryz.prog 167 #[.pointer (some ⟨P, 0, none⟩), .int .u32 d, .int .u32 e.ino] w fun e w' => e = .returned (.bool b) ∧ w = w') := fun e he hk => ih e.ino ⟨e, he, rfl, hk⟩
  have HS : Hid (∀ e ∈ (nd t (top.toNat - 1)).l, (ndAt t e.ino).kind = 2 → Under t d e.ino → Under t d top) := fun e he hk hu => .step ⟨e, he, rfl, hk⟩ hu
  have HN : Hid (d ≠ top → NoneUnder t d (nd t (top.toNat - 1)).l (nd t (top.toNat - 1)).l.length → ¬ Under t d top) := fun hne hn => NoneUnder.not hne hn
  obtain ⟨l, hl⟩ : ∃ l, (nd t (top.toNat - 1)).l = l := ⟨_, rfl⟩
  rw [hl] at g1 hcl hread HG HI HS HN
  have HR := Lib.hid hread
  have HB := Lib.hid hb
  clear hread hv hl ih hb hg
  unfold maxLen at hc2 hcm
  cases hdt : (d == top) with
  | true =>
   have HF : Hid (true = b) := by
    show _ = _
    have : d = top := by simpa using hdt
    subst this
    exact (HB.out.2 .here).symm
   go_enter Tryz.func167, Tryz.ntmps167
   go_wp2_with fail
   go_ret
   exact ⟨ret_bool HF.out, rfl⟩
  | false =>
   have HNE : Hid (d ≠ top) := by show _ ≠ _; simpa using hdt
   go_enter Tryz.func167, Tryz.ntmps167
   go_wp2_with fail
   go_loop [8] (fun i => ∃ j : Nat, j ≤ l.length ∧ i = .int .i64 j ∧ NoneUnder t d l j) (fun i => l.length + 1 - (intOf i).toNat)
   case atStart => exact ⟨0, Nat.zero_le _, rfl, NoneUnder.zero _ _ _⟩
   case round =>
    obtain ⟨j, hj, rfl, hno⟩ := hrel
    have HNo := Lib.hid hno
    clear hno
    by_cases hjn : j < l.length
    · obtain ⟨bb, rfl, e1, e2⟩ := HR.out j _ (List.getElem?_eq_getElem hjn)
      obtain ⟨i1, i2⟩ := HG.out _ (List.getElem_mem hjn)
      cases hk : ((ndAt t l[j].ino).kind == 2) with
      | false =>
       have HK : Hid ((ndAt t l[j].ino).kind ≠ 2) := by show _ ≠ _; simpa using hk
       go_wp2_with (first | (go_at_call 116; refine (t_kind P G t _ _ h i1 i2).mono ?_; rintro e w' ⟨rfl, rfl⟩))
       go_round
       case rel => exact ⟨j + 1, by omega, by go_num, HNo.out.succ (List.getElem?_eq_getElem hjn) (fun hh => HK.out hh.1)⟩
       case measure => simp [intOf]; omega
      | true =>
       have hk' : (ndAt t l[j].ino).kind = 2 := by simpa using hk
       have HC := Lib.hid (HI.out _ (List.getElem_mem hjn) hk')
       have HS' := Lib.hid (HS.out _ (List.getElem_mem hjn) hk')
       clear hk'
       by_cases hu : Under t d l[j].ino
       · have HF : Hid (true = b) := (HB.out.2 (HS'.out hu)).symm
         have HU := Lib.hid hu
         clear hu
         go_wp2_with (first | (go_at_call 116; refine (t_kind P G t _ _ h i1 i2).mono ?_; rintro e w' ⟨rfl, rfl⟩) | (go_at_call 167; refine (HC.out true ⟨fun _ => HU.out, fun _ => rfl⟩ i1 i2).mono ?_; rintro e w' ⟨rfl, rfl⟩))
         go_ret
         exact ⟨ret_bool HF.out, rfl⟩
       · have HU := Lib.hid hu
         clear hu
         go_wp2_with (first | (go_at_call 116; refine (t_kind P G t _ _ h i1 i2).mono ?_; rintro e w' ⟨rfl, rfl⟩) | (go_at_call 167; refine (HC.out false ⟨fun hh => (by cases hh), fun hh => absurd hh HU.out⟩ i1 i2).mono ?_; rintro e w' ⟨rfl, rfl⟩))
         go_round
         case rel => exact ⟨j + 1, by omega, by go_num, HNo.out.succ (List.getElem?_eq_getElem hjn) (fun hh => HU.out hh.2)⟩
         case measure => simp [intOf]; omega
    · have HF : Hid (false = b) := by
       show _ = _
       have hjl : j = l.length := by omega
       have hno := HNo.out
       rw [hjl] at hno
       have := HN.out HNE.out hno
       cases b with
       | false => rfl
       | true => exact absurd (HB.out.1 rfl) this
      go_wp2_with fail
      go_ret
      exact ⟨ret_bool HF.out, rfl⟩
end Go.Proofs.YtogljgiefmfafaaGreat.D
namespace Go.Proofs.YtogljgiefmfafaaGreat.D
open Go.RowKit
def setNd (t : Tr) (ino : Int) (x : Nd) : Tr := t.set (ino.toNat - 1) x
theorem TreeAt.ltP {w : World} {P G : Nat} {t : Tr} (h : TreeAt w P G t) : P < w.heap.size := by
 obtain ⟨c, _, _, h3⟩ := h.head; exact (Array.getElem?_eq_some_iff.1 h3).1
theorem TreeAt.ltG {w : World} {P G : Nat} {t : Tr} (h : TreeAt w P G t) : G < w.heap.size := by
 obtain ⟨c, h3, _⟩ := h.nodes; exact (Array.getElem?_eq_some_iff.1 h3).1
theorem TreeAt.frozenG {w : World} {P G : Nat} {t : Tr} (h : TreeAt w P G t) (j : Nat) : w.frozen? ⟨G, j, none⟩ = false := by
 obtain ⟨c, h3, _⟩ := h.nodes; simp [World.frozen?, h3]
theorem alloc_cell {w : World} {p : Addr} {v : Value} (hp : p.block < w.heap.size) (hc : w.cell? p = some v) (o : Obj) : (w.alloc o).cell? p = some v := (World.cell?_alloc_lt w o p hp).trans hc
theorem alloc_frozen {w : World} {p : Addr} {b : Bool} (hp : p.block < w.heap.size) (hc : w.frozen? p = b) (o : Obj) : (w.alloc o).frozen? p = b :=
 (World.frozen?_of_block (Below.heap_alloc w o p.block hp)).trans hc
theorem EntsAt.kept {w w' : World} {v : Value} {l : List Ent} {G : Nat} {cs : Array Value} (h : EntsAt w v l) (hG : w.heap[G]? = some (.cells cs 105 (0, 0))) (hg : w.grownBy w' (some G)) : EntsAt w' v l := by
 refine World.ownsRow.kept h hg ?_
 rcases h.2 with ⟨rfl, _⟩ | ⟨g, cap, cur, rfl, _, hh, _⟩
 · exact .inl rfl
 · refine .inr fun e => ?_
   have : g = G := by simpa [Value.ownBlock] using e
   subst this
   rw [hG] at hh
   injection hh with hh
   injection hh with _ ht
   exact absurd ht (by decide)
theorem EntsAt.below {w w' : World} {v : Value} {l : List Ent} (h : EntsAt w v l) (hb : Below w.heap.size w w') : EntsAt w' v l :=
 World.ownsRow.kept h (row := none) ⟨hb.os, hb.tape, hb.output, hb.size, fun i hi _ => hb.block i hi⟩ (by
  rcases h.2 with ⟨rfl, _⟩ | ⟨g, cap, cur, rfl, _⟩
  · exact .inl rfl
  · exact .inr (by simp [Value.ownBlock]))
theorem TreeAt.ne {w : World} {P G : Nat} {t : Tr} (h : TreeAt w P G t) : P ≠ G := by
 rintro rfl
 obtain ⟨c, _, _, h3⟩ := h.head
 obtain ⟨cs, h4, _⟩ := h.nodes
 rw [h3] at h4
 injection h4 with h4
 injection h4 with _ ht
 exact absurd ht (by decide)
theorem TreeAt.below {w w' : World} {P G : Nat} {t : Tr} (h : TreeAt w P G t) (hb : Below w.heap.size w w') : TreeAt w' P G t := by
 obtain ⟨c, a1, a2, a3⟩ := h.head
 obtain ⟨cs, b1, b2, b3⟩ := h.nodes
 exact ⟨⟨c, a1, a2, (hb.block P h.ltP).trans a3⟩, ⟨cs, (hb.block G h.ltG).trans b1, b2, fun k x hk => by
  obtain ⟨c0, ⟨v, c1, hv⟩, c2, c3⟩ := b3 k x hk
  exact ⟨c0, ⟨v, c1, hv.below hb⟩, c2, c3⟩⟩, h.small⟩
theorem TreeAt.drew {w : World} {P G : Nat} {t : Tr} (h : TreeAt w P G t) : TreeAt w.drew P G t := h.below ⟨rfl, rfl, rfl, Nat.le_refl _, fun _ _ => rfl⟩
theorem TreeAt.alloc {w : World} {P G : Nat} {t : Tr} (h : TreeAt w P G t) (o : Obj) : TreeAt (w.alloc o) P G t := h.below ((Below.refl _ _).alloc (Nat.le_refl _) _)
theorem grown_set (w : World) (G j : Nat) (v : Value) : w.grownBy (w.setCell ⟨G, j, none⟩ v) (some G) :=
 ⟨rfl, rfl, rfl, by simp [World.setCell], fun i _ hne => Below.heap_setCell w ⟨G, j, none⟩ v i (fun e => hne (by rw [e]))⟩
theorem heap_set (w : World) (G j : Nat) (v : Value) (cs : Array Value) (t : TypeId) (h : w.heap[G]? = some (.cells cs t (0, 0))) : (w.setCell ⟨G, j, none⟩ v).heap[G]? = some (.cells (cs.setIfInBounds j v) t (0, 0)) := by
 simp [World.setCell, Array.getElem?_modify, h]
theorem grown_trans {a b c : World} {r : Option Nat} (h : a.grownBy b r) (k : b.grownBy c r) : a.grownBy c r :=
 ⟨k.os.trans h.os, k.tape.trans h.tape, k.output.trans h.output, Nat.le_trans h.size k.size, fun i hi hne => (k.block i (Nat.lt_of_lt_of_le hi h.size) hne).trans (h.block i hi hne)⟩
theorem grown_of_below {a b : World} {r : Option Nat} (h : Below a.heap.size a b) : a.grownBy b r := ⟨h.os, h.tape, h.output, h.size, fun i hi _ => h.block i hi⟩
theorem grown_drew' {a b : World} {r : Option Nat} (h : a.grownBy b r) : a.grownBy b.drew r := ⟨h.os, h.tape, h.output, h.size, h.block⟩
def putW (w : World) (G k : Nat) (x : Nd) (v : Value) : World :=
 (((w.setCell ⟨G, k * 4, none⟩ (.int .u8 x.kind)).setCell ⟨G, k * 4 + 1, none⟩ v).setCell ⟨G, k * 4 + 2, none⟩ (.string x.data)).setCell ⟨G, k * 4 + 3, none⟩ (.int .i64 x.held)
theorem putW_grown (w : World) (G k : Nat) (x : Nd) (v : Value) : w.grownBy (putW w G k x v) (some G) :=
 grown_trans (grown_trans (grown_trans (grown_set _ _ _ _) (grown_set _ _ _ _)) (grown_set _ _ _ _)) (grown_set _ _ _ _)
theorem TreeAt.put {w : World} {P G : Nat} {t : Tr} (h : TreeAt w P G t) {k : Nat} (hk : k < t.length) (x : Nd) (v : Value) (hv : EntsAt w v x.l) : TreeAt (putW w G k x v) P G (t.set k x) := by
 obtain ⟨c, a1, a2, a3⟩ := h.head
 obtain ⟨cs, b1, b2, b3⟩ := h.nodes
 have hg := putW_grown w G k x v
 refine ⟨⟨c, by simpa using a1, a2, ?_⟩, ⟨(((cs.setIfInBounds (k * 4) (.int .u8 x.kind)).setIfInBounds (k * 4 + 1) v).setIfInBounds (k * 4 + 2) (.string x.data)).setIfInBounds (k * 4 + 3) (.int .i64 x.held), ?_, by simpa using b2, fun j y hj => ?_⟩, by simpa using h.small⟩
 · rw [List.length_set]; exact (hg.block P h.ltP (fun e => h.ne (by injection e))).trans a3
 · exact heap_set _ _ _ _ _ _ (heap_set _ _ _ _ _ _ (heap_set _ _ _ _ _ _ (heap_set _ _ _ _ _ _ b1)))
 · have hsz : k * 4 + 3 < cs.size := by omega
   have hjl : j < t.length := by have := (List.getElem?_eq_some_iff.1 hj).1; simpa using this
   by_cases hjk : j = k
   · subst hjk
     rw [List.getElem?_set_self hk] at hj
     cases hj
     refine ⟨?_, ⟨v, ?_, hv.kept b1 hg⟩, ?_, ?_⟩
     · simp [Array.getElem?_setIfInBounds]; omega
     · simp [Array.getElem?_setIfInBounds]; omega
     · simp [Array.getElem?_setIfInBounds]; omega
     · simp [Array.getElem?_setIfInBounds]; omega
   · rw [List.getElem?_set_ne (fun e => hjk e.symm)] at hj
     obtain ⟨c0, ⟨u, c1, hu⟩, c2, c3⟩ := b3 j y hj
     have far : ∀ i, i < 4 → ((((cs.setIfInBounds (k * 4) (.int .u8 x.kind)).setIfInBounds (k * 4 + 1) v).setIfInBounds (k * 4 + 2) (.string x.data)).setIfInBounds (k * 4 + 3) (.int .i64 x.held))[j * 4 + i]? = cs[j * 4 + i]? := fun i hi => by
      rw [Array.getElem?_setIfInBounds_ne (by omega), Array.getElem?_setIfInBounds_ne (by omega), Array.getElem?_setIfInBounds_ne (by omega), Array.getElem?_setIfInBounds_ne (by omega)]
     exact ⟨(far 0 (by omega)).trans c0, ⟨u, (far 1 (by omega)).trans c1, hu.kept b1 hg⟩, (far 2 (by omega)).trans c2, (far 3 (by omega)).trans c3⟩
set_option maxRecDepth 100000 in
set_option maxHeartbeats 2000000 in
theorem t_set (P G : Nat) (t : Tr) (ino : Int) (A : Option Addr) (n c' : Nat) (l : List Ent) (w : World) (h : TreeAt w P G t) (hv : EntsAt w (.slice A n c') l) (h1 : 1 ≤ ino) (h2 : ino ≤ t.length) :
  Calls Tryz.prog 165 #[.pointer (some ⟨P, 0, none⟩), .int .u32 ino, .slice A n c'] w fun e w' => e = .returned (.tuple #[]) ∧ TreeAt w' P G (setNd t ino { ndAt t ino with l := l }) ∧ w.grownBy w' (some G) := by
 have hs := h.small
 obtain ⟨c, hc1, hc2, hc⟩ := h.cell0
 obtain ⟨g0, ⟨v, g1, hv1⟩, g2, g3⟩ := h.get (h.idx h1 h2)
 obtain ⟨A1, c1, rfl, hcl, hcm, hread⟩ := hv1.get
 unfold maxLen at hc2
 have qc := fun o => alloc_cell h.ltP hc o
 have q0 := fun o => alloc_cell h.ltG g0 o
 have q1 := fun o => alloc_cell h.ltG g1 o
 have q2 := fun o => alloc_cell h.ltG g2 o
 have q3 := fun o => alloc_cell h.ltG g3 o
 have f0 := fun o => alloc_frozen h.ltG (h.frozenG ((ino.toNat - 1) * 4)) o
 have f1 := fun o => alloc_frozen h.ltG (h.frozenG ((ino.toNat - 1) * 4 + 1)) o
 have f2 := fun o => alloc_frozen h.ltG (h.frozenG ((ino.toNat - 1) * 4 + 2)) o
 have f3 := fun o => alloc_frozen h.ltG (h.frozenG ((ino.toNat - 1) * 4 + 3)) o
 clear hread hv1
 go_enter Tryz.func165, Tryz.ntmps165
 go_wp2
 go_region
 go_end0
 refine ⟨rfl, ?_, ?_⟩
 · exact ((h.alloc _).put (h.idx h1 h2) { ndAt t ino with l := l } _ (hv.below ((Below.refl _ _).alloc (Nat.le_refl _) _))).drew
 · exact grown_drew' (grown_trans (grown_of_below ((Below.refl _ _).alloc (Nat.le_refl _) _)) (putW_grown _ G _ { ndAt t ino with l := l } _))
theorem put_done {w : World} {P G : Nat} {t : Tr} {ino : Int} (h : TreeAt w P G t) (h1 : 1 ≤ ino) (h2 : ino ≤ t.length) (o : Obj) (x : Nd) (v : Value) (hv : EntsAt w v x.l) :
  TreeAt (putW (w.alloc o) G (ino.toNat - 1) x v).drew P G (setNd t ino x) ∧ w.grownBy (putW (w.alloc o) G (ino.toNat - 1) x v).drew (some G) :=
 ⟨((h.alloc _).put (h.idx h1 h2) x _ (hv.below ((Below.refl _ _).alloc (Nat.le_refl _) _))).drew,
  grown_drew' (grown_trans (grown_of_below ((Below.refl _ _).alloc (Nat.le_refl _) _)) (putW_grown _ G _ x _))⟩
set_option maxRecDepth 100000 in
set_option maxHeartbeats 2000000 in
theorem t_put (P G : Nat) (t : Tr) (ino : Int) (s : ByteArray) (w : World) (h : TreeAt w P G t) (h1 : 1 ≤ ino) (h2 : ino ≤ t.length) :
  Calls Tryz.prog 122 #[.pointer (some ⟨P, 0, none⟩), .int .u32 ino, .string s] w fun e w' => e = .returned (.tuple #[]) ∧ TreeAt w' P G (setNd t ino { ndAt t ino with data := s }) ∧ w.grownBy w' (some G) := by
 have hs := h.small
 obtain ⟨c, hc1, hc2, hc⟩ := h.cell0
 obtain ⟨g0, ⟨v, g1, hv1⟩, g2, g3⟩ := h.get (h.idx h1 h2)
 obtain ⟨A1, c1, rfl, hcl, hcm, hread⟩ := hv1.get
 have HV := Lib.hid hv1
 unfold maxLen at hc2
 have qc := fun o => alloc_cell h.ltP hc o
 have q0 := fun o => alloc_cell h.ltG g0 o
 have q1 := fun o => alloc_cell h.ltG g1 o
 have q2 := fun o => alloc_cell h.ltG g2 o
 have q3 := fun o => alloc_cell h.ltG g3 o
 have f0 := fun o => alloc_frozen h.ltG (h.frozenG ((ino.toNat - 1) * 4)) o
 have f1 := fun o => alloc_frozen h.ltG (h.frozenG ((ino.toNat - 1) * 4 + 1)) o
 have f2 := fun o => alloc_frozen h.ltG (h.frozenG ((ino.toNat - 1) * 4 + 2)) o
 have f3 := fun o => alloc_frozen h.ltG (h.frozenG ((ino.toNat - 1) * 4 + 3)) o
 clear hread hv1
 go_enter Tryz.func122, Tryz.ntmps122
 go_wp2
 go_region
 go_end0
 exact ⟨rfl, put_done h h1 h2 _ { ndAt t ino with data := s } _ HV.out⟩
set_option maxRecDepth 100000 in
set_option maxHeartbeats 2000000 in
theorem t_hold_ok (P G : Nat) (t : Tr) (ino : Int) (w : World) (h : TreeAt w P G t) (h0 : 0 ≤ ino) (hf : fileE t ino = 0) (hh : 0 ≤ (ndAt t ino).held ∧ (ndAt t ino).held ≤ 1000000) :
  Calls Tryz.prog 60 #[.pointer (some ⟨P, 0, none⟩), .int .u32 ino] w fun e w' => e = .returned (.int .i64 0) ∧ TreeAt w' P G (setNd t ino { ndAt t ino with held := (ndAt t ino).held + 1 }) ∧ w.grownBy w' (some G) := by
 obtain ⟨h1, h2, _⟩ := thereB_bounds (fileE_zero hf).1
 have HF := Lib.hid hf
 clear hf
 have hs := h.small
 obtain ⟨c, hc1, hc2, hc⟩ := h.cell0
 obtain ⟨g0, ⟨v, g1, hv1⟩, g2, g3⟩ := h.get (h.idx h1 h2)
 obtain ⟨A1, c1, rfl, hcl, hcm, hread⟩ := hv1.get
 have HV := Lib.hid hv1
 unfold maxLen at hc2
 have qc := fun o => alloc_cell h.ltP hc o
 have q0 := fun o => alloc_cell h.ltG g0 o
 have q1 := fun o => alloc_cell h.ltG g1 o
 have q2 := fun o => alloc_cell h.ltG g2 o
 have q3 := fun o => alloc_cell h.ltG g3 o
 have f0 := fun o => alloc_frozen h.ltG (h.frozenG ((ino.toNat - 1) * 4)) o
 have f1 := fun o => alloc_frozen h.ltG (h.frozenG ((ino.toNat - 1) * 4 + 1)) o
 have f2 := fun o => alloc_frozen h.ltG (h.frozenG ((ino.toNat - 1) * 4 + 2)) o
 have f3 := fun o => alloc_frozen h.ltG (h.frozenG ((ino.toNat - 1) * 4 + 3)) o
 have hh' : 0 ≤ (nd t (ino.toNat - 1)).held ∧ (nd t (ino.toNat - 1)).held ≤ 1000000 := hh
 clear hread hv1 hh
 go_enter Tryz.func60, Tryz.ntmps60
 go_wp2_with (first | (go_at_call 115; refine (t_file P G t ino _ HF.out _ h h0).mono ?_; rintro e w' ⟨rfl, rfl⟩))
 go_region
 go_wp2
 go_ret
 exact ⟨rfl, put_done h h1 h2 _ { ndAt t ino with held := (ndAt t ino).held + 1 } _ HV.out⟩
def freeT (t : Tr) (ino : Int) : Tr := if ino ≠ 1 ∧ namedB t ino = false ∧ (ndAt t ino).held = 0 then setNd t ino noNd else t
set_option maxRecDepth 100000 in
set_option maxHeartbeats 4000000 in
theorem t_free (P G : Nat) (t : Tr) (ino : Int) (w : World) (h : TreeAt w P G t) (h1 : 1 ≤ ino) (h2 : ino ≤ t.length) :
  Calls Tryz.prog 124 #[.pointer (some ⟨P, 0, none⟩), .int .u32 ino] w fun e w' => e = .returned (.tuple #[]) ∧ TreeAt w' P G (freeT t ino) ∧ w.grownBy w' (some G) := by
 have hs := h.small
 obtain ⟨c, hc1, hc2, hc⟩ := h.cell0
 obtain ⟨g0, ⟨v, g1, hv1⟩, g2, g3⟩ := h.get (h.idx h1 h2)
 obtain ⟨A1, c1, rfl, hcl, hcm, hread⟩ := hv1.get
 have hd : ndAt t ino = nd t (ino.toNat - 1) := rfl
 unfold maxLen at hc2
 cases hi : (ino != 1) with
 | false =>
  have HF : Hid (freeT t ino = t) := by show _ = _; unfold freeT; rw [if_neg (fun hh => hh.1 (by simpa using hi))]
  clear hread hv1 hd
  go_enter Tryz.func124, Tryz.ntmps124
  go_wp2_with fail
  go_end0
  exact ⟨rfl, by rw [HF.out]; exact h, grown_of_below (Below.refl _ _)⟩
 | true =>
  cases hn : namedB t ino with
  | true =>
   have HF : Hid (freeT t ino = t) := by show _ = _; unfold freeT; rw [if_neg (fun hh => by rw [hn] at hh; cases hh.2.1)]
   have HN := Lib.hid hn
   clear hread hv1 hn hd
   go_enter Tryz.func124, Tryz.ntmps124
   go_wp2_with (first | (go_at_call 168; refine (t_named P G t ino _ HN.out _ h).mono ?_; rintro e w' ⟨rfl, rfl⟩))
   go_end0
   exact ⟨rfl, by rw [HF.out]; exact h, grown_of_below (Below.refl _ _)⟩
  | false =>
   cases hh : ((nd t (ino.toNat - 1)).held == 0) with
   | false =>
    have HF : Hid (freeT t ino = t) := by show _ = _; unfold freeT; rw [if_neg (fun q => by rw [hd] at q; simp [q.2.2] at hh)]
    have HN := Lib.hid hn
    clear hread hv1 hn hd
    go_enter Tryz.func124, Tryz.ntmps124
    go_wp2_with (first | (go_at_call 168; refine (t_named P G t ino _ HN.out _ h).mono ?_; rintro e w' ⟨rfl, rfl⟩))
    go_end0
    exact ⟨rfl, by rw [HF.out]; exact h, grown_of_below (Below.refl _ _)⟩
   | true =>
    have HF : Hid (freeT t ino = setNd t ino noNd) := by show _ = _; unfold freeT; rw [if_pos ⟨by simpa using hi, hn, by rw [hd]; simpa using hh⟩]
    have HN := Lib.hid hn
    have f0 := h.frozenG ((ino.toNat - 1) * 4)
    have f1 := h.frozenG ((ino.toNat - 1) * 4 + 1)
    have f2 := h.frozenG ((ino.toNat - 1) * 4 + 2)
    have f3 := h.frozenG ((ino.toNat - 1) * 4 + 3)
    clear hread hv1 hn hd
    go_enter Tryz.func124, Tryz.ntmps124
    go_wp2_with (first | (go_at_call 168; refine (t_named P G t ino _ HN.out _ h).mono ?_; rintro e w' ⟨rfl, rfl⟩))
    go_end0
    refine ⟨rfl, ?_, ?_⟩
    · rw [HF.out]
      exact h.put (h.idx h1 h2) noNd (.slice none 0 0) (World.ownsRow_nil _ _ _ _)
    · exact putW_grown w G _ noNd (.slice none 0 0)
end Go.Proofs.YtogljgiefmfafaaGreat.D
namespace Go.Proofs.YtogljgiefmfafaaGreat.D
open Go.RowKit
theorem row_base0' {w : World} {base n size : Nat} {e : TypeId} {v : Value} {xs : List Value} (h : w.ownsRow base e size v n xs) : w.ownsRow 0 e size v n xs := by
 rcases h.2 with ⟨rfl, h0⟩ | ⟨g, cap, cur, rfl, _, hh⟩
 · exact ⟨h.1, .inl ⟨rfl, h0⟩⟩
 · exact ⟨h.1, .inr ⟨g, cap, cur, rfl, Nat.zero_le _, hh⟩⟩
def EReads (w : World) (A : Option Addr) (m : Nat) (es : List Ent) : Prop :=
 es.length = m ∧ (0 < m → ∃ b o, A = some ⟨b, o, none⟩ ∧ ∀ j u, (entCells es)[j]? = some u → w.cell? ⟨b, o + j, none⟩ = some u)
theorem EReads.cells {w : World} {A : Option Addr} {m : Nat} {es : List Ent} (h : EReads w A m es) (ad : Addr) (hA : A = some ad) : ∀ j u, (entCells es)[j]? = some u → w.cell? (ad.add j) = some u := by
 intro j u hu
 rcases Nat.eq_zero_or_pos m with h0 | h0
 · have hn : es = [] := List.eq_nil_of_length_eq_zero (by rw [h.1, h0])
   subst hn
   simp [entCells] at hu
 · obtain ⟨b, o, h, hc⟩ := h.2 h0
   rw [hA] at h
   injection h with h
   subst h
   have := hc j u hu
   unfold Addr.add; split
   · rename_i h0; subst h0; exact this
   · exact this
theorem EntsAt.reads {w : World} {A : Option Addr} {n c : Nat} {l : List Ent} (h : EntsAt w (.slice A n c) l) : n = l.length ∧ EReads w A l.length l := by
 rcases h.2 with ⟨hv, h0⟩ | ⟨g, cap, cur, hv, _, hg, hc1, hc2, hc3, hc4⟩
 · injection hv with e1 e2 e3
   exact ⟨by omega, rfl, fun hp => absurd hp (by omega)⟩
 · injection hv with e1 e2 e3
   subst e1 e2 e3
   refine ⟨rfl, rfl, fun _ => ⟨g, 0, rfl, fun j u hj => ?_⟩⟩
   rw [← hc4] at hj
   have hl : j < l.length * 2 := by
    by_cases hh : j < l.length * 2
    · exact hh
    · rw [List.getElem?_eq_none (by rw [List.length_take]; omega)] at hj; cases hj
   rw [List.getElem?_take_of_lt hl] at hj
   simp only [World.cell?, hg, Nat.zero_add]
   rw [← hj]; simp
theorem EntsAt.form {w : World} {A : Option Addr} {n c : Nat} {l : List Ent} (h : EntsAt w (.slice A n c) l) : (A = none ∧ c = 0) ∨ ∃ b, A = some ⟨b, 0, none⟩ := by
 rcases h.2 with ⟨hv, h0⟩ | ⟨g, cap, cur, hv, _⟩
 · injection hv with e1 e2 e3; exact .inl ⟨e1, e3⟩
 · injection hv with e1 e2 e3; exact .inr ⟨g, e1⟩
theorem EReads.below {w w' : World} {A : Option Addr} {m : Nat} {es : List Ent} (h : EReads w A m es) (hb : Below w.heap.size w w') : EReads w' A m es :=
 ⟨h.1, fun h0 => by
  obtain ⟨b, o, hA, hc⟩ := h.2 h0
  exact ⟨b, o, hA, fun j u hj => by
   have := hc j u hj
   exact (World.cell?_of_block (hb.block b (World.block_lt_of_cell? w _ this))).trans this⟩⟩
theorem entCells_take (l : List Ent) (k : Nat) : entCells (l.take k) = (entCells l).take (k * 2) := by
 induction l generalizing k with
 | nil => simp [entCells]
 | cons x l ih =>
  cases k with
  | zero => simp [entCells]
  | succ k =>
   unfold entCells at *
   rw [List.take_succ_cons, List.flatMap_cons, List.flatMap_cons, ih, show (k + 1) * 2 = x.cells.length + k * 2 by simp [Ent.cells]; omega, List.take_length_add_append]
theorem entCells_drop (l : List Ent) (k : Nat) : entCells (l.drop k) = (entCells l).drop (k * 2) := by
 induction l generalizing k with
 | nil => simp [entCells]
 | cons x l ih =>
  cases k with
  | zero => simp [entCells]
  | succ k =>
   unfold entCells at *
   rw [List.drop_succ_cons, List.flatMap_cons, ih, show (k + 1) * 2 = x.cells.length + k * 2 by simp [Ent.cells]; omega, List.drop_length_add_append]
theorem EReads.take {w : World} {A : Option Addr} {m : Nat} {es : List Ent} (h : EReads w A m es) (k : Nat) (hk : k ≤ m) : EReads w A k (es.take k) :=
 ⟨by rw [List.length_take, h.1]; omega, fun h0 => by
  obtain ⟨b, o, hA, hc⟩ := h.2 (by omega)
  refine ⟨b, o, hA, fun j u hj => hc j u ?_⟩
  rw [entCells_take] at hj
  have hl : j < k * 2 := by
   by_cases hh : j < k * 2
   · exact hh
   · rw [List.getElem?_eq_none (by rw [List.length_take]; omega)] at hj; cases hj
  rwa [List.getElem?_take_of_lt hl] at hj⟩
theorem EReads.drop {w : World} {A : Option Addr} {m : Nat} {es : List Ent} (h : EReads w A m es) (k : Nat) (hk : k ≤ m) : EReads w (A.map (·.add (k * 2))) (m - k) (es.drop k) :=
 ⟨by rw [List.length_drop, h.1], fun h0 => by
  obtain ⟨b, o, hA, hc⟩ := h.2 (by omega)
  subst hA
  refine ⟨b, o + k * 2, ?_, fun j u hj => ?_⟩
  · simp only [Option.map_some, Addr.add]
    split
    · rename_i h; rw [h, Nat.add_zero]
    · rfl
  · rw [entCells_drop, List.getElem?_drop] at hj
    have := hc _ u hj
    rwa [show o + (k * 2 + j) = o + k * 2 + j by omega] at this⟩
theorem EReads.drop0 {w : World} {b : Nat} {m : Nat} {es : List Ent} (h : EReads w (some ⟨b, 0, none⟩) m es) (k : Nat) (hk : k ≤ m) : EReads w (some ⟨b, k * 2, none⟩) (m - k) (es.drop k) := by
 have := h.drop k hk
 have e : (some (⟨b, 0, none⟩ : Addr)).map (·.add (k * 2)) = some ⟨b, k * 2, none⟩ := by
  simp only [Option.map_some, Addr.add]
  split
  · rename_i h; rw [h]
  · simp
 rwa [e] at this
theorem EReads.nil (w : World) (A : Option Addr) (m : Nat) (es : List Ent) (hm : m = 0) (he : es = []) : EReads w A m es := ⟨by rw [he, hm]; rfl, fun h => absurd h (by omega)⟩
theorem EntsAt.of_own {w : World} {base k : Nat} {v : Value} {l : List Ent} (h : w.ownsRow base 149 2 v k (entCells l)) (hk : l.length = k) : EntsAt w v l := by
 unfold EntsAt; rw [hk]; exact row_base0' h
theorem EReads.one (w : World) (e : Ent) : EReads (w.alloc (.cells #[.string e.name, .int .u32 e.ino] 149)) (some ⟨w.heap.size, 0, none⟩) 1 [e] :=
 ⟨rfl, fun _ => ⟨w.heap.size, 0, rfl, fun j u hj => by
  match j, hj with
  | 0, hj => simp [entCells, Ent.cells] at hj; subst hj; simp [go_sem]
  | 1, hj => simp [entCells, Ent.cells] at hj; subst hj; simp [go_sem]
  | j + 2, hj => simp [entCells, Ent.cells] at hj⟩⟩
theorem infoE : ∃ i, Tryz.prog.info? 149 = some i ∧ i.zero = some (.agg #[.string ByteArray.empty, .int .u32 0]) ∧ i.size = 2 ∧ i.bytes = 24 := info_parts (by kernel_rfl)
theorem run_append_none_e (base ty : Nat) (w : World) (v : Value) (n : Nat) (xs : List Value) (hown : w.ownsRow base 149 2 v n xs) (c : Nat) : (Builtin.append_ #[65, 65] ty #[v, .slice none 0 c]).run Tryz.prog w = .ok v w := by
 obtain ⟨i0, hi, hz0, hz1, hz2⟩ := infoE
 rcases hown.2 with ⟨rfl, rfl⟩ | ⟨g, cap, cur, rfl, _, _, hnc, _⟩
 · simp [Builtin.append_, run_underlying Tryz.underlying65, sizeOf, typeInfo, hi, Builtin.lenOf, Builtin.firstCells]
 · simp [Builtin.append_, run_underlying Tryz.underlying65, sizeOf, typeInfo, hi, Builtin.lenOf, Builtin.firstCells, hnc, storeCells]
theorem entCells_one (rs : List Ent) : ∀ u ∈ entCells rs, u.oneCell' = true := by
 intro u hu
 unfold entCells at hu
 obtain ⟨r, _, hr⟩ := List.mem_flatMap.1 hu
 simp only [Ent.cells, List.mem_cons, List.not_mem_nil, or_false] at hr
 rcases hr with rfl | rfl <;> rfl
theorem row_slice {w : World} {base n size : Nat} {e : TypeId} {v : Value} {xs : List Value} (h : w.ownsRow base e size v n xs) : ∃ A c, v = .slice A n c := by
 rcases h.2 with ⟨rfl, rfl⟩ | ⟨g, cap, cur, rfl, _⟩
 · exact ⟨none, 0, rfl⟩
 · exact ⟨_, _, rfl⟩
theorem row_from {w : World} {base n size : Nat} {e : TypeId} {v : Value} {xs : List Value} (h : w.ownsRow base e size v n xs) : ∀ q, v.ownBlock = some q → base ≤ q := fun q hq => by
 rcases h.2 with ⟨rfl, _⟩ | ⟨g, cap, cur, rfl, hb, _⟩
 · simp [Value.ownBlock] at hq
 · simp [Value.ownBlock] at hq; omega
theorem run_append_ents (base ty : Nat) (w : World) (v : Value) (n : Nat) (xs : List Ent) (hown : w.ownsRow base 149 2 v n (entCells xs)) (A : Option Addr) (m c : Nat) (news : List Ent) (hr : EReads w A m news)
  (hnm : n + m ≤ 1000000) (hbase : base ≤ w.heap.size) :
  ∃ v' w', (Builtin.append_ #[65, 65] ty #[v, .slice A m c]).run Tryz.prog w = .ok v' w' ∧ w'.ownsRow base 149 2 v' (n + m) (entCells (xs ++ news)) ∧ w.grownBy w' v.ownBlock := by
 obtain ⟨i0, hi, hz0, hz1, hz2⟩ := infoE
 by_cases hA : A = none
 · subst hA
   have hm : m = 0 := by
    rcases Nat.eq_zero_or_pos m with h0 | h0
    · exact h0
    · obtain ⟨_, _, h, _⟩ := hr.2 h0; cases h
   subst hm
   have hn : news = [] := List.eq_nil_of_length_eq_zero hr.1
   subst hn
   exact ⟨v, w, run_append_none_e base ty w v n _ hown c, by simpa using hown, World.grownBy.refl w _⟩
 · obtain ⟨ad, rfl⟩ := Option.ne_none_iff_exists'.1 hA
   obtain ⟨v', w', hrun, h2, h3, _, _⟩ := run_append_own_at (P := Tryz.prog) w base 65 ty 149 i0 _ 2 24 Tryz.underlying65 hi hz0 hz1 hz2 rfl (by decide) v n (entCells xs) hown ad m c (entCells news)
    (by rw [entCells_length, hr.1]) (hr.cells ad rfl) (entCells_one _) (by unfold maxLen; omega) (by omega) hbase
   exact ⟨v', w', hrun, by rw [entCells_append]; exact h2, h3⟩
theorem wp_append_ents {o : Oper} {a : Act} {K : Act → World → Prop} {Q : Exit → Act → World → Prop} {w : World} (s x : Operand)
  (ho : o.op = .call { callee := .builtin .append, args := #[s, x], argTypes := #[65, 65] })
  (base : Nat) (v : Value) (n : Nat) (xs : List Ent) (hs : a.eval s = v) (hown : w.ownsRow base 149 2 v n (entCells xs))
  (A : Option Addr) (m c : Nat) (news : List Ent) (hx : a.eval x = .slice A m c) (hr : EReads w A m news) (k : Nat) (hk : n + m = k) (ys : List Ent) (hys : xs ++ news = ys) (hnm : k ≤ 1000000) (hbase : base ≤ w.heap.size)
  (h : ∀ A1 c1 w', w'.ownsRow base 149 2 (.slice A1 k c1) k (entCells ys) → Below base w w' → K (a.put o.dst (.slice A1 k c1)) w') : o.wp Tryz.prog a w K Q := by
 subst hk; subst hys
 obtain ⟨v', w', hrun, h2, h3⟩ := run_append_ents base o.type w v n xs hown A m c news hr hnm hbase
 unfold Oper.wp execOp
 simp only [ho, resolve, invoke, builtin, Sem.run_bind, Sem.run_pure, Result.andThen_ok, List.map_toArray, List.map_cons, List.map_nil, hs, hx, hrun]
 obtain ⟨A1, c1, rfl⟩ := row_slice h2
 exact h A1 c1 w' h2 ((Below.refl _ _).grown h3 hbase (fun q hq => row_from hown q hq))
theorem wpList_append_ents {ops : Array Oper} {rest : List Oper} {o : Oper} {a : Act} {Q : Exit → Act → World → Prop} {w : World} (hgd : o.guard = none) (s x : Operand)
  (ho : o.op = .call { callee := .builtin .append, args := #[s, x], argTypes := #[65, 65] })
  (base : Nat) (v : Value) (n : Nat) (xs : List Ent) (hs : a.eval s = v) (hown : w.ownsRow base 149 2 v n (entCells xs))
  (A : Option Addr) (m c : Nat) (news : List Ent) (hx : a.eval x = .slice A m c) (hr : EReads w A m news) (k : Nat) (hk : n + m = k) (ys : List Ent) (hys : xs ++ news = ys) (hnm : k ≤ 1000000) (hbase : base ≤ w.heap.size)
  (h : ∀ A1 c1 w', w'.ownsRow base 149 2 (.slice A1 k c1) k (entCells ys) → Below base w w' → wpList Tryz.prog ops Q rest (a.put o.dst (.slice A1 k c1)) w') :
  wpList Tryz.prog ops Q (o :: rest) a w :=
 wpList_plain hgd fun _ hK => wp_append_ents s x ho base v n xs hs hown A m c news hx hr k hk ys hys hnm hbase fun A1 c1 w' h2 h3 => hK _ _ (h A1 c1 w' h2 h3)
theorem step_append_ents {ops : Array Oper} {o : Oper} {a : Act} {K : Act → World → Prop} {Q : Exit → Act → World → Prop} {E : Prop} {w : World} (hgd : o.guard = none) (s x : Operand)
  (ho : o.op = .call { callee := .builtin .append, args := #[s, x], argTypes := #[65, 65] })
  (base : Nat) (v : Value) (n : Nat) (xs : List Ent) (hs : a.eval s = v) (hown : w.ownsRow base 149 2 v n (entCells xs))
  (A : Option Addr) (m c : Nat) (news : List Ent) (hx : a.eval x = .slice A m c) (hr : EReads w A m news) (k : Nat) (hk : n + m = k) (ys : List Ent) (hys : xs ++ news = ys) (hnm : k ≤ 1000000) (hbase : base ≤ w.heap.size)
  (h : ∀ A1 c1 w', w'.ownsRow base 149 2 (.slice A1 k c1) k (entCells ys) → Below base w w' → K (a.put o.dst (.slice A1 k c1)) w') :
  if Region.wanted o (yielded ops a.tmps) = true then Oper.wp Tryz.prog o a w K Q else E := by
 have hw : Region.wanted o (yielded ops a.tmps) = true := by simp [Region.wanted, hgd]
 rw [if_pos hw]
 exact wp_append_ents s x ho base v n xs hs hown A m c news hx hr k hk ys hys hnm hbase h
def ltN (a b : ByteArray) : Bool := Op.bytesLess a.toList b.toList
def addPos : List Ent → ByteArray → Nat
 | [], _ => 0
 | e :: l, s => if ltN e.name s then addPos l s + 1 else 0
def addL (l : List Ent) (e : Ent) : List Ent := l.take (addPos l e.name) ++ [e] ++ l.drop (addPos l e.name)
theorem addPos_le : ∀ (l : List Ent) (s : ByteArray), addPos l s ≤ l.length
 | [], _ => Nat.le_refl _
 | e :: l, s => by
  unfold addPos
  split
  · have := addPos_le l s; simp; omega
  · exact Nat.zero_le _
theorem addPos_lt : ∀ (l : List Ent) (s : ByteArray) (k : Nat) (e : Ent), k ≤ addPos l s → l[k]? = some e → (ltN e.name s = true ↔ k + 1 ≤ addPos l s)
 | [], _, _, _, _, h => by simp at h
 | x :: l, s, 0, e, _, h => by
  simp at h; subst h
  unfold addPos
  split
  · rename_i hh; simp [hh]
  · rename_i hh; simp [hh]
 | x :: l, s, k + 1, e, hk, h => by
  unfold addPos at hk ⊢
  split at hk
  · rename_i hh
    rw [if_pos hh]
    have := addPos_lt l s k e (by omega) (by simpa using h)
    rw [this]; omega
  · omega
set_option maxRecDepth 100000 in
set_option maxHeartbeats 4000000 in
theorem t_add (P G : Nat) (t : Tr) (ino : Int) (s : ByteArray) (x : Int) (w : World) (h : TreeAt w P G t) (h1 : 1 ≤ ino) (h2 : ino ≤ t.length) (hsm : Small t) :
  Calls Tryz.prog 114 #[.pointer (some ⟨P, 0, none⟩), .int .u32 ino, .string s, .int .u32 x] w fun e w' => e = .returned (.tuple #[]) ∧ TreeAt w' P G (setNd t ino { ndAt t ino with l := addL (ndAt t ino).l ⟨s, x⟩ }) ∧ w.grownBy w' (some G) := by
 have hs := h.small
 obtain ⟨c, hc1, hc2, hc⟩ := h.cell0
 obtain ⟨_, ⟨v, g1, hv1⟩, _⟩ := h.get (h.idx h1 h2)
 obtain ⟨A, c1, rfl, hcl, hcm, hread⟩ := hv1.get
 have hls := hsm.nd (h.idx h1 h2)
 have HE := Lib.hid hv1.reads.2
 have HFm := Lib.hid hv1.form
 obtain ⟨l, hl⟩ : ∃ l, (nd t (ino.toNat - 1)).l = l := ⟨_, rfl⟩
 have HL := Lib.hid hl
 rw [hl] at g1 hcl hread hls HE
 have HR := Lib.hid hread
 clear hread hl hv1
 unfold maxLen at hc2 hcm
 obtain ⟨p, hp⟩ : ∃ p, addPos l s = p := ⟨_, rfl⟩
 have hpl : p ≤ l.length := by rw [← hp]; exact addPos_le _ _
 have HP := Lib.hid hp
 clear hp
 go_enter Tryz.func114, Tryz.ntmps114
 go_wp2
 go_loop [9] (fun i => ∃ j : Nat, j ≤ p ∧ i = .int .i64 j) (fun i => p + 1 - (intOf i).toNat)
 case atStart => exact ⟨0, Nat.zero_le _, rfl⟩
 case round =>
  obtain ⟨j, hj, rfl⟩ := hrel
  by_cases hjp : j < p
  · obtain ⟨bb, rfl, e1, e2⟩ := HR.out j _ (List.getElem?_eq_getElem (by omega))
    have hlt : Op.bytesLess (l[j]'(by omega)).name.toList s.toList = true := (addPos_lt l s j _ (by rw [HP.out]; omega) (List.getElem?_eq_getElem (by omega))).2 (by rw [HP.out]; omega)
    have hjl : j < l.length := by omega
    go_wp2
    go_round
    case rel => exact ⟨j + 1, by omega, by go_num⟩
    case measure => simp [intOf]; omega
  · obtain rfl : j = p := by omega
    have Hfin : Hid (setNd t ino { ndAt t ino with l := l.take j ++ [⟨s, x⟩] ++ l.drop j } = setNd t ino { ndAt t ino with l := addL (ndAt t ino).l ⟨s, x⟩ }) := by
     show _ = _
     rw [show (ndAt t ino).l = l from HL.out]; unfold addL; rw [HP.out]
    by_cases hjl : j < l.length
    · obtain ⟨bb, rfl, e1, e2⟩ := HR.out j _ (List.getElem?_eq_getElem (by omega))
      have hlt : Op.bytesLess (l[j]'(by omega)).name.toList s.toList = false := by
       have := addPos_lt l s j _ (by rw [HP.out]; omega) (List.getElem?_eq_getElem hjl)
       rw [HP.out] at this
       cases hq : ltN l[j].name s with
       | false => exact hq
       | true => have := this.1 hq; omega
      go_wp2_with (first
       | (at_builtin; refine wpList_append_ents rfl (.const (.slice none 0 0)) (.tmp 37) rfl w.heap.size (.slice none 0 0) 0 [] rfl (World.ownsRow_nil _ _ _ _) _ j _ (l.take j) rfl (HE.out.take j hpl) j (by omega) (l.take j) rfl (by omega) (Nat.le_refl _) ?_; intro A1 c2 w1 hown1 hb1; have HO1 := Lib.hid hown1; have HB1 := Lib.hid hb1; clear hown1 hb1)
       | (at_builtin; refine wpList_append_ents rfl (.tmp 38) (.tmp 42) rfl w.heap.size (.slice A1 j c2) j (l.take j) rfl (HO1.out.alloc _) _ 1 _ [⟨s, x⟩] rfl (EReads.one w1 ⟨s, x⟩) (j + 1) rfl (l.take j ++ [⟨s, x⟩]) rfl (by omega) (by have := HB1.out.size; simp; omega) ?_; intro A2 c3 w2 hown2 hb2; have HO2 := Lib.hid hown2; have HB2 := Lib.hid ((HB1.out.alloc HB1.out.size _).trans hb2); clear hown2 hb2 HO1)
       | (at_builtin; refine wpList_append_ents rfl (.tmp 46) (.tmp 49) rfl w.heap.size (.slice A2 (j + 1) c3) (j + 1) (l.take j ++ [⟨s, x⟩]) rfl HO2.out _ (l.length - j) _ (l.drop j) rfl ((HE.out.below HB2.out).drop0 j hpl) (l.length + 1) (by omega) (l.take j ++ [⟨s, x⟩] ++ l.drop j) rfl (by omega) HB2.out.size ?_; intro A3 c4 w3 hown3 hb3; have HB3 := Lib.hid (HB2.out.trans hb3); have HV3 := Lib.hid (EntsAt.of_own hown3 (by simp; omega)); have HT3 := Lib.hid (h.below HB3.out); clear hown3 hb3 HO2 HB2)
       | (go_at_call 165; refine (t_set P G t ino A3 (l.length + 1) c4 _ w3 HT3.out HV3.out h1 h2).mono ?_; rintro e w4 ⟨rfl, ht4, hg4⟩; have HT4 := Lib.hid ht4; have HG4 := Lib.hid hg4; clear ht4 hg4))
      go_end0
      exact ⟨rfl, by rw [← Hfin.out]; exact HT4.out, grown_trans (grown_of_below HB3.out) HG4.out⟩
    · have hje : j = l.length := by omega
      have HJ := Lib.hid hje
      have hjl' : l.length ≤ j := by omega
      clear hje
      by_cases hcj : c1 = j
      · obtain rfl : j = c1 := hcj.symm
        go_wp2_with (first
         | (at_builtin; refine wpList_append_ents rfl (.const (.slice none 0 0)) (.tmp 37) rfl w.heap.size (.slice none 0 0) 0 [] rfl (World.ownsRow_nil _ _ _ _) _ j _ (l.take j) rfl (HE.out.take j hpl) j (by omega) (l.take j) rfl (by omega) (Nat.le_refl _) ?_; intro A1 c2 w1 hown1 hb1; have HO1 := Lib.hid hown1; have HB1 := Lib.hid hb1; clear hown1 hb1)
         | (at_builtin; refine wpList_append_ents rfl (.tmp 38) (.tmp 42) rfl w.heap.size (.slice A1 j c2) j (l.take j) rfl (HO1.out.alloc _) _ 1 _ [⟨s, x⟩] rfl (EReads.one w1 ⟨s, x⟩) (j + 1) rfl (l.take j ++ [⟨s, x⟩]) rfl (by omega) (by have := HB1.out.size; simp; omega) ?_; intro A2 c3 w2 hown2 hb2; have HO2 := Lib.hid hown2; have HB2 := Lib.hid ((HB1.out.alloc HB1.out.size _).trans hb2); clear hown2 hb2 HO1)
         | (at_builtin; refine wpList_append_ents rfl (.tmp 46) (.tmp 49) rfl w.heap.size (.slice A2 (j + 1) c3) (j + 1) (l.take j ++ [⟨s, x⟩]) rfl HO2.out _ _ _ (l.drop j) rfl (EReads.nil _ _ _ _ (by omega) (List.drop_eq_nil_of_le hjl')) (l.length + 1) (by omega) (l.take j ++ [⟨s, x⟩] ++ l.drop j) rfl (by omega) HB2.out.size ?_; intro A3 c4 w3 hown3 hb3; have HB3 := Lib.hid (HB2.out.trans hb3); have HV3 := Lib.hid (EntsAt.of_own hown3 (by simp; omega)); have HT3 := Lib.hid (h.below HB3.out); clear hown3 hb3 HO2 HB2)
         | (go_at_call 165; refine (t_set P G t ino A3 (l.length + 1) c4 _ w3 HT3.out HV3.out h1 h2).mono ?_; rintro e w4 ⟨rfl, ht4, hg4⟩; have HT4 := Lib.hid ht4; have HG4 := Lib.hid hg4; clear ht4 hg4))
        go_end0
        exact ⟨rfl, by rw [← Hfin.out]; exact HT4.out, grown_trans (grown_of_below HB3.out) HG4.out⟩
      · have hcj' : j < c1 := by omega
        obtain ⟨bb, rfl⟩ : ∃ b, A = some ⟨b, 0, none⟩ := HFm.out.elim (fun hh => absurd hh.2 (by omega)) id
        go_wp2_with (first
         | (at_builtin; refine wpList_append_ents rfl (.const (.slice none 0 0)) (.tmp 37) rfl w.heap.size (.slice none 0 0) 0 [] rfl (World.ownsRow_nil _ _ _ _) _ j _ (l.take j) rfl (HE.out.take j hpl) j (by omega) (l.take j) rfl (by omega) (Nat.le_refl _) ?_; intro A1 c2 w1 hown1 hb1; have HO1 := Lib.hid hown1; have HB1 := Lib.hid hb1; clear hown1 hb1)
         | (at_builtin; refine wpList_append_ents rfl (.tmp 38) (.tmp 42) rfl w.heap.size (.slice A1 j c2) j (l.take j) rfl (HO1.out.alloc _) _ 1 _ [⟨s, x⟩] rfl (EReads.one w1 ⟨s, x⟩) (j + 1) rfl (l.take j ++ [⟨s, x⟩]) rfl (by omega) (by have := HB1.out.size; simp; omega) ?_; intro A2 c3 w2 hown2 hb2; have HO2 := Lib.hid hown2; have HB2 := Lib.hid ((HB1.out.alloc HB1.out.size _).trans hb2); clear hown2 hb2 HO1)
         | (at_builtin; refine wpList_append_ents rfl (.tmp 46) (.tmp 49) rfl w.heap.size (.slice A2 (j + 1) c3) (j + 1) (l.take j ++ [⟨s, x⟩]) rfl HO2.out _ _ _ (l.drop j) rfl (EReads.nil _ _ _ _ (by omega) (List.drop_eq_nil_of_le hjl')) (l.length + 1) (by omega) (l.take j ++ [⟨s, x⟩] ++ l.drop j) rfl (by omega) HB2.out.size ?_; intro A3 c4 w3 hown3 hb3; have HB3 := Lib.hid (HB2.out.trans hb3); have HV3 := Lib.hid (EntsAt.of_own hown3 (by simp; omega)); have HT3 := Lib.hid (h.below HB3.out); clear hown3 hb3 HO2 HB2)
         | (go_at_call 165; refine (t_set P G t ino A3 (l.length + 1) c4 _ w3 HT3.out HV3.out h1 h2).mono ?_; rintro e w4 ⟨rfl, ht4, hg4⟩; have HT4 := Lib.hid ht4; have HG4 := Lib.hid hg4; clear ht4 hg4))
        go_end0
        exact ⟨rfl, by rw [← Hfin.out]; exact HT4.out, grown_trans (grown_of_below HB3.out) HG4.out⟩
end Go.Proofs.YtogljgiefmfafaaGreat.D
namespace Go.Proofs.YtogljgiefmfafaaGreat.D
open Go.RowKit
attribute [local go_sem ↓] Go.wp_at_zero Go.wp_at_succ
theorem below_of_drew {B : Nat} {w w' : World} (h : Below B w.drew w') : Below B w w' := ⟨h.os, h.tape, h.output, h.size, h.block⟩
def delAt (l : List Ent) (k : Nat) : List Ent := l.take k ++ l.drop (k + 1)
set_option maxRecDepth 100000 in
set_option maxHeartbeats 4000000 in
theorem t_del (P G : Nat) (t : Tr) (ino : Int) (s : ByteArray) (k : Nat) (hk : place (ndAt t ino).l s = some k) (w : World) (h : TreeAt w P G t) (h1 : 1 ≤ ino) (h2 : ino ≤ t.length) (hsm : Small t) :
  Calls Tryz.prog 166 #[.pointer (some ⟨P, 0, none⟩), .int .u32 ino, .string s] w fun e w' => e = .returned (.tuple #[]) ∧ TreeAt w' P G (setNd t ino { ndAt t ino with l := delAt (ndAt t ino).l k }) ∧ w.grownBy w' (some G) := by
 have hs := h.small
 obtain ⟨c, hc1, hc2, hc⟩ := h.cell0
 obtain ⟨_, ⟨v, g1, hv1⟩, _⟩ := h.get (h.idx h1 h2)
 obtain ⟨A, c1, rfl, hcl, hcm, hread⟩ := hv1.get
 have hls := hsm.nd (h.idx h1 h2)
 have HE := Lib.hid hv1.reads.2
 have HFm := Lib.hid hv1.form
 have HP : Hid (placeI (ndAt t ino).l s = (k : Nat)) := by show _ = _; unfold placeI; rw [hk]
 obtain ⟨x, hx, _⟩ := place_get hk
 have hkl := (List.getElem?_eq_some_iff.1 hx).1
 have hkl' : k < (nd t (ino.toNat - 1)).l.length := hkl
 clear hkl hx hk
 obtain ⟨l, hl⟩ : ∃ l, (nd t (ino.toNat - 1)).l = l := ⟨_, rfl⟩
 have HL := Lib.hid hl
 rw [hl] at g1 hcl hread hls HE hkl'
 have HR := Lib.hid hread
 clear hread hl hv1
 unfold maxLen at hc2 hcm
 have b0 : (0 : Int) ≤ (k : Int) := by omega
 have b1 : (k : Int) ≤ (c1 : Int) := by omega
 have b2 : (k : Int) + 1 ≤ (l.length : Int) := by omega
 have b3 : (0 : Int) ≤ (k : Int) + 1 := by omega
 have b5 : ((k : Int) + 1).toNat = k + 1 := by omega
 have b6 : (k : Int) ≤ (l.length : Int) := by omega
 have b4 : IntKind.i64.wrap ((k : Int) + 1) = (k : Int) + 1 := IntWalk.i64_in _ (by omega)
 have Hfin : Hid (setNd t ino { ndAt t ino with l := l.take k ++ l.drop (k + 1) } = setNd t ino { ndAt t ino with l := delAt (ndAt t ino).l k }) := by
  show _ = _
  rw [show (ndAt t ino).l = l from HL.out]; rfl
 by_cases hcj : c1 = k + 1
 · have e1 : (c1 : Int) ≤ (k : Int) + 1 := by omega
   have e2 : (k : Int) + 1 ≤ (c1 : Int) := by omega
   have e3 : c1 ≤ k + 1 := by omega
   have hle : l.length ≤ k + 1 := by omega
   clear hcj
   go_enter Tryz.func166, Tryz.ntmps166
   go_wp2_with (first | (go_at_call 112; refine (t_at P G t ino s _ HP.out _ h h1 h2).mono ?_; rintro e w' ⟨rfl, rfl⟩))
   go_region_held3 (fun _ => True) (trivial) (first
    | (refine step_append_ents (by rfl) (.const (.slice none 0 0)) (.tmp 25) (by rfl) w.heap.size (.slice none 0 0) 0 [] (by rfl) (World.ownsRow_nil _ _ _ _) _ k _ (l.take k) (by rfl) (HE.out.take k (by omega)) k (by omega) (l.take k) (by rfl) (by omega) (Nat.le_refl _) ?_; intro A1 c2 w1 hown1 hb1; have HO1 := Lib.hid hown1; have HB1 := Lib.hid (below_of_drew hb1); clear hown1 hb1)
    | (refine step_append_ents (by rfl) (.tmp 26) (.tmp 30) (by rfl) w.heap.size (.slice A1 k c2) k (l.take k) (by rfl) HO1.out _ _ _ (l.drop (k + 1)) (by rfl) (EReads.nil _ _ _ _ (by omega) (List.drop_eq_nil_of_le (by omega))) (l.length - 1) (by omega) (l.take k ++ l.drop (k + 1)) (by rfl) (by omega) HB1.out.size ?_; intro A3 c4 w3 hown3 hb3; have HB3 := Lib.hid (HB1.out.trans hb3); have HV3 := Lib.hid (EntsAt.of_own hown3 (by simp; omega)); have HT3 := Lib.hid (h.below HB3.out); clear hown3 hb3 HO1 HB1)
    | (go_at_call 165; refine (t_set P G t ino A3 (l.length - 1) c4 _ w3 HT3.out HV3.out h1 h2).mono ?_; rintro e w4 ⟨rfl, ht4, hg4⟩; have HT4 := Lib.hid ht4; have HG4 := Lib.hid hg4; clear ht4 hg4))
   go_end0
   exact ⟨rfl, by rw [← Hfin.out]; exact HT4.out, grown_trans (grown_of_below HB3.out) HG4.out⟩
 · have hcj' : k + 1 < c1 := by omega
   obtain ⟨bb, rfl⟩ : ∃ b, A = some ⟨b, 0, none⟩ := HFm.out.elim (fun hh => absurd hh.2 (by omega)) id
   go_enter Tryz.func166, Tryz.ntmps166
   go_wp2_with (first | (go_at_call 112; refine (t_at P G t ino s _ HP.out _ h h1 h2).mono ?_; rintro e w' ⟨rfl, rfl⟩))
   go_region_held3 (fun _ => True) (trivial) (first
    | (refine step_append_ents (by rfl) (.const (.slice none 0 0)) (.tmp 25) (by rfl) w.heap.size (.slice none 0 0) 0 [] (by rfl) (World.ownsRow_nil _ _ _ _) _ k _ (l.take k) (by rfl) (HE.out.take k (by omega)) k (by omega) (l.take k) (by rfl) (by omega) (Nat.le_refl _) ?_; intro A1 c2 w1 hown1 hb1; have HO1 := Lib.hid hown1; have HB1 := Lib.hid (below_of_drew hb1); clear hown1 hb1)
    | (refine step_append_ents (by rfl) (.tmp 26) (.tmp 30) (by rfl) w.heap.size (.slice A1 k c2) k (l.take k) (by rfl) HO1.out _ _ _ (l.drop (k + 1)) (by rfl) ((HE.out.below HB1.out).drop0 (k + 1) (by omega)) (l.length - 1) (by omega) (l.take k ++ l.drop (k + 1)) (by rfl) (by omega) HB1.out.size ?_; intro A3 c4 w3 hown3 hb3; have HB3 := Lib.hid (HB1.out.trans hb3); have HV3 := Lib.hid (EntsAt.of_own hown3 (by simp; omega)); have HT3 := Lib.hid (h.below HB3.out); clear hown3 hb3 HO1 HB1)
    | (go_at_call 165; refine (t_set P G t ino A3 (l.length - 1) c4 _ w3 HT3.out HV3.out h1 h2).mono ?_; rintro e w4 ⟨rfl, ht4, hg4⟩; have HT4 := Lib.hid ht4; have HG4 := Lib.hid hg4; clear ht4 hg4))
   go_end0
   exact ⟨rfl, by rw [← Hfin.out]; exact HT4.out, grown_trans (grown_of_below HB3.out) HG4.out⟩
end Go.Proofs.YtogljgiefmfafaaGreat.D
