/- Paths, plain. -/
import Derived.Test.YtpcnolkdnmolgaaGreatDoorPh00
import Derived.Test.YtpcnolkdnmolgaaGreatDoorPh02
import Derived.Test.YtpcnolkdnmolgaaGreatDoorPh05
import Derived.Test.YtpcnolkdnmolgaaGreatDoorPh07
import Derived.Test.YtpcnolkdnmolgaaGreatDoorPh09
import Derived.Test.YtpcnolkdnmolgaaGreatDoorPh11
import Derived.Test.YtpcnolkdnmolgaaGreatDoorPh12
namespace Go.Proofs.YtpcnolkdnmolgaaGreatDoor
section
open Go.RowKit Go.Maps
abbrev baL (l : List UInt8) : ByteArray := ⟨l.toArray⟩
def splitL : List UInt8 → List (List UInt8)
 | [] => [[]]
 | c :: r => if c = 47 then [] :: splitL r else match splitL r with
  | [] => [[c]]
  | h :: q => (c :: h) :: q
def pathL (l : List UInt8) : List (List UInt8) := if l = [47] then [] else splitL (l.drop 1)
def splitE (s : ByteArray) : List ByteArray × Int :=
 if 255 < s.size then ([], 5)
 else if s.data.toList.head? ≠ some 47 then ([], 7)
 else if ((pathL s.data.toList).any fun n => !pnameB (baL n)) = true then ([], 2)
 else if 8 < (pathL s.data.toList).length then ([], 5)
 else ((pathL s.data.toList).map baL, 0)
def parentE (s : ByteArray) : (List ByteArray × ByteArray) × Int :=
 if (splitE s).2 ≠ 0 then (([], ByteArray.empty), (splitE s).2)
 else if (splitE s).1 = [] then (([], ByteArray.empty), 2)
 else (((splitE s).1.dropLast, (splitE s).1.getLastD ByteArray.empty), 0)
structure Cx where
 act : Int
 path : ByteArray
 path2 : ByteArray
 fd : Int
 page : Int
 size : Int
 data : ByteArray
def hasB (act : Int) (j : Nat) : Bool :=
 match j with
 | 0 => decide (act = 1 ∨ act = 2 ∨ act = 6 ∨ act = 7 ∨ act = 8 ∨ act = 9 ∨ act = 10 ∨ act = 11 ∨ act = 12)
 | 1 => decide (act = 6 ∨ act = 8)
 | 2 => decide (act = 3 ∨ act = 4 ∨ act = 5 ∨ act = 13 ∨ act = 14)
 | 3 => decide (act = 3 ∨ act = 4)
 | 4 => decide (act = 5)
 | 5 => decide (act = 4)
 | 6 => decide (act = 2 ∨ act = 7 ∨ act = 8 ∨ act = 9 ∨ act = 10)
 | _ => decide (act = 6 ∨ act = 8)
def pathE (b : Bool) (s : ByteArray) : Int := if b = true then (splitE s).2 else 0
def checkC (x : Cx) : Int :=
 if x.act < 1 ∨ 15 < x.act then 2
 else if (hasB x.act 0 || x.path.size == 0) && (hasB x.act 1 || x.path2.size == 0) && (hasB x.act 2 || x.fd == 0) && (hasB x.act 3 || x.page == 0) && (hasB x.act 4 || x.size == 0) && (hasB x.act 5 || x.data.size == 0) then
  if pathE (hasB x.act 0) x.path ≠ 0 then pathE (hasB x.act 0) x.path
  else if pathE (hasB x.act 1) x.path2 ≠ 0 then pathE (hasB x.act 1) x.path2
  else if (hasB x.act 0 && hasB x.act 6 && ((splitE x.path).1.length == 0)) || (hasB x.act 1 && hasB x.act 7 && ((splitE x.path2).1.length == 0)) || decide (x.fd < 0 ∨ 15 < x.fd ∨ x.page < 0 ∨ 36 ≤ x.page ∨ 64 < x.data.size ∨ 2304 < x.size) || (hasB x.act 5 && x.data.size == 0) then 2
  else 0
 else 2
def freeFd (T : Nat → Int) (c : Nat) : Option Nat := (List.range 16).find? fun k => decide (T (c * 16 + k) = 0)
end

section
open Go.RowKit Go.Maps
theorem splitL_cons (c : UInt8) (r : List UInt8) : splitL (c :: r) = if c = 47 then [] :: splitL r else match splitL r with | [] => [[c]] | h :: q => (c :: h) :: q := rfl
theorem indexByte_cons (b c : UInt8) (l : List UInt8) : Lib.indexByte (b :: l) c = if (b == c) = true then 0 else if (Lib.indexByte l c == -1) = true then -1 else Lib.indexByte l c + 1 := rfl
theorem splitL_cut : ∀ l : List UInt8, splitL l = if Lib.indexByte l 47 = -1 then [l] else l.take (Lib.indexByte l 47).toNat :: splitL (l.drop ((Lib.indexByte l 47).toNat + 1))
 | [] => rfl
 | b :: l => by
  have ih := splitL_cut l
  by_cases c : b = 47
  · have e : Lib.indexByte (b :: l) 47 = 0 := by rw [indexByte_cons, if_pos (by simp [c])]
    rw [e, if_neg (by omega)]
    rw [splitL_cons, if_pos c]
    rfl
  · rcases stroke_range l with h | ⟨h1, h2⟩
    · have e : Lib.indexByte (b :: l) 47 = -1 := by rw [indexByte_cons, if_neg (by simp [c]), h]; rfl
      rw [e, if_pos rfl]
      rw [h, if_pos rfl] at ih
      rw [splitL_cons, if_neg c, ih]
    · have hn : Lib.indexByte l 47 ≠ -1 := by omega
      have e : Lib.indexByte (b :: l) 47 = Lib.indexByte l 47 + 1 := by rw [indexByte_cons, if_neg (by simp [c]), if_neg (by simp [hn])]
      rw [e, if_neg (by omega)]
      rw [if_neg hn] at ih
      have e2 : (Lib.indexByte l 47 + 1).toNat = (Lib.indexByte l 47).toNat + 1 := by omega
      rw [e2]
      rw [splitL_cons, if_neg c, ih]
      rfl
theorem baL_toList (s : ByteArray) : baL s.data.toList = s := by unfold baL; simp
theorem names_cut (t : ByteArray) : splitL t.data.toList = if (cutS t).2.2 = true then (cutS t).1.data.toList :: splitL (cutS t).2.1.data.toList else [(cutS t).1.data.toList] := by
 rw [splitL_cut]
 have h3 : t.data.toList.length = t.size := by simp
 rcases stroke_range t.data.toList with h | ⟨h1, h2⟩
 · have hc : cutS t = (t, ByteArray.empty, false) := by unfold cutS strokeI; rw [if_pos h]
   rw [if_pos h, hc]; rfl
 · have hn : Lib.indexByte t.data.toList 47 ≠ -1 := by omega
   have hc : cutS t = (t.extract 0 (Lib.indexByte t.data.toList 47).toNat, t.extract ((Lib.indexByte t.data.toList 47).toNat + 1) t.size, true) := by unfold cutS strokeI; rw [if_neg hn]
   rw [if_neg hn, hc, if_pos rfl]
   have hlt : (Lib.indexByte t.data.toList 47).toNat < t.size := by omega
   obtain ⟨i, hi⟩ : ∃ i, (Lib.indexByte t.data.toList 47).toNat = i := ⟨_, rfl⟩
   rw [hi] at hlt ⊢
   have e1 : (t.extract 0 i).data.toList = t.data.toList.take i := by simp
   have e2 : (t.extract (i + 1) t.size).data.toList = t.data.toList.drop (i + 1) := by
    simp only [ByteArray.data_extract, Array.toList_extract]
    rw [List.extract_eq_take_drop]
    apply List.take_of_length_le
    simp
   rw [e1, e2]
theorem EachS.split {s : ByteArray} {b : Bool} {l : List ByteArray} (h : EachS s b l) : (b = true → l.map (fun x => x.data.toList) = splitL (s.data.toList.drop 1)) ∧ (b = false → l = []) := by
 induction h with
 | done s => exact ⟨fun h => (by cases h), fun _ => rfl⟩
 | @more s l h ih =>
  refine ⟨fun _ => ?_, fun h => (by cases h)⟩
  have e0 : s.data.toList.drop 1 = (s.extract 1 s.size).data.toList := by
   simp only [ByteArray.data_extract, Array.toList_extract]
   rw [List.extract_eq_take_drop]
   symm
   apply List.take_of_length_le
   simp
  rw [e0, names_cut]
  have e1 : (restOf s).data.toList.drop 1 = (cutS (s.extract 1 s.size)).2.1.data.toList := by
   show ((⟨#[47]⟩ : ByteArray) ++ (cutS (s.extract 1 s.size)).2.1).data.toList.drop 1 = _
   rw [ByteArray.data_append]
   simp
  cases hm : moreOf s with
  | true =>
   have := ih.1 hm
   rw [e1] at this
   rw [if_pos hm, List.map_cons, this]
  | false =>
   rw [ih.2 hm, if_neg (by show ¬ moreOf s = true; rw [hm]; simp)]
   rfl
theorem toList_eq47 (s : ByteArray) : (s.toList == [47]) = decide (s.data.toList = [47]) := by
 rw [ByteArray.toList_eq]
 by_cases h : s.data.toList = [47]
 · rw [h]; rfl
 · rw [decide_eq_false h]
   cases hb : (s.data.toList == [47]) with
   | false => rfl
   | true => exact absurd (eq_of_beq hb) h
theorem each_path {s : ByteArray} {l : List ByteArray} (h : EachS s (!(s.toList == [47])) l) : l = (pathL s.data.toList).map baL := by
 have e : l = (l.map fun x => x.data.toList).map baL := by
  rw [List.map_map]
  conv => lhs; rw [← List.map_id l]
  apply List.map_congr_left
  intro x _
  exact (baL_toList x).symm
 obtain ⟨h1, h2⟩ := h.split
 rw [toList_eq47] at h1 h2
 unfold pathL
 by_cases c : s.data.toList = [47]
 · rw [if_pos c]
   exact h2 (by simp [c])
 · rw [if_neg c, e, h1 (by simp [c])]
theorem own_base {w : World} {base base' n size : Nat} {e : TypeId} {v : Value} {xs : List Value} (h : w.ownsRow base' e size v n xs) (hb : base ≤ base') : w.ownsRow base e size v n xs := by
 rcases h with ⟨h1, h2 | ⟨g, cap, cur, hv, hg, rest⟩⟩
 · exact ⟨h1, .inl h2⟩
 · exact ⟨h1, .inr ⟨g, cap, cur, hv, Nat.le_trans hb hg, rest⟩⟩
def SplitA (s : ByteArray) (w : World) (e : Ending) (W' : World) : Prop :=
 ∃ (v : Value), e = .returned (.tuple #[v, .int .i64 (splitE s).2]) ∧ Below w.heap.size w W' ∧ W'.ownsRow w.heap.size 9 1 v (splitE s).1.length ((splitE s).1.map .string)
theorem split_any {l : List ByteArray} : (l.any fun n => !pnameB n) = true ↔ ∃ x ∈ l, pnameB x = false := by simp
theorem path_any (s : ByteArray) : ((pathL s.data.toList).any fun n => !pnameB (baL n)) = (((pathL s.data.toList).map baL).any fun n => !pnameB n) := by
 rw [List.any_map]; rfl
theorem t_splitA (s : ByteArray) (w : World) (hs : s.size ≤ maxLen) : Calls Tryz.prog 70 #[.string s] w (SplitA s w) := by
 by_cases h1 : 255 < s.size
 · refine (callsIn_wide.1 (t_splitLong s w h1 hs)).mono ?_
   rintro e W' ⟨rfl, hb⟩
   have e : splitE s = ([], 5) := by unfold splitE; rw [if_pos h1]
   unfold SplitA
   rw [e]
   exact ⟨_, rfl, hb, World.ownsRow_nil _ _ _ _⟩
 · by_cases h2 : s.data.toList.head? = some 47
   · refine (callsIn_wide.1 (t_split s w (by omega) h2)).mono ?_
     rintro e W' ⟨v, r, rfl, hb, h⟩
     unfold SplitA
     rcases h with ⟨rfl, rfl, l, hl, x, hx, hp⟩ | ⟨ys, hys, hok, h⟩
     · have hl' := each_path hl
       have e : splitE s = ([], 2) := by
        unfold splitE
        rw [if_neg h1, if_neg (fun e => e h2), if_pos]
        rw [path_any, ← hl']
        exact split_any.2 ⟨x, hx, hp⟩
       rw [e]
       exact ⟨_, rfl, hb, World.ownsRow_nil _ _ _ _⟩
     · have hl' := each_path hys
       have hany : ((pathL s.data.toList).any fun n => !pnameB (baL n)) = false := by
        rw [path_any, ← hl']
        rw [List.any_map, List.any_eq_false]
        intro x hx
        simp [hok x hx]
       have hlen : (pathL s.data.toList).length = ys.length := by
        have := congrArg List.length hl'
        simpa using this.symm
       rcases h with ⟨h8, rfl, rfl⟩ | ⟨h8, rfl, hown⟩
       · have e : splitE s = ([], 5) := by
          unfold splitE
          rw [if_neg h1, if_neg (fun e => e h2), if_neg (by rw [hany]; simp), if_pos (by omega)]
         rw [e]
         exact ⟨_, rfl, hb, World.ownsRow_nil _ _ _ _⟩
       · have e : splitE s = (ys.map (·.1), 0) := by
          unfold splitE
          rw [if_neg h1, if_neg (fun e => e h2), if_neg (by rw [hany]; simp), if_neg (by omega), ← hl']
         rw [e]
         refine ⟨_, rfl, hb, ?_⟩
         rw [List.length_map, List.map_map]
         exact own_base hown (by omega)
   · refine (callsIn_wide.1 (t_splitForm s w (by omega) h2)).mono ?_
     rintro e W' ⟨rfl, hb⟩
     have e : splitE s = ([], 7) := by unfold splitE; rw [if_neg h1, if_pos h2]
     unfold SplitA
     rw [e]
     exact ⟨_, rfl, hb, World.ownsRow_nil _ _ _ _⟩
theorem SplitA.get {s : ByteArray} {w W' : World} {e : Ending} (h : SplitA s w e W') : ∃ (v : Value), e = .returned (.tuple #[v, .int .i64 (splitE s).2]) ∧ Below w.heap.size w W' ∧ W'.ownsRow w.heap.size 9 1 v (splitE s).1.length ((splitE s).1.map .string) := h
theorem splitE_names (s : ByteArray) : (splitE s).1.length ≤ 8 ∧ ∀ n ∈ (splitE s).1, pnameB n = true := by
 unfold splitE
 split
 · simp
 split
 · simp
 split
 · simp
 split
 · simp
 · rename_i h3 h4
   refine ⟨by simpa using h4, fun n hn => ?_⟩
   have h5 : ((pathL s.data.toList).any fun n => !pnameB (baL n)) = false := by simpa using h3
   rw [path_any, List.any_eq_false] at h5
   have := h5 n hn
   simpa using this
theorem pname_size {n : ByteArray} (h : pnameB n = true) : 1 ≤ n.size ∧ n.size ≤ 27 := by
 unfold pnameB at h
 simp only [Bool.and_eq_true, decide_eq_true_eq] at h
 exact h.1.1.1
end

section
open Go.RowKit Go.Maps
def StrsAt (w : World) (A : Option Addr) (l : List ByteArray) : Prop := SliceAt w A (l.map .string)
theorem strs_of_own {w : World} {base n : Nat} {v : Value} {l : List ByteArray} (h : w.ownsRow base 9 1 v n (l.map .string)) (hn : l.length = n) : ∃ A c, v = .slice A n c ∧ StrsAt w A l ∧ n ≤ c := by
 have h' := h
 obtain ⟨h1, ⟨rfl, rfl⟩ | ⟨g, cap, cur, rfl, hb, hh, h2, h3, h4⟩⟩ := h
 · refine ⟨none, 0, rfl, ?_, by omega⟩
   have : l = [] := by cases l with | nil => rfl | cons a r => simp at hn
   subst this
   intro h0
   exact absurd h0 (by simp)
 · refine ⟨some ⟨g, 0, none⟩, cap, rfl, fun _ => ⟨g, 0, rfl, (Array.getElem?_eq_some_iff.1 hh).1, fun j x hx => ?_⟩, h2⟩
   have := h'.cells (g := g) rfl j x hx
   rwa [oadd_flat] at this
def ParentA (s : ByteArray) (w : World) (e : Ending) (W' : World) : Prop :=
 ∃ A c, e = .returned (.tuple #[.slice A (parentE s).1.1.length c, .string (parentE s).1.2, .int .i64 (parentE s).2]) ∧ Below w.heap.size w W' ∧ StrsAt W' A (parentE s).1.1
theorem ParentA.get {s : ByteArray} {w W' : World} {e : Ending} (h : ParentA s w e W') : ∃ A c, e = .returned (.tuple #[.slice A (parentE s).1.1.length c, .string (parentE s).1.2, .int .i64 (parentE s).2]) ∧ Below w.heap.size w W' ∧ StrsAt W' A (parentE s).1.1 := h
theorem strs_nil (w : World) (A : Option Addr) : StrsAt w A [] := fun h => absurd h (by simp)
set_option maxRecDepth 100000 in
set_option maxHeartbeats 1000000 in
theorem t_parent (s : ByteArray) (w : World) (hs : s.size ≤ maxLen) : Calls Tryz.prog 180 #[.string s] w (ParentA s w) := by
 have T := t_splitA s w hs
 obtain ⟨⟨l, r⟩, hl⟩ : ∃ q, splitE s = q := ⟨_, rfl⟩
 have hP : parentE s = if r ≠ 0 then (([], ByteArray.empty), r) else if l = [] then (([], ByteArray.empty), 2) else ((l.dropLast, l.getLastD ByteArray.empty), 0) := by
  unfold parentE
  rw [hl]
 have h8 := (splitE_names s).1
 rw [hl] at h8
 unfold ParentA
 have HT : Hid (Calls Tryz.prog 70 #[.string s] w fun e W' => ∃ A c, e = .returned (.tuple #[.slice A l.length c, .int .i64 r]) ∧ Below w.heap.size w W' ∧ StrsAt W' A l ∧ l.length ≤ c) := T.mono fun e W' h => by
  obtain ⟨v, he, hb, ho⟩ := h.get
  rw [hl] at he ho
  obtain ⟨A, c, hv, hst, hc⟩ := strs_of_own ho rfl
  rw [hv] at he
  exact ⟨A, c, he, hb, hst, hc⟩
 by_cases c1 : r = 0
 · subst c1
   rw [if_neg (fun e => e rfl)] at hP
   by_cases c2 : l = []
   · subst c2
     rw [if_pos rfl] at hP
     rw [hP]
     clear hl hP T
     go_enter Tryz.func180, Tryz.ntmps180
     go_wp2_with (go_at_call 70; refine HT.out.mono ?_; rintro e W1 ⟨A, c, rfl, hb, hst, hc⟩; have HB := zz hb; clear hb hst)
     go_ret3
     exact ⟨_, _, rfl, HB.out, strs_nil _ _⟩
   · rw [if_neg c2] at hP
     rw [hP]
     obtain ⟨k, hk⟩ : ∃ k, l.length = k + 1 := ⟨l.length - 1, by have := List.length_pos_iff.2 c2; omega⟩
     have hdl : l.dropLast.length = k := by simp [hk]
     have HL : Hid (l[k]? = some (l.getLastD ByteArray.empty)) := by
      show l[k]? = some (l.getLastD ByteArray.empty)
      rw [List.getLastD_eq_getLast?, List.getLast?_eq_getElem?, hk]
      have : k < l.length := by omega
      simp [List.getElem?_eq_getElem this]
     obtain ⟨nm, hnm⟩ : ∃ nm, l.getLastD ByteArray.empty = nm := ⟨_, rfl⟩
     rw [hnm] at HL
     show Calls _ _ _ _ fun e W' => ∃ A c, e = .returned (.tuple #[.slice A l.dropLast.length c, .string (l.getLastD ByteArray.empty), .int .i64 0]) ∧ Below w.heap.size w W' ∧ StrsAt W' A l.dropLast
     rw [hdl, hnm]
     rw [hk] at HT
     clear hl hP T hdl hnm
     go_enter Tryz.func180, Tryz.ntmps180
     go_wp2_with (go_at_call 70; refine HT.out.mono ?_; rintro e W1 ⟨A, c, rfl, hb, hst, hc⟩; have HB := zz hb; have HS := zz hst; clear hb hst)
     obtain ⟨b, o, rfl, hlt, hcell⟩ := HS.out (by rw [List.length_map]; omega)
     have ck := hcell k (.string nm) (by rw [List.getElem?_map, HL.out]; rfl)
     have HD : Hid (StrsAt W1 (some ⟨b, o, none⟩) l.dropLast) := fun _ => ⟨b, o, rfl, hlt, fun j x hx => by
      rw [List.map_dropLast, List.getElem?_dropLast] at hx
      split at hx
      · exact hcell j x hx
      · cases hx⟩
     clear hcell
     have mixed : Tryz.prog.follows Departure.mixedOrders = true := by kernel_rfl
     have c3 : (0 : Int) ≤ k := by omega
     have c4 : (k : Int) ≤ c := by omega
     have c5 : (k : Int) < (k + 1 : Nat) := by omega
     go_region_o
     go_wp2
     go_ret3
     exact ⟨_, _, rfl, ⟨HB.out.os, HB.out.tape, HB.out.output, HB.out.size, HB.out.block⟩, HD.out⟩
 · rw [if_pos c1] at hP
   rw [hP]
   clear hl hP T
   go_enter Tryz.func180, Tryz.ntmps180
   go_wp2_with (go_at_call 70; refine HT.out.mono ?_; rintro e W1 ⟨A, c, rfl, hb, hst, hc⟩; have HB := zz hb; clear hb hst)
   go_ret3
   exact ⟨_, _, rfl, HB.out, strs_nil _ _⟩
end

section
open Go.RowKit Go.Maps
section
variable {t : PT} {d i : Int} {x y : PN} {s : ByteArray}
theorem heldR_some (h : t.n i = some x) : heldR t i = x.held := by unfold heldR; rw [h]
theorem heldR_none (h : t.n i = none) : heldR t i = 0 := by unfold heldR; rw [h]
theorem heldR_set (j : Int) : heldR (t.set i x) j = if j = i then x.held else heldR t j := by
 unfold heldR
 rw [PT.set_n]
 by_cases c : j = i
 · rw [if_pos c, if_pos c]
 · rw [if_neg c, if_neg c]
theorem heldR_del (j : Int) : heldR (t.del i) j = if j = i then 0 else heldR t j := by
 unfold heldR
 rw [PT.del_n]
 by_cases c : j = i
 · rw [if_pos c, if_pos c]
 · rw [if_neg c, if_neg c]
theorem heldR_enter (hd : heldR t d = x.held) (hi : heldR t i = y.held) (j : Int) : heldR (enterT t d x s i y) j = heldR t j := by
 unfold enterT
 rw [heldR_set, heldR_set]
 by_cases c : j = i
 · rw [if_pos c, held_in, c, hi]
 · rw [if_neg c]
   by_cases c2 : j = d
   · rw [if_pos c2, c2, hd]
   · rw [if_neg c2]
theorem heldR_leave (hd : heldR t d = x.held) (hi : heldR t i = y.held) (j : Int) : heldR (leaveT t d x s i y) j = heldR t j := by
 unfold leaveT
 rw [heldR_set, heldR_set]
 by_cases c : j = d
 · rw [if_pos c, c, hd]
 · rw [if_neg c]
   by_cases c2 : j = i
   · rw [if_pos c2, held_out, c2, hi]
   · rw [if_neg c2]
theorem heldR_free (hi : heldR t i = y.held) (j : Int) : heldR (freeP t i y) j = heldR t j := by
 unfold freeP
 by_cases c : goneB i y = true
 · rw [if_pos c, heldR_del]
   by_cases c2 : j = i
   · rw [if_pos c2, c2, hi]
     unfold goneB at c
     simp at c
     exact c.2.1.symm
   · rw [if_neg c2]
 · rw [if_neg c]
theorem heldR_drop (hd : heldR t d = x.held) (hi : heldR t i = y.held) (j : Int) : heldR (dropT t d x s i y) j = heldR t j := by
 unfold dropT
 rw [heldR_free (by rw [heldR_leave hd hi, held_out, hi]), heldR_leave hd hi]
theorem heldR_makeT (hi : t.n i = none) (kind j : Int) : heldR (makeT t d s kind i) j = heldR t j := by
 unfold makeT
 split
 · rename_i xd hd
   have e : ∀ q, heldR (t.set i (newN kind)) q = heldR t q := fun q => by
    rw [heldR_set]
    by_cases c : q = i
    · rw [if_pos c, c, heldR_none hi]; rfl
    · rw [if_neg c]
   rw [heldR_enter (by rw [e, heldR_some hd]) (by rw [e, heldR_none hi]; rfl), e]
 · rfl
theorem makeAt_free {kind : Int} (h : makeAtE t d s kind i = 0) : t.n i = none := by
 unfold makeAtE at h
 obtain ⟨_, h⟩ := firstE_cons h
 obtain ⟨_, h⟩ := firstE_cons h
 obtain ⟨_, h⟩ := firstE_cons h
 obtain ⟨_, h⟩ := firstE_cons h
 obtain ⟨_, h⟩ := firstE_cons h
 obtain ⟨_, h⟩ := firstE_cons h
 obtain ⟨h, _⟩ := firstE_cons h
 unfold haveE at h
 cases hx : t.n i with
 | none => rfl
 | some x => rw [hx] at h; simp at h
theorem heldR_makeAt (kind j : Int) : heldR (makeAtP t d s kind i).2 j = heldR t j := by
 unfold makeAtP
 by_cases c : makeAtE t d s kind i = 0
 · rw [if_pos c]; exact heldR_makeT (makeAt_free c) kind j
 · rw [if_neg c]
theorem heldR_make (kind m j : Int) : heldR (makeP t d s kind m).2 j = heldR t j := by
 unfold makeP
 split
 · exact heldR_makeAt kind j
 · rfl
theorem heldR_link (j : Int) : heldR (linkP t d s i).2 j = heldR t j := by
 unfold linkP
 split
 · show heldR (linkT t d s i) j = _
   unfold linkT
   split
   · rename_i xd xi hd hi
     exact heldR_enter (heldR_some hd) (heldR_some hi) j
   · rfl
 · rfl
theorem heldR_dropP (q : PN → Int) (j : Int) : heldR (dropP t d s q).2 j = heldR t j := by
 unfold dropP
 split
 · rfl
 · split
   · rename_i xd xi hd hi
     split
     · rfl
     · exact heldR_drop (heldR_some hd) (heldR_some hi) j
   · rfl
theorem heldR_move (b : Int) (s2 : ByteArray) (j : Int) : heldR (moveT t d s b s2 i) j = heldR t j := by
 unfold moveT
 split
 · rename_i xa xi ha hi
   have h1 : ∀ q, heldR (leaveT t d xa s i xi) q = heldR t q := heldR_leave (heldR_some ha) (heldR_some hi)
   split
   · rename_i xb hb
     rw [heldR_enter (heldR_some hb) (by rw [h1, held_out, heldR_some hi]), h1]
   · rfl
 · rfl
theorem heldR_rename (b : Int) (s2 : ByteArray) (j : Int) : heldR (renameP t d s b s2).2 j = heldR t j := by
 unfold renameP
 split
 · rfl
 · split
   · rfl
   · split
     · rename_i xi xb hi hb
       split
       · rfl
       · split
         · exact heldR_move b s2 j
         · split
           · rfl
           · split
             · rename_i xo ho
               split
               · rfl
               · show heldR (moveT (dropT t b xb s2 _ xo) d s b s2 _) j = _
                 rw [heldR_move, heldR_drop (heldR_some hb) (heldR_some ho)]
             · rfl
     · rfl
theorem heldR_resize (n j : Int) : heldR (resizeP t i n).2 j = heldR t j := by
 unfold resizeP
 split
 · show heldR (resizeT t i n) j = _
   unfold resizeT
   split
   · rename_i x hx
     rw [heldR_set]
     by_cases c : j = i
     · rw [if_pos c, c, heldR_some hx]
     · rw [if_neg c]
   · rfl
 · rfl
theorem heldR_write (p : Int) (b : ByteArray) (j : Int) : heldR (writeP t i p b).2 j = heldR t j := by
 unfold writeP
 split
 · show heldR (writeT t i p b) j = _
   unfold writeT
   split
   · rename_i x hx
     rw [heldR_set]
     by_cases c : j = i
     · rw [if_pos c, c, heldR_some hx]
     · rw [if_neg c]
   · rfl
 · rfl
theorem heldR_hold (j : Int) : heldR (holdP t i).2 j = heldR t j + if (holdP t i).1 = 0 ∧ j = i then 1 else 0 := by
 unfold holdP
 by_cases h0 : holdE t i = 0
 · rw [if_pos h0]
   unfold holdE at h0
   obtain ⟨z1, _⟩ := firstE_cons h0
   obtain ⟨x, hx⟩ := Option.isSome_iff_exists.1 (there_one z1)
   rw [hx]
   show heldR (t.set i { x with held := x.held + 1 }) j = _
   rw [heldR_set]
   by_cases c : j = i
   · rw [if_pos c, if_pos ⟨rfl, c⟩, c, heldR_some hx]
   · rw [if_neg c, if_neg (fun e => c e.2), Int.add_zero]
 · rw [if_neg h0, if_neg (fun e => h0 e.1), Int.add_zero]
theorem heldR_unhold (j : Int) : heldR (unholdP t i).2 j = heldR t j - if (unholdP t i).1 = 0 ∧ j = i then 1 else 0 := by
 unfold unholdP
 by_cases h0 : unholdE t i = 0
 · rw [if_pos h0]
   unfold unholdE at h0
   obtain ⟨z1, _⟩ := firstE_cons h0
   obtain ⟨x, hx⟩ := Option.isSome_iff_exists.1 (there_one z1)
   rw [hx]
   show heldR (unholdT t i x) j = _
   unfold unholdT
   rw [heldR_free (by rw [heldR_set, if_pos rfl]), heldR_set]
   by_cases c : j = i
   · rw [if_pos c, if_pos ⟨rfl, c⟩, c, heldR_some hx]
   · rw [if_neg c, if_neg (fun e => c e.2), Int.sub_zero]
 · rw [if_neg h0, if_neg (fun e => h0 e.1), Int.sub_zero]
end
def cntTo (T : Nat → Int) (i : Int) : Nat → Int
 | 0 => 0
 | n + 1 => cntTo T i n + if T n = i then 1 else 0
def updT (T : Nat → Int) (p : Nat) (v : Int) : Nat → Int := fun k => if k = p then v else T k
theorem cntTo_same {T T' : Nat → Int} {i : Int} : ∀ {n : Nat}, (∀ k, k < n → T' k = T k) → cntTo T' i n = cntTo T i n
 | 0, _ => rfl
 | n + 1, h => by
  unfold cntTo
  rw [cntTo_same (n := n) (fun k hk => h k (by omega)), h n (by omega)]
theorem cntTo_upd {T : Nat → Int} {p : Nat} {v i : Int} : ∀ {n : Nat}, p < n → cntTo (updT T p v) i n = cntTo T i n - (if T p = i then 1 else 0) + (if v = i then 1 else 0)
 | 0, h => by omega
 | n + 1, h => by
  unfold cntTo
  by_cases c : p = n
  · subst c
    rw [cntTo_same (T := T) (T' := updT T p v) (n := p) (fun k hk => by unfold updT; rw [if_neg (by omega)]), show updT T p v p = v by unfold updT; rw [if_pos rfl]]
    omega
  · rw [cntTo_upd (n := n) (by omega), show updT T p v n = T n by unfold updT; rw [if_neg (fun e => c e.symm)]]
    omega
theorem cntTo_nonneg {T : Nat → Int} {i : Int} : ∀ {n : Nat}, 0 ≤ cntTo T i n
 | 0 => Int.le_refl _
 | n + 1 => by
  have := cntTo_nonneg (T := T) (i := i) (n := n)
  unfold cntTo
  split <;> omega
theorem cntTo_le {T : Nat → Int} {i : Int} : ∀ {n : Nat}, cntTo T i n ≤ n
 | 0 => Int.le_refl _
 | n + 1 => by
  have := cntTo_le (T := T) (i := i) (n := n)
  unfold cntTo
  split <;> omega
theorem cntTo_pos {T : Nat → Int} {i : Int} : ∀ {n k : Nat}, k < n → T k = i → 0 < cntTo T i n
 | 0, _, h, _ => by omega
 | n + 1, k, h, hk => by
  have h0 := cntTo_nonneg (T := T) (i := i) (n := n)
  unfold cntTo
  by_cases c : k = n
  · subst c
    rw [if_pos hk]; omega
  · have := cntTo_pos (T := T) (i := i) (n := n) (k := k) (by omega) hk
    split <;> omega
theorem cntTo_zero {T : Nat → Int} {i : Int} : ∀ {n : Nat}, (∀ k, k < n → T k ≠ i) → cntTo T i n = 0
 | 0, _ => rfl
 | n + 1, h => by
  unfold cntTo
  rw [cntTo_zero (fun k hk => h k (by omega)), if_neg (h n (by omega))]
  rfl
structure HoldOk (t : PT) (T : Nat → Int) (n : Int) : Prop where
 well : WellP t
 cores : 1 ≤ n ∧ n ≤ 8
 held : ∀ i, i ≠ 0 → heldR t i = cntTo T i 128
 out : ∀ k : Nat, n * 16 ≤ (k : Int) → T k = 0
section
variable {t : PT} {T : Nat → Int} {n : Int}
theorem HoldOk.heldK (h : HoldOk t T n) : HeldK 128 t := fun i x hx => by
 have h1 := h.well.range i x hx
 have h2 := h.held i (by omega)
 rw [heldR_some hx] at h2
 have := cntTo_le (T := T) (i := i) (n := 128)
 omega
theorem HoldOk.file (h : HoldOk t T n) {k : Nat} (hk : k < 128) (h0 : T k ≠ 0) : ∃ x, t.n (T k) = some x ∧ x.kind = 1 ∧ 0 < x.held := by
 have h1 := h.held (T k) h0
 have h2 := cntTo_pos (T := T) (i := T k) hk rfl
 cases hx : t.n (T k) with
 | none => rw [heldR_none hx] at h1; omega
 | some x =>
  rw [heldR_some hx] at h1
  refine ⟨x, rfl, ?_, by omega⟩
  rcases h.well.kind _ x hx with e | e
  · exact e
  · have := (h.well.dirs _ x hx e).2
    omega
theorem HoldOk.u32 (h : HoldOk t T n) {k : Nat} (hk : k < 128) : 0 ≤ T k ∧ T k ≤ 256 := by
 by_cases h0 : T k = 0
 · omega
 · obtain ⟨x, hx, _⟩ := h.file hk h0
   have h1 := h.well.range _ x hx
   have h2 := h.well.room
   omega
theorem HoldOk.turn {t' : PT} (h : HoldOk t T n) (hW : WellP t') (hh : ∀ j, heldR t' j = heldR t j) : HoldOk t' T n :=
 ⟨hW, h.cores, fun i hi => by rw [hh, h.held i hi], h.out⟩
theorem HoldOk.new (r : Int) (h1 : 2 ≤ r) (h2 : r ≤ 256) (h3 : 1 ≤ n) (h4 : n ≤ 8) : HoldOk (newT r) (fun _ => 0) n := by
 refine ⟨WellP.new r h1 h2, ⟨h3, h4⟩, fun i hi => ?_, fun _ _ => rfl⟩
 rw [cntTo_zero (fun k _ => Ne.symm hi)]
 unfold newT
 rw [heldR_set]
 split
 · rfl
 · rfl
theorem HoldOk.open_ (h : HoldOk t T n) {i : Int} {p : Nat} (hp : p < 128) (hpn : (p : Int) < n * 16) (h0 : T p = 0) (hok : (holdP t i).1 = 0) (_hi : i ≠ 0) : HoldOk (holdP t i).2 (updT T p i) n := by
 refine ⟨h.well.holdP_ i, h.cores, fun j hj => ?_, fun k hk => ?_⟩
 · rw [heldR_hold, h.held j hj, cntTo_upd hp, h0, if_neg (fun e : (0 : Int) = j => hj e.symm)]
   by_cases c : j = i
   · rw [if_pos ⟨hok, c⟩, if_pos c.symm]; omega
   · rw [if_neg (fun e => c e.2), if_neg (fun e => c e.symm)]; omega
 · unfold updT
   rw [if_neg (fun e => by omega)]
   exact h.out k hk
theorem HoldOk.close_ (h : HoldOk t T n) {p : Nat} (hp : p < 128) (h0 : T p ≠ 0) : (unholdP t (T p)).1 = 0 ∧ HoldOk (unholdP t (T p)).2 (updT T p 0) n := by
 obtain ⟨x, hx, hk, hh⟩ := h.file hp h0
 have ok : unholdE t (T p) = 0 := by
  unfold unholdE
  have e1 : thereE t [T p] = 0 := by unfold thereE; simp [hx]
  have e2 : heldE' t (T p) = 0 := by
   unfold heldE'
   rw [hx]
   show heldE x = 0
   unfold heldE
   rw [if_neg (by omega)]
  rw [e1, e2]
  rfl
 have ok1 : (unholdP t (T p)).1 = 0 := by unfold unholdP; rw [if_pos ok]
 refine ⟨ok1, h.well.unholdP_ _, h.cores, fun j hj => ?_, fun k hk2 => ?_⟩
 · rw [heldR_unhold, h.held j hj, cntTo_upd hp, if_neg (fun e : (0 : Int) = j => hj e.symm)]
   by_cases c : j = T p
   · rw [if_pos ⟨ok1, c⟩, if_pos c.symm]; omega
   · rw [if_neg (fun e => c e.2), if_neg (fun e => c e.symm)]; omega
 · unfold updT
   split
   · rfl
   · exact h.out k hk2
end
end

section
open Go.RowKit Go.Maps
structure Tab (w : World) (b : Nat) (T : Nat → Int) (n : Int) : Prop where
 ex : ∃ cs : Array Value, w.heap[b]? = some (.cells cs 146 (0, 0)) ∧ cs.size = 129 ∧ (∀ i, i < 128 → cs[i]? = some (.int .u32 (T i))) ∧ cs[128]? = some (.int .i64 n)
theorem Tab.cell {w : World} {b : Nat} {T : Nat → Int} {n : Int} (h : Tab w b T n) {i : Nat} (hi : i < 128) : w.cell? ⟨b, i, none⟩ = some (.int .u32 (T i)) := by
 obtain ⟨cs, h1, _, h3, _⟩ := h.ex
 simp [World.cell?, h1, h3 i hi]
theorem Tab.cores {w : World} {b : Nat} {T : Nat → Int} {n : Int} (h : Tab w b T n) : w.cell? ⟨b, 128, none⟩ = some (.int .i64 n) := by
 obtain ⟨cs, h1, _, _, h4⟩ := h.ex
 simp [World.cell?, h1, h4]
theorem Tab.frozen {w : World} {b : Nat} {T : Nat → Int} {n : Int} (h : Tab w b T n) (i : Nat) : w.frozen? ⟨b, i, none⟩ = false := by
 obtain ⟨cs, h1, _⟩ := h.ex
 simp [World.frozen?, h1]
theorem Tab.lt {w : World} {b : Nat} {T : Nat → Int} {n : Int} (h : Tab w b T n) : b < w.heap.size := by
 obtain ⟨cs, h1, _⟩ := h.ex
 exact (Array.getElem?_eq_some_iff.1 h1).1
theorem Tab.kept {w w' : World} {b : Nat} {T : Nat → Int} {n : Int} (h : Tab w b T n) (hk : w'.heap[b]? = w.heap[b]?) : Tab w' b T n := by
 obtain ⟨cs, h1, h2⟩ := h.ex
 exact ⟨cs, hk.trans h1, h2⟩
theorem Tab.alloc {w : World} {b : Nat} {T : Nat → Int} {n : Int} (h : Tab w b T n) (o : Obj) : Tab (w.alloc o) b T n := h.kept (Below.heap_alloc w o b h.lt)
theorem Tab.set {w : World} {b : Nat} {T : Nat → Int} {n : Int} (h : Tab w b T n) {p : Nat} (hp : p < 128) (v : Int) : Tab (w.setCell ⟨b, p, none⟩ (.int .u32 v)) b (updT T p v) n := by
 obtain ⟨cs, h1, h2, h3, h4⟩ := h.ex
 refine ⟨cs.setIfInBounds p (.int .u32 v), ?_, by simpa using h2, fun i hi => ?_, ?_⟩
 · simp [World.setCell, Array.getElem?_modify, h1]
 · unfold updT
   by_cases e : i = p
   · subst e; simp [Array.getElem?_setIfInBounds, h2]; omega
   · rw [Array.getElem?_setIfInBounds, if_neg (by omega), if_neg e]; exact h3 i hi
 · rw [Array.getElem?_setIfInBounds, if_neg (by omega)]; exact h4
theorem fds_has_yes (b : Nat) (c : Int) (n : Int) (w : World) (hc : w.cell? ⟨b, 128, none⟩ = some (.int .i64 n)) (h0 : 0 ≤ c) (h1 : c < n) :
  Calls Tryz.prog 79 #[.pointer (some ⟨b, 0, none⟩), .int .i64 c] w fun e w' => e = .returned (.bool true) ∧ w = w' := by
 go_enter Tryz.func79, Tryz.ntmps79
 go_wp2
 go_ret
 exact ⟨rfl, rfl⟩
theorem fds_has_no (b : Nat) (c : Int) (n : Int) (w : World) (hc : w.cell? ⟨b, 128, none⟩ = some (.int .i64 n)) (h0 : ¬ (0 ≤ c ∧ c < n)) :
  Calls Tryz.prog 79 #[.pointer (some ⟨b, 0, none⟩), .int .i64 c] w fun e w' => e = .returned (.bool false) ∧ w = w' := by
 by_cases h : 0 ≤ c
 · have h1 : ¬ c < n := fun hh => h0 ⟨h, hh⟩
   clear h0
   go_enter Tryz.func79, Tryz.ntmps79
   go_wp2
   go_ret
   exact ⟨rfl, rfl⟩
 · clear h0
   go_enter Tryz.func79, Tryz.ntmps79
   go_wp2
   go_ret
   exact ⟨rfl, rfl⟩
theorem fds_of_no (b : Nat) (c fd : Int) (n : Int) (w : World) (hc : w.cell? ⟨b, 128, none⟩ = some (.int .i64 n)) (h0 : ¬ (0 ≤ c ∧ c < n ∧ 0 ≤ fd ∧ fd ≤ 15)) :
  Calls Tryz.prog 46 #[.pointer (some ⟨b, 0, none⟩), .int .i64 c, .int .i64 fd] w fun e w' => e = .returned (.tuple #[.int .u32 0, .bool false]) ∧ w = w' := by
 by_cases h : 0 ≤ c ∧ c < n
 · by_cases h1 : 0 ≤ fd
   · have h2 : ¬ fd ≤ 15 := fun hh => h0 ⟨h.1, h.2, h1, hh⟩
     have h2' : 15 < fd := by omega
     have h3 : ¬ fd < 0 := by omega
     clear h0
     go_enter Tryz.func46, Tryz.ntmps46
     go_wp2_with (go_at_call 79; refine (fds_has_yes _ _ _ _ hc h.1 h.2).mono ?_; rintro e w' ⟨rfl, rfl⟩)
     go_ret2
     exact ⟨rfl, rfl⟩
   · clear h0
     have h3 : fd < 0 := by omega
     go_enter Tryz.func46, Tryz.ntmps46
     go_wp2_with (go_at_call 79; refine (fds_has_yes _ _ _ _ hc h.1 h.2).mono ?_; rintro e w' ⟨rfl, rfl⟩)
     go_ret2
     exact ⟨rfl, rfl⟩
 · clear h0
   go_enter Tryz.func46, Tryz.ntmps46
   go_wp2_with (go_at_call 79; refine (fds_has_no _ _ _ _ hc h).mono ?_; rintro e w' ⟨rfl, rfl⟩)
   go_ret2
   exact ⟨rfl, rfl⟩
theorem fds_of_yes (b : Nat) (c fd : Nat) (T : Nat → Int) (n : Int) (w : World) (ht : Tab w b T n) (h1 : (c : Int) < n) (h2 : fd < 16) (hn : n ≤ 8) :
  Calls Tryz.prog 46 #[.pointer (some ⟨b, 0, none⟩), .int .i64 c, .int .i64 fd] w fun e w' => e = .returned (.tuple #[.int .u32 (T (c * 16 + fd)), .bool (T (c * 16 + fd) != 0)]) ∧ w = w' := by
 have hc := ht.cores
 have hv := ht.cell (i := c * 16 + fd) (by omega)
 go_enter Tryz.func46, Tryz.ntmps46
 go_wp2_with (go_at_call 79; refine (fds_has_yes _ _ _ _ hc (by omega) h1).mono ?_; rintro e w' ⟨rfl, rfl⟩)
 go_ret2
 exact ⟨rfl, rfl⟩
theorem fds_close_yes (b : Nat) (c fd : Nat) (T : Nat → Int) (n : Int) (w : World) (ht : Tab w b T n) (h1 : (c : Int) < n) (h2 : fd < 16) (hn : n ≤ 8) (hz : T (c * 16 + fd) ≠ 0) :
  Calls Tryz.prog 113 #[.pointer (some ⟨b, 0, none⟩), .int .i64 c, .int .i64 fd] w fun e w' => e = .returned (.tuple #[.int .u32 (T (c * 16 + fd)), .int .i64 0]) ∧ w' = w.setCell ⟨b, c * 16 + fd, none⟩ (.int .u32 0) := by
 have H := (fds_of_yes b c fd T n w ht h1 h2 hn)
 have hz' : (T (c * 16 + fd) != 0) = true := by simpa using hz
 rw [hz'] at H
 clear hz hz'
 have hv := ht.cell (i := c * 16 + fd) (by omega)
 have hf := ht.frozen (c * 16 + fd)
 go_enter Tryz.func113, Tryz.ntmps113
 go_wp2_with (go_at_call 46; refine H.mono ?_; rintro e w' ⟨rfl, rfl⟩)
 go_ret2
 exact ⟨rfl, rfl⟩
def zTab : Array Value := Array.replicate 128 (.int .u32 0) ++ #[.int .i64 0]
theorem zTab_size : zTab.size = 129 := by simp [zTab]
theorem zeroTab (w : World) : (zeroValue 146).run Tryz.prog w = .ok (.agg zTab) w := by kernel_rfl
set_option maxRecDepth 100000 in
theorem fds_new_ok (n : Int) (h1 : 1 ≤ n) (h2 : n ≤ 8) (w : World) :
  Calls Tryz.prog 40 #[.int .i64 n] w fun e w' => e = .returned (.tuple #[.pointer (some ⟨w.heap.size, 0, none⟩), .int .i64 0]) ∧ w' = w.alloc (.cells (zTab.setIfInBounds 128 (.int .i64 n)) 146) := by
 have hz := zeroTab
 have hs := zTab_size
 go_enter Tryz.func40, Tryz.ntmps40
 go_wp2
 go_ret2
 exact ⟨rfl, rfl⟩
theorem Tab.new (w : World) (n : Int) : Tab (w.alloc (.cells (zTab.setIfInBounds 128 (.int .i64 n)) 146)) w.heap.size (fun _ => 0) n := by
 refine ⟨_, heap_alloc_new w _, by simp [zTab_size], fun i hi => ?_, ?_⟩
 · rw [Array.getElem?_setIfInBounds, if_neg (by omega)]
   unfold zTab
   rw [Array.getElem?_append_left (by simpa using hi)]
   simp [hi]
 · rw [Array.getElem?_setIfInBounds, if_pos rfl, if_pos (by rw [zTab_size]; omega)]
theorem fds_open_yes (b : Nat) (c fd : Nat) (ino : Int) (T : Nat → Int) (n : Int) (w : World) (ht : Tab w b T n) (h1 : (c : Int) < n) (h2 : fd < 16) (hn : n ≤ 8) (hino : (ino == 0) = false)
  (hz : T (c * 16 + fd) = 0) (hlt : ∀ i, i < fd → T (c * 16 + i) ≠ 0) :
  Calls Tryz.prog 179 #[.pointer (some ⟨b, 0, none⟩), .int .i64 c, .int .u32 ino] w fun e w' => e = .returned (.tuple #[.int .i64 fd, .int .i64 0]) ∧ w' = w.setCell ⟨b, c * 16 + fd, none⟩ (.int .u32 ino) := by
 have hc := ht.cores
 have hf := ht.frozen (c * 16 + fd)
 have hv0 := ht.cell (i := c * 16 + fd) (by omega)
 rw [hz] at hv0
 have HL := zz hlt
 clear hlt hz
 go_enter Tryz.func179, Tryz.ntmps179
 go_wp2_with (go_at_call 79; refine (fds_has_yes _ _ _ _ hc (by omega) h1).mono ?_; rintro e w' ⟨rfl, rfl⟩)
 go_loop [21] (fun i => ∃ k : Nat, k ≤ fd ∧ i = .int .i64 k) (fun i => fd + 1 - (intOf i).toNat)
 case atStart => exact ⟨0, Nat.zero_le _, rfl⟩
 case round =>
  obtain ⟨k, hk, rfl⟩ := hrel
  by_cases he : k = fd
  · subst he
    go_wp2
    go_ret2
    exact ⟨rfl, rfl⟩
  · have hv := ht.cell (i := c * 16 + k) (by omega)
    have hne := HL.out k (by omega)
    have hne' : (T (c * 16 + k) == 0) = false := by simpa using hne
    clear hne hc hf hv0
    go_wp2
    go_round
    case rel => exact ⟨k + 1, by omega, by go_num⟩
    case measure => simp [intOf]; omega
theorem fds_setCell (w : World) (b off : Nat) (v : Value) : w.grownBy (w.setCell ⟨b, off, none⟩ v) (some b) :=
 ⟨rfl, rfl, rfl, by simp [World.setCell], fun k _ hk => Below.heap_setCell _ _ _ k (fun e => hk (by rw [e]))⟩
theorem fds_open_tab (b : Nat) (c fd : Nat) (ino : Int) (T : Nat → Int) (n : Int) (w : World) (ht : Tab w b T n) (h1 : (c : Int) < n) (h2 : fd < 16) (hn : n ≤ 8) (hino : (ino == 0) = false)
  (hz : T (c * 16 + fd) = 0) (hlt : ∀ i, i < fd → T (c * 16 + i) ≠ 0) :
  Calls Tryz.prog 179 #[.pointer (some ⟨b, 0, none⟩), .int .i64 c, .int .u32 ino] w fun e w' => e = .returned (.tuple #[.int .i64 fd, .int .i64 0]) ∧ Tab w' b (updT T (c * 16 + fd) ino) n ∧ w.grownBy w' (some b) ∧ w'.heap.size = w.heap.size := by
 refine (fds_open_yes b c fd ino T n w ht h1 h2 hn hino hz hlt).mono ?_
 rintro e w' ⟨rfl, rfl⟩
 exact ⟨rfl, ht.set (by omega) ino, fds_setCell w b _ _, by simp [World.setCell]⟩
theorem fds_close_tab (b : Nat) (c fd : Nat) (T : Nat → Int) (n : Int) (w : World) (ht : Tab w b T n) (h1 : (c : Int) < n) (h2 : fd < 16) (hn : n ≤ 8) (hz : T (c * 16 + fd) ≠ 0) :
  Calls Tryz.prog 113 #[.pointer (some ⟨b, 0, none⟩), .int .i64 c, .int .i64 fd] w fun e w' => e = .returned (.tuple #[.int .u32 (T (c * 16 + fd)), .int .i64 0]) ∧ Tab w' b (updT T (c * 16 + fd) 0) n ∧ w.grownBy w' (some b) ∧ w'.heap.size = w.heap.size := by
 refine (fds_close_yes b c fd T n w ht h1 h2 hn hz).mono ?_
 rintro e w' ⟨rfl, rfl⟩
 exact ⟨rfl, ht.set (by omega) 0, fds_setCell w b _ _, by simp [World.setCell]⟩
def ofT (T : Nat → Int) (n c fd : Int) : Int := if 0 ≤ c ∧ c < n ∧ 0 ≤ fd ∧ fd ≤ 15 then T (c.toNat * 16 + fd.toNat) else 0
theorem t_fdsOf (b : Nat) (c fd : Int) (T : Nat → Int) (n : Int) (w : World) (ht : Tab w b T n) (hn : n ≤ 8) :
  Calls Tryz.prog 46 #[.pointer (some ⟨b, 0, none⟩), .int .i64 c, .int .i64 fd] w fun e w' => e = .returned (.tuple #[.int .u32 (ofT T n c fd), .bool (ofT T n c fd != 0)]) ∧ w = w' := by
 unfold ofT
 by_cases h : 0 ≤ c ∧ c < n ∧ 0 ≤ fd ∧ fd ≤ 15
 · rw [if_pos h]
   obtain ⟨c', rfl⟩ := Int.eq_ofNat_of_zero_le h.1
   obtain ⟨f', rfl⟩ := Int.eq_ofNat_of_zero_le h.2.2.1
   exact fds_of_yes b c' f' T n w ht h.2.1 (by omega) hn
 · rw [if_neg h]
   exact fds_of_no b c fd n w ht.cores h
theorem setCells_form (B : Nat) (T : TypeId) (fr : Nat × Nat) : ∀ (vs : List Value) (o : Nat) (w : World) (cs : Array Value), w.heap[B]? = some (.cells cs T fr) → ∃ cs', (w.setCells B o vs).heap[B]? = some (.cells cs' T fr) ∧ cs'.size = cs.size
 | [], _, _, cs, h => ⟨cs, h, rfl⟩
 | v :: r, o, w, cs, h => by
  obtain ⟨cs', h1, h2⟩ := setCells_form B T fr r (o + 1) (w.setCell ⟨B, o, none⟩ v) (cs.setIfInBounds o v) (by simp [World.setCell, Array.getElem?_modify, h])
  exact ⟨cs', h1, by rw [h2]; simp⟩
end

section
open Go.RowKit Go.Maps
def walkGo (t : PT) : List ByteArray → Int × Int → Int × Int
 | [], a => a
 | s :: r, a => walkGo t r (if a.2 = 0 then lookP t a.1 s else a)
def walkP (t : PT) (l : List ByteArray) : Int × Int := if (walkGo t l (1, 0)).2 ≠ 0 then (0, (walkGo t l (1, 0)).2) else walkGo t l (1, 0)
def findP (t : PT) (s : ByteArray) : Int × Int := if (splitE s).2 ≠ 0 then (0, (splitE s).2) else walkP t (splitE s).1
def entryP (t : PT) (s : ByteArray) : (Int × ByteArray) × Int :=
 if (parentE s).2 ≠ 0 then ((0, ByteArray.empty), (parentE s).2)
 else if (walkP t (parentE s).1.1).2 ≠ 0 then ((0, ByteArray.empty), (walkP t (parentE s).1.1).2)
 else (((walkP t (parentE s).1.1).1, (parentE s).1.2), 0)
structure Rs where
 err : Int
 fd : Int
 ino : Int
 stat : Value
 ls : Option Int
 data : ByteArray
def wrongR (e : Int) : Rs := ⟨e, 0, 0, stat0, none, ByteArray.empty⟩
structure MD where
 t : PT
 T : Nat → Int
 n : Int
def openedM (m : MD) (c : Nat) (ino : Int) : Rs × MD :=
 if (holdP m.t ino).1 ≠ 0 then (wrongR (holdP m.t ino).1, { m with t := (holdP m.t ino).2 })
 else match freeFd m.T c with
  | some k => (⟨0, k, ino, stat0, none, ByteArray.empty⟩, { m with t := (holdP m.t ino).2, T := updT m.T (c * 16 + k) ino })
  | none => (wrongR 210, { m with t := (unholdP (holdP m.t ino).2 ino).2 })
def openM (m : MD) (c : Nat) (x : Cx) : Rs × MD :=
 if (freeFd m.T c).isNone = true then (wrongR 210, m)
 else if (findP m.t x.path).2 ≠ 0 then (wrongR (findP m.t x.path).2, m)
 else openedM m c (findP m.t x.path).1
noncomputable def makeM (m : MD) (d : Int) (s : ByteArray) (kind : Int) : (Int × Int) × PT := makeP m.t d s kind (leastI m.t)
noncomputable def createM (m : MD) (c : Nat) (x : Cx) : Rs × MD :=
 if (freeFd m.T c).isNone = true then (wrongR 210, m)
 else if (entryP m.t x.path).2 ≠ 0 then (wrongR (entryP m.t x.path).2, m)
 else if (makeM m (entryP m.t x.path).1.1 (entryP m.t x.path).1.2 1).1.2 ≠ 0 then (wrongR (makeM m (entryP m.t x.path).1.1 (entryP m.t x.path).1.2 1).1.2, { m with t := (makeM m (entryP m.t x.path).1.1 (entryP m.t x.path).1.2 1).2 })
 else openedM { m with t := (makeM m (entryP m.t x.path).1.1 (entryP m.t x.path).1.2 1).2 } c (makeM m (entryP m.t x.path).1.1 (entryP m.t x.path).1.2 1).1.1
def heldM (m : MD) (c : Nat) (x : Cx) : Rs × MD :=
 if m.T (c * 16 + x.fd.toNat) = 0 then (wrongR 211, m)
 else if x.act = 3 then ({ wrongR (readR m.t (m.T (c * 16 + x.fd.toNat)) x.page).2 with data := (readR m.t (m.T (c * 16 + x.fd.toNat)) x.page).1 }, m)
 else if x.act = 4 then (wrongR (writeP m.t (m.T (c * 16 + x.fd.toNat)) x.page x.data).1, { m with t := (writeP m.t (m.T (c * 16 + x.fd.toNat)) x.page x.data).2 })
 else if x.act = 5 then (wrongR (resizeP m.t (m.T (c * 16 + x.fd.toNat)) x.size).1, { m with t := (resizeP m.t (m.T (c * 16 + x.fd.toNat)) x.size).2 })
 else if x.act = 13 then (wrongR (unholdP m.t (m.T (c * 16 + x.fd.toNat))).1, { m with t := (unholdP m.t (m.T (c * 16 + x.fd.toNat))).2, T := updT m.T (c * 16 + x.fd.toNat) 0 })
 else (wrongR 0, m)
def linkM (m : MD) (x : Cx) : Rs × MD :=
 if (findP m.t x.path).2 ≠ 0 then (wrongR (findP m.t x.path).2, m)
 else if (entryP m.t x.path2).2 ≠ 0 then (wrongR (entryP m.t x.path2).2, m)
 else (wrongR (linkP m.t (entryP m.t x.path2).1.1 (entryP m.t x.path2).1.2 (findP m.t x.path).1).1, { m with t := (linkP m.t (entryP m.t x.path2).1.1 (entryP m.t x.path2).1.2 (findP m.t x.path).1).2 })
noncomputable def entryM (m : MD) (x : Cx) : Rs × MD :=
 if (entryP m.t x.path).2 ≠ 0 then (wrongR (entryP m.t x.path).2, m)
 else if x.act = 7 then (wrongR (dropP m.t (entryP m.t x.path).1.1 (entryP m.t x.path).1.2 unlinkE).1.2, { m with t := (dropP m.t (entryP m.t x.path).1.1 (entryP m.t x.path).1.2 unlinkE).2 })
 else if x.act = 10 then (wrongR (dropP m.t (entryP m.t x.path).1.1 (entryP m.t x.path).1.2 rmdirE).1.2, { m with t := (dropP m.t (entryP m.t x.path).1.1 (entryP m.t x.path).1.2 rmdirE).2 })
 else ({ wrongR (makeM m (entryP m.t x.path).1.1 (entryP m.t x.path).1.2 2).1.2 with ino := (makeM m (entryP m.t x.path).1.1 (entryP m.t x.path).1.2 2).1.1 }, { m with t := (makeM m (entryP m.t x.path).1.1 (entryP m.t x.path).1.2 2).2 })
noncomputable def renameM (m : MD) (x : Cx) : Rs × MD :=
 if (entryP m.t x.path).2 ≠ 0 then (wrongR (entryP m.t x.path).2, m)
 else if (entryP m.t x.path2).2 ≠ 0 then (wrongR (entryP m.t x.path2).2, m)
 else (wrongR (renameP m.t (entryP m.t x.path).1.1 (entryP m.t x.path).1.2 (entryP m.t x.path2).1.1 (entryP m.t x.path2).1.2).1, { m with t := (renameP m.t (entryP m.t x.path).1.1 (entryP m.t x.path).1.2 (entryP m.t x.path2).1.1 (entryP m.t x.path2).1.2).2 })
def listM (m : MD) (x : Cx) : Rs × MD :=
 if (findP m.t x.path).2 ≠ 0 then (wrongR (findP m.t x.path).2, m)
 else ({ wrongR (listE m.t (findP m.t x.path).1) with ls := some (findP m.t x.path).1 }, m)
def statM (m : MD) (x : Cx) : Rs × MD :=
 if (findP m.t x.path).2 ≠ 0 then (wrongR (findP m.t x.path).2, m)
 else ({ wrongR (statR m.t (findP m.t x.path).1).2 with stat := (statR m.t (findP m.t x.path).1).1 }, m)
noncomputable def deedM (m : MD) (c : Nat) (x : Cx) : Rs × MD :=
 if x.act = 1 then openM m c x
 else if x.act = 2 then createM m c x
 else if x.act = 3 ∨ x.act = 4 ∨ x.act = 5 ∨ x.act = 13 ∨ x.act = 14 then heldM m c x
 else if x.act = 6 then linkM m x
 else if x.act = 7 ∨ x.act = 9 ∨ x.act = 10 then entryM m x
 else if x.act = 8 then renameM m x
 else if x.act = 11 then listM m x
 else if x.act = 12 then statM m x
 else (wrongR 0, m)
noncomputable def doM (m : MD) (core : Int) (x : Cx) : Rs × MD :=
 if core < 0 ∨ m.n ≤ core then (wrongR 2, m)
 else if checkC x ≠ 0 then (wrongR (checkC x), m)
 else deedM m core.toNat x
end

section
open Go.RowKit Go.Maps
structure ModM (w : World) (F : Nat → Prop) (P Pt Pf N : Nat) (y : Lay) (m : MD) : Prop where
 head : w.heap[P]? = some (.cells #[.pointer (some ⟨Pt, 0, none⟩), .pointer (some ⟨Pf, 0, none⟩), .int .i64 m.n] 85 (0, 0))
 tree : TreeM w F Pt N y m.t
 tab : Tab w Pf m.T m.n
 nP : ¬ F P
 nT : ¬ F Pf
 ne : P ≠ Pf
def Fm (F : Nat → Prop) (P Pf : Nat) (b : Nat) : Prop := F b ∨ b = P ∨ b = Pf
def ModB (w w' : World) (F : Nat → Prop) (P Pt Pf N : Nat) (m : MD) : Prop := ∃ y' F', ModM w' F' P Pt Pf N y' m ∧ Turn w w' (Fm F P Pf) (Fm F' P Pf)
section
variable {w w' : World} {F : Nat → Prop} {P Pt Pf N N' : Nat} {y : Lay} {m m' : MD}
theorem ModM.c0 (h : ModM w F P Pt Pf N y m) : w.cell? ⟨P, 0, none⟩ = some (.pointer (some ⟨Pt, 0, none⟩)) := by simp [World.cell?, h.head]
theorem ModM.c1 (h : ModM w F P Pt Pf N y m) : w.cell? ⟨P, 1, none⟩ = some (.pointer (some ⟨Pf, 0, none⟩)) := by simp [World.cell?, h.head]
theorem ModM.c2 (h : ModM w F P Pt Pf N y m) : w.cell? ⟨P, 2, none⟩ = some (.int .i64 m.n) := by simp [World.cell?, h.head]
theorem ModM.ltP (h : ModM w F P Pt Pf N y m) : P < w.heap.size := (Array.getElem?_eq_some_iff.1 h.head).1
theorem ModM.lt (h : ModM w F P Pt Pf N y m) : ∀ b, Fm F P Pf b → b < w.heap.size := by
 rintro b (h1 | rfl | rfl)
 · exact h.tree.lt b h1
 · exact h.ltP
 · exact h.tab.lt
theorem ModM.mono (h : ModM w F P Pt Pf N y m) (hN : N ≤ N') : ModM w F P Pt Pf N' y m := { h with tree := h.tree.mono hN }
theorem ModM.same (h : ModM w F P Pt Pf N y m) (hb : ∀ b, Fm F P Pf b → w'.heap[b]? = w.heap[b]?) (hs : w.heap.size ≤ w'.heap.size) : ModM w' F P Pt Pf N y m :=
 { h with
  head := (hb P (.inr (.inl rfl))).trans h.head
  tree := h.tree.same (fun b hF => hb b (.inl hF)) hs
  tab := h.tab.kept (hb Pf (.inr (.inr rfl))) }
theorem ModM.below (h : ModM w F P Pt Pf N y m) (hb : Below w.heap.size w w') : ModM w' F P Pt Pf N y m := h.same (fun b hF => hb.block b (h.lt b hF)) hb.size
theorem ModM.treeB (h : ModM w F P Pt Pf N y m) {t' : PT} (hB : Became w w' F Pt N' t') : ModB w w' F P Pt Pf N' { m with t := t' } := by
 obtain ⟨y', F', hT, hU⟩ := hB
 have hP := h.ltP
 have hf := h.tab.lt
 refine ⟨y', F', ⟨(hU.block P hP h.nP).trans h.head, hT, h.tab.kept (hU.block Pf hf h.nT), fun e => ?_, fun e => ?_, h.ne⟩, ⟨hU.os, hU.tape, hU.output, hU.size, fun b hb hF => hU.block b hb (fun e => hF (.inl e)), ?_⟩⟩
 · rcases hU.foot P e with h1 | h1
   · exact h.nP h1
   · omega
 · rcases hU.foot Pf e with h1 | h1
   · exact h.nT h1
   · omega
 · rintro b (h1 | h1)
   · exact (hU.foot b h1).imp .inl id
   · exact .inl (.inr h1)
theorem ModM.tabB (h : ModM w F P Pt Pf N y m) {T' : Nat → Int} (hT : Tab w' Pf T' m.n) (hg : w.grownBy w' (some Pf)) : ModB w w' F P Pt Pf N { m with T := T' } := by
 have hP := h.ltP
 have far : ∀ b, b < w.heap.size → b ≠ Pf → w'.heap[b]? = w.heap[b]? := fun b hb hne => hg.block b hb (fun e => hne (by injection e))
 refine ⟨y, F, ⟨(far P hP h.ne).trans h.head, h.tree.same (fun b hF => far b (h.tree.lt b hF) (fun e => h.nT (e ▸ hF))) hg.size, hT, h.nP, h.nT, h.ne⟩, ⟨hg.os, hg.tape, hg.output, hg.size, fun b hb hF => far b hb (fun e => hF (.inr (.inr e))), fun b hF => .inl hF⟩⟩
theorem ModM.keepB (h : ModM w F P Pt Pf N y m) (hb : Below w.heap.size w w') : ModB w w' F P Pt Pf N m := ⟨y, F, h.below hb, Turn.of_below _ hb⟩
theorem ModB.mono (h : ModB w w' F P Pt Pf N m) (hN : N ≤ N') : ModB w w' F P Pt Pf N' m := by
 obtain ⟨y', F', h1, h2⟩ := h
 exact ⟨y', F', h1.mono hN, h2⟩
theorem ModB.later {w0 : World} (h : ModB w0 w' F P Pt Pf N m) (hb : Below w.heap.size w w0) : ModB w w' F P Pt Pf N m := by
 obtain ⟨y', F', h1, h2⟩ := h
 exact ⟨y', F', h1, (Turn.of_below _ hb).trans h2⟩
theorem ModB.andBelow {w2 : World} (h : ModB w w' F P Pt Pf N m) (hb : Below w'.heap.size w' w2) : ModB w w2 F P Pt Pf N m := by
 obtain ⟨y', F', h1, h2⟩ := h
 exact ⟨y', F', h1.below hb, h2.trans (Turn.of_below _ hb)⟩
end
end
end Go.Proofs.YtpcnolkdnmolgaaGreatDoor
