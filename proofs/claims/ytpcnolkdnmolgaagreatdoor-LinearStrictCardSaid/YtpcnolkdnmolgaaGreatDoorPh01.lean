/- The questions of the program's tree: names, there, dirs. -/
import Derived.Test.YtpcnolkdnmolgaaGreatDoorPh00
import Derived.Deep.QuietTactic
import Derived.StillTailTactics
import Derived.RegionTactic
import Derived.ChangeAlike
import Derived.BigRegion
namespace Go.Proofs.YtpcnolkdnmolgaaGreatDoor
section
open Go.RowKit Go.Maps
theorem t_as (b : Bool) (e r : Int) (hr : (if b = true then e else 0) = r) (w : World) :
  Calls Tryz.prog 120 #[.bool b, .int .i64 e] w fun e' w' => e' = .returned (.int .i64 r) ∧ w = w' := by
 have HR := zz hr
 clear hr
 cases b <;>
 · go_enter Tryz.func120, Tryz.ntmps120
   go_wp2
   go_ret
   exact ⟨pret_i64 HR.out, rfl⟩
theorem t_isdir (Q : Nat) (k : Int) (r : Bool) (hr : (k == 2) = r) (w : World) (hc : w.cell? ⟨Q, 0, none⟩ = some (.int .u8 k)) :
  Calls Tryz.prog 125 #[.pointer (some ⟨Q, 0, none⟩)] w fun e w' => e = .returned (.bool r) ∧ w = w' := by
 have HR := zz hr
 clear hr
 go_enter Tryz.func125, Tryz.ntmps125
 go_wp2
 go_ret
 exact ⟨pret_bool HR.out, rfl⟩
theorem enters_names : Enters 240 := enters_of Tryz.func240 (by kernel_rfl) rfl
theorem enters_names1 : Enters 242 := enters_of Tryz.func242 (by kernel_rfl) rfl
theorem enters_there : Enters 119 := enters_of Tryz.func119 (by kernel_rfl) rfl
theorem enters_there1 : Enters 122 := enters_of Tryz.func122 (by kernel_rfl) rfl
theorem enters_dirs : Enters 123 := enters_of Tryz.func123 (by kernel_rfl) rfl
theorem enters_dirs1 : Enters 124 := enters_of Tryz.func124 (by kernel_rfl) rfl
def QPost (w : World) (r : Int) (e : Ending) (w' : World) : Prop := ∃ v, e = .returned v ∧ Question w' v r ∧ Below w.heap.size w w'
def badS : Value → Bool | .string s => !pnameB s | _ => false
theorem badS_mem {ss : List ByteArray} {x : Value} (hx : x ∈ ss.map Value.string) : ∃ s ∈ ss, x = .string s := by
 obtain ⟨s, h1, h2⟩ := List.mem_map.1 hx; exact ⟨s, h1, h2.symm⟩
theorem t_names11 (s : ByteArray) (r : Bool) (hr : (!pnameB s) = r) (w : World) (hs : s.size ≤ maxLen) :
  Calls Tryz.prog 242 #[.string s] w fun e w' => e = .returned (.bool r) ∧ Below w.heap.size w w' := by
 have HR : Hid ((nameE s != 0) = r) := by show _ = _; rw [← hr]; unfold nameE; cases pnameB s <;> rfl
 clear hr
 obtain ⟨q, hq⟩ : ∃ q, nameE s = q := ⟨_, rfl⟩
 rw [hq] at HR
 have HQ := zz hq
 clear hq
 go_enter Tryz.func242, Tryz.ntmps242
 go_wp2_with (go_at_call 105; refine (t_pname s _ HQ.out _ hs).mono ?_; rintro e w' ⟨rfl, hb⟩)
 go_ret
 exact ⟨pret_bool HR.out, hb⟩
theorem names_pred (ss : List ByteArray) (w : World) (hs : ∀ s ∈ ss, s.size ≤ maxLen) : PredV w 242 #[] badS (ss.map Value.string) := by
 intro W x hx _
 obtain ⟨s, h1, rfl⟩ := badS_mem hx
 exact t_names11 s _ rfl W (hs s h1)
def namesE (ss : List ByteArray) : Int := if (ss.any fun s => !pnameB s) = true then 2 else 0
theorem namesE_any (ss : List ByteArray) : (ss.map Value.string).any badS = ss.any fun s => !pnameB s := by rw [List.any_map]; rfl
theorem t_names1 (ss : List ByteArray) (B : Nat) (A : Option Addr) (c : Nat) (r : Int) (hr : namesE ss = r) (w : World) (hs : ∀ s ∈ ss, s.size ≤ maxLen) (hl : ss.length ≤ maxLen) (hc : w.cell? ⟨B, 0, none⟩ = some (.slice A ss.length c)) (hA : SliceAt w A (ss.map Value.string)) :
  Calls Tryz.prog 240 #[.pointer (some ⟨B, 0, none⟩)] w fun e w' => ∃ x, e = .returned (.int .i64 x) ∧ Quiet r w x w' := by
 have hcon := t_containsStr A ss.length c (ss.map Value.string) 242 #[] badS _ (namesE_any ss) w (by simp) hl hA enters_names1 (names_pred ss w hs)
 have hr' : (if (ss.any fun s => !pnameB s) = true then (2 : Int) else 0) = r := hr
 obtain ⟨b, hb⟩ : ∃ b, (ss.any fun s => !pnameB s) = b := ⟨_, rfl⟩
 rw [hb] at hcon hr'
 have HC := zz hcon
 have HR := zz hr'
 clear hr hr' hb hcon hA hs
 go_enter Tryz.func240, Tryz.ntmps240
 go_wp2_with (first | (go_at_call 241; refine HC.out.mono ?_; rintro e w' ⟨rfl, hb⟩) | (go_at_call 120; refine (t_as b 2 _ HR.out _).mono ?_; rintro e w' ⟨rfl, rfl⟩))
 go_ret
 exact ⟨r, rfl, rfl, hb⟩
theorem t_names (ss : List ByteArray) (A : Option Addr) (n c : Nat) (r : Int) (hr : namesE ss = r) (w : World) (hn : ss.length = n) (hs : ∀ s ∈ ss, s.size ≤ maxLen) (hl : ss.length ≤ maxLen) (hA : SliceAt w A (ss.map Value.string)) :
  Calls Tryz.prog 181 #[.slice A n c] w (QPost w r) := by
 subst hn
 have HR := zz hr
 have HS := zz hs
 have HA := zz hA
 have HL := zz hl
 clear hr hs hA hl
 go_enter Tryz.func181, Tryz.ntmps181
 go_wp2
 go_ret
 have hb : Below w.heap.size w (w.alloc (.cells #[.slice A ss.length c] 152)) := (Below.refl _ _).alloc (Nat.le_refl _) _
 refine ⟨_, rfl, ⟨240, _, rfl, enters_names, fun W hW => ?_⟩, hb⟩
 exact t_names1 ss w.heap.size A c r HR.out W HS.out HL.out ((hW.cell (p := ⟨w.heap.size, 0, none⟩) (by simp)).trans (by simp [World.cell?_alloc_new])) (HA.out.below (ptrans hb hW))
def U32 (i : Int) : Prop := 0 ≤ i ∧ i ≤ 4294967295
def noneV (t : PT) : Value → Bool | .int _ i => (t.n i).isNone | _ => false
def isFile (t : PT) (i : Int) : Bool := match t.n i with | some x => x.kind != 2 | none => false
def fileV (t : PT) : Value → Bool | .int _ i => isFile t i | _ => false
theorem u32_mem {is : List Int} {x : Value} (hx : x ∈ is.map (Value.int .u32)) : ∃ i ∈ is, x = .int .u32 i := by
 obtain ⟨s, h1, h2⟩ := List.mem_map.1 hx; exact ⟨s, h1, h2.symm⟩
section
variable {F : Nat → Prop} {P N : Nat} {y : Lay} {t : PT}
theorem t_there11 (i : Int) (B : Nat) (r : Bool) (hr : (t.n i).isNone = r) (w : World) (h : TreeM w F P N y t) (hi : U32 i) (hc : w.cell? ⟨B, 0, none⟩ = some (.pointer (some ⟨P, 0, none⟩))) :
  Calls Tryz.prog 122 #[.int .u32 i, .pointer (some ⟨B, 0, none⟩)] w fun e w' => e = .returned (.bool r) ∧ w = w' := by
 have c1 := h.c1
 cases hx : t.n i with
 | none =>
  have hl := h.look_none hi hx
  have HR : Hid (true = r) := by show _ = _; rw [← hr, hx]; rfl
  clear hr hx h
  go_enter Tryz.func122, Tryz.ntmps122
  go_wp2
  go_ret
  exact ⟨pret_bool HR.out, rfl⟩
 | some x =>
  have hl := h.look_some hx
  have HR : Hid (false = r) := by show _ = _; rw [← hr, hx]; rfl
  clear hr hx h
  go_enter Tryz.func122, Tryz.ntmps122
  go_wp2
  go_ret
  exact ⟨pret_bool HR.out, rfl⟩
theorem t_dirs11 (i : Int) (B : Nat) (x : PN) (r : Bool) (hr : (x.kind != 2) = r) (w : World) (h : TreeM w F P N y t) (hx : t.n i = some x) (hc : w.cell? ⟨B, 0, none⟩ = some (.pointer (some ⟨P, 0, none⟩))) :
  Calls Tryz.prog 124 #[.int .u32 i, .pointer (some ⟨B, 0, none⟩)] w fun e w' => e = .returned (.bool r) ∧ w = w' := by
 have c1 := h.c1
 have hl := h.look_some hx
 have k0 := (h.node i x hx).cell 0
 obtain ⟨d, hd⟩ : ∃ d, (x.kind == 2) = d := ⟨_, rfl⟩
 have HD := zz hd
 have HR : Hid ((!d) = r) := by show _ = _; rw [← hr, ← hd]; rfl
 have HK : Hid (w.cell? ⟨y.f i, 0, none⟩ = some (.int .u8 x.kind)) := k0
 clear hr hx h hd k0
 go_enter Tryz.func124, Tryz.ntmps124
 go_wp2_with (go_at_call 125; refine (t_isdir (y.f i) x.kind d HD.out _ HK.out).mono ?_; rintro e w' ⟨rfl, rfl⟩)
 go_ret
 exact ⟨pret_bool HR.out, rfl⟩
def thereE (t : PT) (is : List Int) : Int := if (is.any fun i => (t.n i).isNone) = true then 3 else 0
def dirsE (t : PT) (is : List Int) : Int := if (is.any (isFile t)) = true then 180 else 0
theorem there_pred (is : List Int) (B : Nat) (w : World) (h : TreeM w F P N y t) (hi : ∀ i ∈ is, U32 i) (hB : B < w.heap.size) (hc : w.cell? ⟨B, 0, none⟩ = some (.pointer (some ⟨P, 0, none⟩))) :
  PredV w 122 #[.pointer (some ⟨B, 0, none⟩)] (noneV t) (is.map (Value.int .u32)) := by
 intro W x hx hW
 obtain ⟨i, h1, rfl⟩ := u32_mem hx
 refine (t_there11 i B _ rfl W (h.below hW) (hi i h1) ((hW.cell (p := ⟨B, 0, none⟩) hB).trans hc)).mono ?_
 rintro e W' ⟨rfl, rfl⟩
 exact ⟨rfl, Below.refl _ _⟩
theorem dirs_pred (is : List Int) (B : Nat) (w : World) (h : TreeM w F P N y t) (hi : ∀ i ∈ is, (t.n i).isSome = true) (hB : B < w.heap.size) (hc : w.cell? ⟨B, 0, none⟩ = some (.pointer (some ⟨P, 0, none⟩))) :
  PredV w 124 #[.pointer (some ⟨B, 0, none⟩)] (fileV t) (is.map (Value.int .u32)) := by
 intro W x hx hW
 obtain ⟨i, h1, rfl⟩ := u32_mem hx
 obtain ⟨z, hz⟩ := Option.isSome_iff_exists.1 (hi i h1)
 refine (t_dirs11 i B z _ rfl W (h.below hW) hz ((hW.cell (p := ⟨B, 0, none⟩) hB).trans hc)).mono ?_
 rintro e W' ⟨rfl, rfl⟩
 exact ⟨by simp [fileV, isFile, hz], Below.refl _ _⟩
theorem t_there1 (is : List Int) (B1 B2 : Nat) (A : Option Addr) (c : Nat) (r : Int) (hr : thereE t is = r) (w : World) (h : TreeM w F P N y t) (hi : ∀ i ∈ is, U32 i) (hl : is.length ≤ maxLen)
  (hc : w.cell? ⟨B1, 0, none⟩ = some (.slice A is.length c)) (hB : B2 < w.heap.size) (hc2 : w.cell? ⟨B2, 0, none⟩ = some (.pointer (some ⟨P, 0, none⟩))) (hA : SliceAt w A (is.map (Value.int .u32))) :
  Calls Tryz.prog 119 #[.pointer (some ⟨B1, 0, none⟩), .pointer (some ⟨B2, 0, none⟩)] w fun e w' => ∃ x, e = .returned (.int .i64 x) ∧ Quiet r w x w' := by
 have hcon := t_containsU32 A is.length c (is.map (Value.int .u32)) 122 #[.pointer (some ⟨B2, 0, none⟩)] (noneV t) (is.any fun i => (t.n i).isNone) (by rw [List.any_map]; rfl) w (by simp) hl hA enters_there1 (there_pred is B2 w h hi hB hc2)
 have hr' : (if (is.any fun i => (t.n i).isNone) = true then (3 : Int) else 0) = r := hr
 obtain ⟨b, hb⟩ : ∃ b, (is.any fun i => (t.n i).isNone) = b := ⟨_, rfl⟩
 rw [hb] at hcon hr'
 have HC := zz hcon
 have HR := zz hr'
 clear hr hr' hb hcon hA hi h
 go_enter Tryz.func119, Tryz.ntmps119
 go_wp2_with (first | (go_at_call 121; refine HC.out.mono ?_; rintro e w' ⟨rfl, hb⟩) | (go_at_call 120; refine (t_as b 3 _ HR.out _).mono ?_; rintro e w' ⟨rfl, rfl⟩))
 go_ret
 exact ⟨r, rfl, rfl, hb⟩
theorem t_dirs1 (is : List Int) (B1 B2 : Nat) (A : Option Addr) (c : Nat) (r : Int) (hr : dirsE t is = r) (w : World) (h : TreeM w F P N y t) (hi : ∀ i ∈ is, (t.n i).isSome = true) (hl : is.length ≤ maxLen)
  (hc : w.cell? ⟨B1, 0, none⟩ = some (.slice A is.length c)) (hB : B2 < w.heap.size) (hc2 : w.cell? ⟨B2, 0, none⟩ = some (.pointer (some ⟨P, 0, none⟩))) (hA : SliceAt w A (is.map (Value.int .u32))) :
  Calls Tryz.prog 123 #[.pointer (some ⟨B1, 0, none⟩), .pointer (some ⟨B2, 0, none⟩)] w fun e w' => ∃ x, e = .returned (.int .i64 x) ∧ Quiet r w x w' := by
 have hcon := t_containsU32 A is.length c (is.map (Value.int .u32)) 124 #[.pointer (some ⟨B2, 0, none⟩)] (fileV t) (is.any (isFile t)) (by rw [List.any_map]; rfl) w (by simp) hl hA enters_dirs1 (dirs_pred is B2 w h hi hB hc2)
 have hr' : (if (is.any (isFile t)) = true then (180 : Int) else 0) = r := hr
 obtain ⟨b, hb⟩ : ∃ b, (is.any (isFile t)) = b := ⟨_, rfl⟩
 rw [hb] at hcon hr'
 have HC := zz hcon
 have HR := zz hr'
 clear hr hr' hb hcon hA hi h
 go_enter Tryz.func123, Tryz.ntmps123
 go_wp2_with (first | (go_at_call 121; refine HC.out.mono ?_; rintro e w' ⟨rfl, hb⟩) | (go_at_call 120; refine (t_as b 180 _ HR.out _).mono ?_; rintro e w' ⟨rfl, rfl⟩))
 go_ret
 exact ⟨r, rfl, rfl, hb⟩
theorem two_boxes (w : World) (v1 v2 : Value) (T1 T2 : TypeId) : Below w.heap.size w ((w.alloc (.cells #[v1] T1)).alloc (.cells #[v2] T2)) ∧
  ((w.alloc (.cells #[v1] T1)).alloc (.cells #[v2] T2)).cell? ⟨w.heap.size, 0, none⟩ = some v1 ∧ ((w.alloc (.cells #[v1] T1)).alloc (.cells #[v2] T2)).cell? ⟨w.heap.size + 1, 0, none⟩ = some v2 ∧
  ((w.alloc (.cells #[v1] T1)).alloc (.cells #[v2] T2)).heap.size = w.heap.size + 2 := by
 refine ⟨((Below.refl _ _).alloc (Nat.le_refl _) _).alloc (by simp) _, ?_, ?_, by simp⟩
 · rw [World.cell?_alloc_lt _ _ _ (by simp)]; simp [World.cell?_alloc_new]
 · have e : (w.alloc (.cells #[v1] T1)).heap.size = w.heap.size + 1 := by simp
   rw [← e]; simp
theorem t_there (is : List Int) (A : Option Addr) (n c : Nat) (r : Int) (hr : thereE t is = r) (w : World) (h : TreeM w F P N y t) (hn : is.length = n) (hi : ∀ i ∈ is, U32 i) (hl : is.length ≤ maxLen) (hA : SliceAt w A (is.map (Value.int .u32))) :
  Calls Tryz.prog 81 #[.pointer (some ⟨P, 0, none⟩), .slice A n c] w (QPost w r) := by
 subst hn
 have HR := zz hr
 have HS := zz hi
 have HA := zz hA
 have HL := zz hl
 have HT := zz h
 clear hr hi hA hl h
 go_enter Tryz.func81, Tryz.ntmps81
 go_wp2
 go_ret
 obtain ⟨hb, k1, k2, ks⟩ := two_boxes w (.pointer (some ⟨P, 0, none⟩)) (.slice A is.length c) 43 47
 refine ⟨_, rfl, ⟨119, _, rfl, enters_there, fun W hW => ?_⟩, hb⟩
 have hs := hW.size
 exact t_there1 is (w.heap.size + 1) w.heap.size A c r HR.out W (HT.out.below (ptrans hb hW)) HS.out HL.out ((hW.cell (p := ⟨w.heap.size + 1, 0, none⟩) (by rw [ks]; exact Nat.lt_succ_self _)).trans k2) (by omega) ((hW.cell (p := ⟨w.heap.size, 0, none⟩) (by rw [ks]; show w.heap.size < _; omega)).trans k1) (HA.out.below (ptrans hb hW))
theorem t_dirs (is : List Int) (A : Option Addr) (n c : Nat) (r : Int) (hr : dirsE t is = r) (w : World) (h : TreeM w F P N y t) (hn : is.length = n) (hi : ∀ i ∈ is, (t.n i).isSome = true) (hl : is.length ≤ maxLen) (hA : SliceAt w A (is.map (Value.int .u32))) :
  Calls Tryz.prog 82 #[.pointer (some ⟨P, 0, none⟩), .slice A n c] w (QPost w r) := by
 subst hn
 have HR := zz hr
 have HS := zz hi
 have HA := zz hA
 have HL := zz hl
 have HT := zz h
 clear hr hi hA hl h
 go_enter Tryz.func82, Tryz.ntmps82
 go_wp2
 go_ret
 obtain ⟨hb, k1, k2, ks⟩ := two_boxes w (.pointer (some ⟨P, 0, none⟩)) (.slice A is.length c) 43 47
 refine ⟨_, rfl, ⟨123, _, rfl, enters_dirs, fun W hW => ?_⟩, hb⟩
 have hs := hW.size
 exact t_dirs1 is (w.heap.size + 1) w.heap.size A c r HR.out W (HT.out.below (ptrans hb hW)) HS.out HL.out ((hW.cell (p := ⟨w.heap.size + 1, 0, none⟩) (by rw [ks]; exact Nat.lt_succ_self _)).trans k2) (by omega) ((hW.cell (p := ⟨w.heap.size, 0, none⟩) (by rw [ks]; show w.heap.size < _; omega)).trans k1) (HA.out.below (ptrans hb hW))
end
end

section
open Go.RowKit Go.Maps
theorem pbelow_drewN {B : Nat} {a w : World} (h : Below B a w) (n : Nat) : Below B a (w.drewN n) := ⟨h.os, h.tape, h.output, h.size, h.block⟩
theorem quiet_eq {P : Program} {f : FuncId} {args : Array Value} {w : World} {n : Nat} {v : Value}
  (h : Calls P f args (w.drewN n) fun e w' => e = .returned v ∧ w.drewN n = w') : Calls P f args (w.drewN n) fun e w'' => e = .returned v ∧ ∃ m, w'' = w.drewN m :=
 h.mono fun _ _ ⟨he, hm⟩ => ⟨he, n, hm.symm⟩
def AQ (r : Int) (w : World) (e : Ending) (w' : World) : Prop := ∃ x, e = .returned (.int .i64 x) ∧ Quiet r w x w'
theorem AQ.mk {r : Int} {w w' : World} {a : Int} (h : a = r) (hb : Below w.heap.size w w') : AQ r w (.returned (.int .i64 a)) w' := ⟨a, rfl, h, hb⟩
def kindsE (k : Int) : Int := if (k != 1 && k != 2) = true then 2 else 0
theorem t_kinds1 (B : Nat) (k r : Int) (hr : kindsE k = r) (w : World) (hc : w.cell? ⟨B, 0, none⟩ = some (.int .u8 k)) :
  Calls Tryz.prog 243 #[.pointer (some ⟨B, 0, none⟩)] w (AQ r w) := by
 cases h1 : (k != 1) with
 | false =>
  have HR : Hid ((if false = true then (2 : Int) else 0) = r) := by show _ = _; rw [← hr]; simp [kindsE, h1]
  clear hr
  go_enter Tryz.func243, Tryz.ntmps243
  go_wp2_with (go_at_call 120; refine (t_as false 2 _ HR.out _).mono ?_; rintro e w' ⟨rfl, rfl⟩)
  go_ret
  exact AQ.mk rfl (Below.refl _ _)
 | true =>
  obtain ⟨b, hb⟩ : ∃ b, (k != 2) = b := ⟨_, rfl⟩
  have HR : Hid ((if b = true then (2 : Int) else 0) = r) := by show _ = _; rw [← hr]; simp [kindsE, h1, hb]
  clear hr
  go_enter Tryz.func243, Tryz.ntmps243
  go_wp2_with (go_at_call 120; refine (t_as b 2 _ HR.out _).mono ?_; rintro e w' ⟨rfl, rfl⟩)
  go_ret
  exact AQ.mk rfl (Below.refl _ _)
def pagedE (p : Int) : Int := if p < 0 ∨ 36 ≤ p then 2 else 0
theorem t_paged1 (B : Nat) (p r : Int) (hr : pagedE p = r) (w : World) (hc : w.cell? ⟨B, 0, none⟩ = some (.int .i64 p)) :
  Calls Tryz.prog 132 #[.pointer (some ⟨B, 0, none⟩)] w (AQ r w) := by
 by_cases h1 : p < 0
 · have HR : Hid ((if true = true then (2 : Int) else 0) = r) := by show _ = _; rw [← hr]; simp [pagedE, h1]
   clear hr
   go_enter Tryz.func132, Tryz.ntmps132
   go_wp2_with (go_at_call 120; refine (t_as true 2 _ HR.out _).mono ?_; rintro e w' ⟨rfl, rfl⟩)
   go_ret
   exact AQ.mk rfl (Below.refl _ _)
 · obtain ⟨b, hb⟩ : ∃ b, decide (36 ≤ p) = b := ⟨_, rfl⟩
   have HR : Hid ((if b = true then (2 : Int) else 0) = r) := by
    show _ = _; rw [← hr, ← hb]; simp [pagedE, h1]
   clear hr
   go_enter Tryz.func132, Tryz.ntmps132
   go_wp2_with (go_at_call 120; refine (t_as b 2 _ HR.out _).mono ?_; rintro e w' ⟨rfl, rfl⟩)
   go_ret
   exact AQ.mk rfl (Below.refl _ _)
def sizedE (n : Int) : Int := if 2304 < n then 2 else 0
theorem t_resize1 (B : Nat) (n r : Int) (hr : sizedE n = r) (w : World) (hc : w.cell? ⟨B, 0, none⟩ = some (.int .u32 n)) :
  Calls Tryz.prog 187 #[.pointer (some ⟨B, 0, none⟩)] w (AQ r w) := by
 obtain ⟨b, hb⟩ : ∃ b, decide (2304 < n) = b := ⟨_, rfl⟩
 have HR : Hid ((if b = true then (2 : Int) else 0) = r) := by
  show _ = _; rw [← hr, ← hb]; unfold sizedE; simp
 clear hr
 go_enter Tryz.func187, Tryz.ntmps187
 go_wp2_with (go_at_call 120; refine (t_as b 2 _ HR.out _).mono ?_; rintro e w' ⟨rfl, rfl⟩)
 go_ret
 exact AQ.mk rfl (Below.refl _ _)
def dataE (d : ByteArray) : Int := if d.size = 0 ∨ 64 < d.size then 2 else 0
theorem t_write1 (B : Nat) (d : ByteArray) (r : Int) (hr : dataE d = r) (w : World) (hd : d.size ≤ maxLen) (hc : w.cell? ⟨B, 0, none⟩ = some (.string d)) :
  Calls Tryz.prog 186 #[.pointer (some ⟨B, 0, none⟩)] w (AQ r w) := by
 unfold maxLen at hd
 have hl := ptoList_length d
 by_cases h1 : d.size = 0
 · have h2 : (d.toList == []) = true := by rw [List.eq_nil_of_length_eq_zero (hl.trans h1)]; rfl
   have HR : Hid ((if true = true then (2 : Int) else 0) = r) := by show _ = _; rw [← hr]; simp [dataE, h1]
   clear hr hl h1
   go_enter Tryz.func186, Tryz.ntmps186
   go_wp2_with (go_at_call 120; refine (t_as true 2 _ HR.out _).mono ?_; rintro e w' ⟨rfl, rfl⟩)
   go_ret
   exact AQ.mk rfl (Below.refl _ _)
 · have h2 : (d.toList == []) = false := by
    rw [Bool.eq_false_iff]; intro h
    have : d.toList = [] := by simpa using h
    rw [this] at hl; simp at hl; omega
   obtain ⟨b, hb⟩ : ∃ b, decide (64 < d.size) = b := ⟨_, rfl⟩
   have hb2 : decide (64 < (d.size : Int)) = b := by rw [← hb, decide_eq_decide]; omega
   have HR : Hid ((if b = true then (2 : Int) else 0) = r) := by
    show _ = _; rw [← hr, ← hb]; simp [dataE, h1]
   clear hr hl h1
   go_enter Tryz.func186, Tryz.ntmps186
   go_wp2_with (go_at_call 120; refine (t_as b 2 _ HR.out _).mono ?_; rintro e w' ⟨rfl, rfl⟩)
   go_ret
   exact AQ.mk rfl (Below.refl _ _)
section
variable {F : Nat → Prop} {P N : Nat} {y : Lay} {t : PT}
def fileQE (x : PN) : Int := if (x.kind == 2) = true then 181 else 0
theorem t_file1 (i : Int) (x : PN) (B1 B2 : Nat) (r : Int) (hr : fileQE x = r) (w : World) (h : TreeM w F P N y t) (hx : t.n i = some x) (hc1 : w.cell? ⟨B1, 0, none⟩ = some (.pointer (some ⟨P, 0, none⟩))) (hc2 : w.cell? ⟨B2, 0, none⟩ = some (.int .u32 i)) :
  Calls Tryz.prog 131 #[.pointer (some ⟨B1, 0, none⟩), .pointer (some ⟨B2, 0, none⟩)] w (AQ r w) := by
 have c1 := h.c1
 have hl : ∀ n, (Instr.lookup 106 (.map (some y.M)) (.int .u32 i) false).run Tryz.prog (w.drewN n) = .ok (.pointer (some ⟨y.f i, 0, none⟩)) (w.drewN n) := fun n => (h.below (pbelow_drewN (Below.refl _ _) n)).look_some hx
 have k0 := (h.node i x hx).cell 0
 obtain ⟨d, hd⟩ : ∃ d, (x.kind == 2) = d := ⟨_, rfl⟩
 have HD := zz hd
 have HR : Hid ((if d = true then (181 : Int) else 0) = r) := by show _ = _; rw [← hr, ← hd]; rfl
 have HK : Hid (∀ n, (w.drewN n).cell? ⟨y.f i, 0, none⟩ = some (.int .u8 x.kind)) := fun _ => k0
 clear hr hx h hd k0
 go_enter Tryz.func131, Tryz.ntmps131
 go_wp2
 go_quiet ((first | (go_at_call 125; exact quiet_eq (t_isdir (y.f i) x.kind d HD.out _ (HK.out _))) | (go_at_call 120; exact quiet_eq (t_as d 181 _ HR.out _))))
 go_wp2
 go_ret
 exact AQ.mk rfl (pbelow_drewN (Below.refl _ _) _)
end
end

section
open Go.RowKit Go.Maps
theorem pgrown_set (w : World) (G j : Nat) (v : Value) : w.grownBy (w.setCell ⟨G, j, none⟩ v) (some G) :=
 ⟨rfl, rfl, rfl, by simp [World.setCell], fun i _ hne => Below.heap_setCell w ⟨G, j, none⟩ v i (fun e => hne (by rw [e]))⟩
theorem pgrown_drew {a b : World} {r : Option Nat} (h : a.grownBy b r) : a.grownBy b.drew r := ⟨h.os, h.tape, h.output, h.size, h.block⟩
theorem pgrown_trans {a b c : World} {r : Option Nat} (h : a.grownBy b r) (k : b.grownBy c r) : a.grownBy c r :=
 ⟨k.os.trans h.os, k.tape.trans h.tape, k.output.trans h.output, Nat.le_trans h.size k.size, fun i hi hne => (k.block i (Nat.lt_of_lt_of_le hi h.size) hne).trans (h.block i hi hne)⟩
theorem pheap_set (w : World) (G j : Nat) (v : Value) (cs : Array Value) (t : TypeId) (h : w.heap[G]? = some (.cells cs t (0, 0))) : (w.setCell ⟨G, j, none⟩ v).heap[G]? = some (.cells (cs.setIfInBounds j v) t (0, 0)) := by
 simp [World.setCell, Array.getElem?_modify, h]
section
variable {F : Nat → Prop} {P N : Nat} {y : Lay} {t : PT}
theorem TreeM.drewN {w : World} (h : TreeM w F P N y t) (n : Nat) : TreeM (w.drewN n) F P N y t := h.below (pbelow_drewN (Below.refl _ _) n)
def freshE (x : PN) (s : ByteArray) : Int := if ((x.l s.data.toList).getD 0 != 0) = true then 9 else 0
theorem t_fresh1 (i : Int) (x : PN) (s : ByteArray) (B1 B2 B3 : Nat) (r : Int) (hr : freshE x s = r) (w : World) (h : TreeM w F P N y t) (hx : t.n i = some x) (hs : s.size ≤ maxLen)
  (hc1 : w.cell? ⟨B1, 0, none⟩ = some (.pointer (some ⟨P, 0, none⟩))) (hc2 : w.cell? ⟨B2, 0, none⟩ = some (.int .u32 i)) (hc3 : w.cell? ⟨B3, 0, none⟩ = some (.string s)) :
  Calls Tryz.prog 244 #[.pointer (some ⟨B1, 0, none⟩), .pointer (some ⟨B2, 0, none⟩), .pointer (some ⟨B3, 0, none⟩)] w (AQ r w) := by
 have c1 := h.c1
 have hl : ∀ n, (Instr.lookup 106 (.map (some y.M)) (.int .u32 i) false).run Tryz.prog (w.drewN n) = .ok (.pointer (some ⟨y.f i, 0, none⟩)) (w.drewN n) := fun n => (h.drewN n).look_some hx
 have hl2 : ∀ n, (Instr.lookup 112 (.map (some (y.L i))) (.string s) false).run Tryz.prog (w.drewN n) = .ok (.int .u32 ((x.l s.data.toList).getD 0)) (w.drewN n) := fun n => ((h.drewN n).node i x hx).look hs
 have k3 : w.cell? ⟨y.f i, 3, none⟩ = some (.map (some (y.L i))) := (h.node i x hx).cell 3
 have hr' : (if ((x.l s.data.toList).getD 0 != 0) = true then (9 : Int) else 0) = r := hr
 obtain ⟨v, hv⟩ : ∃ v, (x.l s.data.toList).getD 0 = v := ⟨_, rfl⟩
 rw [hv] at hr' hl2
 obtain ⟨d, hd⟩ : ∃ d, (v != 0) = d := ⟨_, rfl⟩
 rw [hd] at hr'
 have HR := zz hr'
 clear hr hr' hx h hv
 go_enter Tryz.func244, Tryz.ntmps244
 go_wp2
 go_quiet ((go_at_call 120; exact quiet_eq (t_as d 9 _ HR.out _)))
 go_wp2
 go_ret
 exact AQ.mk rfl (pbelow_drewN (Below.refl _ _) _)
def roomE (t : PT) (i : Int) : Int := if i < 1 ∨ t.room < i then 2 else 0
theorem t_makeAt1 (i : Int) (B1 B2 : Nat) (r : Int) (hr : roomE t i = r) (w : World) (h : TreeM w F P N y t)
  (hc1 : w.cell? ⟨B1, 0, none⟩ = some (.int .u32 i)) (hc2 : w.cell? ⟨B2, 0, none⟩ = some (.pointer (some ⟨P, 0, none⟩))) :
  Calls Tryz.prog 245 #[.pointer (some ⟨B1, 0, none⟩), .pointer (some ⟨B2, 0, none⟩)] w (AQ r w) := by
 have c0 := h.c0
 by_cases h1 : i < 1
 · have HR : Hid ((if true = true then (2 : Int) else 0) = r) := by show _ = _; rw [← hr]; simp [roomE, h1]
   have g1 : decide (i < 1) = true := by simpa using h1
   clear hr h
   go_enter Tryz.func245, Tryz.ntmps245
   go_wp2
   go_quiet ((go_at_call 120; exact quiet_eq (t_as true 2 _ HR.out _)))
   go_wp2
   go_ret
   exact AQ.mk rfl (pbelow_drewN (Below.refl _ _) _)
 · have g1 : decide (i < 1) = false := by simpa using h1
   obtain ⟨b, hb⟩ : ∃ b, decide (t.room < i) = b := ⟨_, rfl⟩
   have HR : Hid ((if b = true then (2 : Int) else 0) = r) := by show _ = _; rw [← hr, ← hb]; simp [roomE, h1]
   clear hr h
   go_enter Tryz.func245, Tryz.ntmps245
   go_wp2
   go_quiet ((go_at_call 120; exact quiet_eq (t_as b 2 _ HR.out _)))
   go_wp2
   go_ret
   exact AQ.mk rfl (pbelow_drewN (Below.refl _ _) _)
def haveE (t : PT) (i : Int) : Int := if (t.n i).isSome = true then 9 else 0
theorem t_makeAt2 (i : Int) (B1 B2 : Nat) (r : Int) (hr : haveE t i = r) (w : World) (h : TreeM w F P N y t) (hi : U32 i)
  (hc1 : w.cell? ⟨B1, 0, none⟩ = some (.pointer (some ⟨P, 0, none⟩))) (hc2 : w.cell? ⟨B2, 0, none⟩ = some (.int .u32 i)) :
  Calls Tryz.prog 246 #[.pointer (some ⟨B1, 0, none⟩), .pointer (some ⟨B2, 0, none⟩)] w (AQ r w) := by
 have c1 := h.c1
 cases hx : t.n i with
 | none =>
  have hl : ∀ n, (Instr.lookup 106 (.map (some y.M)) (.int .u32 i) false).run Tryz.prog (w.drewN n) = .ok (.pointer none) (w.drewN n) := fun n => (h.drewN n).look_none hi hx
  have HR : Hid ((if false = true then (9 : Int) else 0) = r) := by show _ = _; rw [← hr]; simp [haveE, hx]
  clear hr hx h
  go_enter Tryz.func246, Tryz.ntmps246
  go_wp2
  go_quiet ((go_at_call 120; exact quiet_eq (t_as false 9 _ HR.out _)))
  go_wp2
  go_ret
  exact AQ.mk rfl (pbelow_drewN (Below.refl _ _) _)
 | some x =>
  have hl : ∀ n, (Instr.lookup 106 (.map (some y.M)) (.int .u32 i) false).run Tryz.prog (w.drewN n) = .ok (.pointer (some ⟨y.f i, 0, none⟩)) (w.drewN n) := fun n => (h.drewN n).look_some hx
  have HR : Hid ((if true = true then (9 : Int) else 0) = r) := by show _ = _; rw [← hr]; simp [haveE, hx]
  clear hr hx h
  go_enter Tryz.func246, Tryz.ntmps246
  go_wp2
  go_quiet ((go_at_call 120; exact quiet_eq (t_as true 9 _ HR.out _)))
  go_wp2
  go_ret
  exact AQ.mk rfl (pbelow_drewN (Below.refl _ _) _)
def linksE (x : PN) : Int := if 200 ≤ x.links then 184 else 0
theorem t_link1 (i : Int) (x : PN) (B1 B2 : Nat) (r : Int) (hr : linksE x = r) (w : World) (h : TreeM w F P N y t) (hx : t.n i = some x)
  (hc1 : w.cell? ⟨B1, 0, none⟩ = some (.pointer (some ⟨P, 0, none⟩))) (hc2 : w.cell? ⟨B2, 0, none⟩ = some (.int .u32 i)) :
  Calls Tryz.prog 190 #[.pointer (some ⟨B1, 0, none⟩), .pointer (some ⟨B2, 0, none⟩)] w (AQ r w) := by
 have c1 := h.c1
 have hl : ∀ n, (Instr.lookup 106 (.map (some y.M)) (.int .u32 i) false).run Tryz.prog (w.drewN n) = .ok (.pointer (some ⟨y.f i, 0, none⟩)) (w.drewN n) := fun n => (h.drewN n).look_some hx
 have k1 : w.cell? ⟨y.f i, 1, none⟩ = some (.int .i64 x.links) := (h.node i x hx).cell 1
 obtain ⟨b, hb⟩ : ∃ b, decide (200 ≤ x.links) = b := ⟨_, rfl⟩
 have HR : Hid ((if b = true then (184 : Int) else 0) = r) := by show _ = _; rw [← hr, ← hb]; simp [linksE]
 clear hr hx h
 go_enter Tryz.func190, Tryz.ntmps190
 go_wp2
 go_quiet ((go_at_call 120; exact quiet_eq (t_as b 184 _ HR.out _)))
 go_wp2
 go_ret
 exact AQ.mk rfl (pbelow_drewN (Below.refl _ _) _)
def Puts (B : Nat) (v r : Int) : World → Int → World → Prop := fun W x W' => x = r ∧ W.grownBy W' (some B) ∧ ∃ v0, W'.heap[B]? = some (.cells #[v0] 29 (0, 0)) ∧ v0 = .int .u32 v
theorem t_look1 (i : Int) (x : PN) (s : ByteArray) (B1 B2 B3 B4 : Nat) (v0 : Value) (v r : Int) (hv : (x.l s.data.toList).getD 0 = v) (hr : (if v = 0 then 3 else 0) = r) (w : World) (h : TreeM w F P N y t) (hx : t.n i = some x) (hs : s.size ≤ maxLen)
  (hc1 : w.cell? ⟨B1, 0, none⟩ = some (.pointer (some ⟨P, 0, none⟩))) (hc2 : w.cell? ⟨B2, 0, none⟩ = some (.int .u32 i)) (hc3 : w.cell? ⟨B3, 0, none⟩ = some (.string s)) (hc4 : w.heap[B4]? = some (.cells #[v0] 29 (0, 0))) :
  Calls Tryz.prog 234 #[.pointer (some ⟨B1, 0, none⟩), .pointer (some ⟨B2, 0, none⟩), .pointer (some ⟨B3, 0, none⟩), .pointer (some ⟨B4, 0, none⟩)] w fun e w' => ∃ x, e = .returned (.int .i64 x) ∧ Puts B4 v r w x w' := by
 have c1 := h.c1
 have hl : ∀ n, (Instr.lookup 106 (.map (some y.M)) (.int .u32 i) false).run Tryz.prog (w.drewN n) = .ok (.pointer (some ⟨y.f i, 0, none⟩)) (w.drewN n) := fun n => (h.drewN n).look_some hx
 have hl2 : ∀ n, (Instr.lookup 112 (.map (some (y.L i))) (.string s) false).run Tryz.prog (w.drewN n) = .ok (.int .u32 v) (w.drewN n) := fun n => by rw [← hv]; exact ((h.drewN n).node i x hx).look hs
 have hl' : (Instr.lookup 106 (.map (some y.M)) (.int .u32 i) false).run Tryz.prog w.drew = .ok (.pointer (some ⟨y.f i, 0, none⟩)) w.drew := hl 1
 have hl2' : (Instr.lookup 112 (.map (some (y.L i))) (.string s) false).run Tryz.prog w.drew = .ok (.int .u32 v) w.drew := hl2 1
 have k3 : w.cell? ⟨y.f i, 3, none⟩ = some (.map (some (y.L i))) := (h.node i x hx).cell 3
 have hc5 : w.cell? ⟨B4, 0, none⟩ = some v0 := by simp [World.cell?, hc4]
 have hf : w.frozen? ⟨B4, 0, none⟩ = false := by simp [World.frozen?, hc4]
 obtain ⟨d, hd⟩ : ∃ d, (v == 0) = d := ⟨_, rfl⟩
 have HR : Hid ((if d = true then (3 : Int) else 0) = r) := by show _ = _; rw [← hr, ← hd]; simp
 have H4 := zz hc4
 clear hr hx h hv hl hl2 hc4
 go_enter Tryz.func234, Tryz.ntmps234
 go_wp2
 go_region
 go_wp2_with (go_at_call 120; refine (t_as d 3 _ HR.out _).mono ?_; rintro e w' ⟨rfl, rfl⟩)
 go_ret
 exact ⟨r, rfl, rfl, pgrown_drew (pgrown_set _ _ _ _), _, pheap_set _ _ _ _ _ _ H4.out, rfl⟩
def boxN (w : World) (B : Nat) : Nat := match w.cell? ⟨B, 0, none⟩ with | some (.int _ n) => n.toNat | _ => 0
theorem pgrown_drewN {a b : World} {r : Option Nat} (h : a.grownBy b r) (n : Nat) : a.grownBy (b.drewN n) r := ⟨h.os, h.tape, h.output, h.size, h.block⟩
theorem grown_refl (a : World) (r : Option Nat) : a.grownBy a r := ⟨rfl, rfl, rfl, Nat.le_refl _, fun _ _ _ => rfl⟩
def Least (t : PT) (m : Int) : Prop := 1 ≤ m ∧ m ≤ 4294967295 ∧ t.n m = none ∧ ∀ j, 1 ≤ j → j < m → (t.n j).isSome = true
theorem t_make1 (m : Int) (B1 B2 : Nat) (v0 : Value) (r : Int) (hm : Least t m) (hr : (if t.room < m then 4 else 0) = r) (w : World) (h : TreeM w F P N y t) (hF : ¬ F B1)
  (hc1 : w.heap[B1]? = some (.cells #[v0] 29 (0, 0))) (hne : B1 ≠ B2) (hc2 : w.cell? ⟨B2, 0, none⟩ = some (.pointer (some ⟨P, 0, none⟩))) :
  Calls Tryz.prog 184 #[.pointer (some ⟨B1, 0, none⟩), .pointer (some ⟨B2, 0, none⟩)] w fun e w' => ∃ x, e = .returned (.int .i64 x) ∧ Puts B1 m r w x w' := by
 have c1 := h.c1
 have hc5 : w.cell? ⟨B1, 0, none⟩ = some v0 := by simp [World.cell?, hc1]
 have hf : w.frozen? ⟨B1, 0, none⟩ = false := by simp [World.frozen?, hc1]
 have HM := zz hm
 have HT := zz h
 have HR := zz hr
 obtain ⟨m1, m2, _, _⟩ := hm
 have hB : B1 < w.heap.size := (Array.getElem?_eq_some_iff.1 hc1).1
 have H1 := zz hc1
 have HF := zz hF
 clear hr h hc1 hF
 go_enter Tryz.func184, Tryz.ntmps184
 go_wp2
 go_loopw [] (fun wr => ∃ j : Int, 1 ≤ j ∧ j ≤ m ∧ wr.heap[B1]? = some (.cells #[.int .u32 j] 29 (0, 0)) ∧ w.grownBy wr (some B1)) (fun wr => m.toNat - boxN wr B1)
 case atStart => exact ⟨1, Int.le_refl _, m1, pheap_set _ _ _ _ _ _ H1.out, pgrown_set _ _ _ _⟩
 case round =>
  obtain ⟨j, j1, j2, hbox, hg⟩ := hrel
  have hTr : TreeM wr F P N y t := HT.out.same (fun b hb => hg.block b (HT.out.lt b hb) (fun e => HF.out (by injection e with e; rw [← e]; exact hb))) hg.size
  have d1 := hTr.c1
  have d0 := hTr.c0
  have q1 : wr.cell? ⟨B1, 0, none⟩ = some (.int .u32 j) := by simp [World.cell?, hbox]
  have q2 : wr.cell? ⟨B2, 0, none⟩ = some (.pointer (some ⟨P, 0, none⟩)) := hg.cell hc2 (fun e => hne (by injection e with e; exact e.symm))
  have qf : wr.frozen? ⟨B1, 0, none⟩ = false := by simp [World.frozen?, hbox]
  have hbn : boxN wr B1 = j.toNat := by simp [boxN, q1]
  have HG := zz hg
  have HBX := zz hbox
  have HBN := zz hbn
  clear hg hbox hc5 hf hbn
  by_cases hj : j = m
  · subst hj
    have hl : ∀ n, (Instr.lookup 106 (.map (some y.M)) (.int .u32 j) false).run Tryz.prog (wr.drewN n) = .ok (.pointer none) (wr.drewN n) := fun n => (hTr.drewN n).look_none ⟨by omega, m2⟩ HM.out.2.2.1
    obtain ⟨b, hb⟩ : ∃ b, decide (t.room < j) = b := ⟨_, rfl⟩
    have HR2 : Hid ((if b = true then (4 : Int) else 0) = r) := by show _ = _; rw [← HR.out, ← hb]; simp
    clear hTr
    go_wp2
    go_quiet (fail)
    go_wp2
    clear hl
    generalize hw2 : wr.drewN _ = w2
    have e0 : w2.cell? ⟨P, 0, none⟩ = some (.int .u32 t.room) := by rw [← hw2]; exact d0
    have e1 : w2.cell? ⟨B1, 0, none⟩ = some (.int .u32 j) := by rw [← hw2]; exact q1
    have e2 : w2.cell? ⟨B2, 0, none⟩ = some (.pointer (some ⟨P, 0, none⟩)) := by rw [← hw2]; exact q2
    have HG2 : Hid (w.grownBy w2 (some B1)) := by rw [← hw2]; exact pgrown_drewN HG.out _
    have HBX2 : Hid (w2.heap[B1]? = some (.cells #[.int .u32 j] 29 (0, 0))) := by rw [← hw2]; exact HBX.out
    clear hw2 d0 d1 q1 q2 qf HBX HBN HG
    go_quiet ((go_at_call 120; exact quiet_eq (t_as b 4 _ HR2.out _)))
    go_wp2
    go_ret
    exact ⟨r, rfl, rfl, pgrown_drewN HG2.out _, _, HBX2.out, rfl⟩
  · obtain ⟨x, hx⟩ := Option.isSome_iff_exists.1 (HM.out.2.2.2 j j1 (by omega))
    have hl : ∀ n, (Instr.lookup 106 (.map (some y.M)) (.int .u32 j) false).run Tryz.prog (wr.drewN n) = .ok (.pointer (some ⟨y.f j, 0, none⟩)) (wr.drewN n) := fun n => (hTr.drewN n).look_some hx
    clear hTr hx
    go_wp2
    go_quiet (fail)
    go_wp2
    go_roundw
    case rel => exact ⟨j + 1, by omega, by omega, pheap_set _ _ _ _ _ _ HBX.out, pgrown_trans HG.out (pgrown_trans (pgrown_drewN (grown_refl _ _) _) (pgrown_set _ _ _ _))⟩
    case measure =>
     have hp := pheap_set (wr.drewN nq) B1 0 (.int .u32 (j + 1)) _ _ HBX.out
     rw [HBN.out]
     simp [boxN, World.cell?, hp]
     omega
end
end

section
open Go.RowKit Go.Maps
def firstE : List Int → Int
 | [] => 0
 | e :: l => if e = 0 then firstE l else e
def Asked (w : World) (vs : List Value) (es : List Int) : Prop :=
 vs.length = es.length ∧ ∀ (j : Nat) (e : Int), es[j]? = some e → (∀ (i : Nat) (e' : Int), i < j → es[i]? = some e' → e' = 0) → ∃ v, vs[j]? = some v ∧ Question w v e
theorem firstE_stop : ∀ (es : List Int) (k : Nat) (e : Int), es[k]? = some e → (∀ (i : Nat) (e' : Int), i < k → es[i]? = some e' → e' = 0) → (e ≠ 0 ∨ k + 1 = es.length) → firstE es = e
 | [], k, e, h, _, _ => by simp at h
 | a :: l, 0, e, h, _, hs => by
  simp at h; subst h
  unfold firstE
  by_cases ha : a = 0
  · subst ha
    rcases hs with h | h
    · exact absurd rfl h
    · have : l = [] := List.eq_nil_of_length_eq_zero (by simpa using h.symm)
      subst this; rfl
  · rw [if_neg ha]
 | a :: l, k + 1, e, h, h0, hs => by
  have ha := h0 0 a (by omega) rfl
  subst ha
  show firstE l = e
  exact firstE_stop l k e (by simpa using h) (fun i e' hi he => h0 (i + 1) e' (by omega) (by simpa using he)) (hs.imp id (fun h => by simp at h; omega))
theorem firstE_place : ∀ (es : List Int), es ≠ [] → ∃ (k : Nat) (e : Int), es[k]? = some e ∧ (∀ (i : Nat) (e' : Int), i < k → es[i]? = some e' → e' = 0) ∧ (e ≠ 0 ∨ k + 1 = es.length)
 | [], h => absurd rfl h
 | [a], _ => ⟨0, a, rfl, fun i _ hi => absurd hi (by omega), .inr rfl⟩
 | a :: b :: l, _ => by
  by_cases ha : a = 0
  · obtain ⟨k, e, h1, h2, h3⟩ := firstE_place (b :: l) (by simp)
    refine ⟨k + 1, e, by simpa using h1, fun i e' hi he => ?_, h3.imp id (fun h => by simp at h ⊢; omega)⟩
    cases i with
    | zero => simp at he; omega
    | succ i => exact h2 i e' (by omega) (by simpa using he)
  · exact ⟨0, a, rfl, fun i _ hi => absurd hi (by omega), .inl ha⟩
theorem t_checkL (a : Addr) (A : Option Addr) (vs : List Value) (n c : Nat) (es : List Int) (r : Int) (hr : firstE es = r) (w : World) (hn : vs.length = n) (hm : vs.length ≤ maxLen) (hs : SliceAt w A vs) (hq : Asked w vs es) (hne : es ≠ []) :
  Calls Tryz.prog 80 #[.pointer (some a), .slice A n c] w fun e w' => e = .returned (.int .i64 r) ∧ Below w.heap.size w w' := by
 subst hn
 obtain ⟨k, e, h1, h2, h3⟩ := firstE_place es hne
 obtain ⟨v, hv, hd⟩ := hq.2 k e h1 h2
 refine (t_check a A vs c k (Quiet e) w hm hs (fun j v' hj hv' => ?_) v hv hd (fun W x W' hx => ?_)).mono ?_
 · have hj' : j < es.length := by have := (List.getElem?_eq_some_iff.1 hv').1; rw [hq.1] at this; exact this
   have hz := h2 j es[j] hj (List.getElem?_eq_getElem hj')
   obtain ⟨v2, g1, g2⟩ := hq.2 j es[j] (List.getElem?_eq_getElem hj') (fun i e' hi he => h2 i e' (by omega) he)
   rw [hv'] at g1
   cases g1
   rw [hz] at g2
   exact g2
 · rw [hx.1]; rw [← hq.1] at h3; exact h3
 · rintro e' w' ⟨x, W, rfl, hb, rfl, hb2⟩
   rw [← hr, firstE_stop es k x h1 h2 h3]
   exact ⟨rfl, ptrans hb hb2⟩
theorem enters_kinds : Enters 243 := enters_of Tryz.func243 (by kernel_rfl) rfl
theorem enters_paged : Enters 132 := enters_of Tryz.func132 (by kernel_rfl) rfl
theorem enters_file : Enters 131 := enters_of Tryz.func131 (by kernel_rfl) rfl
theorem enters_fresh : Enters 244 := enters_of Tryz.func244 (by kernel_rfl) rfl
theorem enters_resize : Enters 187 := enters_of Tryz.func187 (by kernel_rfl) rfl
theorem enters_write : Enters 186 := enters_of Tryz.func186 (by kernel_rfl) rfl
theorem enters_makeAt1 : Enters 245 := enters_of Tryz.func245 (by kernel_rfl) rfl
theorem enters_makeAt2 : Enters 246 := enters_of Tryz.func246 (by kernel_rfl) rfl
theorem enters_link : Enters 190 := enters_of Tryz.func190 (by kernel_rfl) rfl
theorem enters_look : Enters 234 := enters_of Tryz.func234 (by kernel_rfl) rfl
theorem enters_make : Enters 184 := enters_of Tryz.func184 (by kernel_rfl) rfl
theorem one_box (w : World) (v : Value) (T : TypeId) : Below w.heap.size w (w.alloc (.cells #[v] T)) ∧ (w.alloc (.cells #[v] T)).cell? ⟨w.heap.size, 0, none⟩ = some v ∧ (w.alloc (.cells #[v] T)).heap.size = w.heap.size + 1 :=
 ⟨(Below.refl _ _).alloc (Nat.le_refl _) _, by simp [World.cell?_alloc_new], by simp⟩
theorem cell_below {w W : World} {B : Nat} {v : Value} (hW : Below w.heap.size w W) (hB : B < w.heap.size) (hc : w.cell? ⟨B, 0, none⟩ = some v) : W.cell? ⟨B, 0, none⟩ = some v := (hW.cell (p := ⟨B, 0, none⟩) hB).trans hc
theorem t_kinds (k r : Int) (hr : kindsE k = r) (w : World) : Calls Tryz.prog 182 #[.int .u8 k] w (QPost w r) := by
 have HR := zz hr
 clear hr
 go_enter Tryz.func182, Tryz.ntmps182
 go_wp2
 go_ret
 obtain ⟨hb, k1, ks⟩ := one_box w (.int .u8 k) 5
 exact ⟨_, rfl, ⟨243, _, rfl, enters_kinds, fun W hW => t_kinds1 w.heap.size k r HR.out W (cell_below hW (by omega) k1)⟩, hb⟩
theorem t_paged (p r : Int) (hr : pagedE p = r) (w : World) : Calls Tryz.prog 90 #[.int .i64 p] w (QPost w r) := by
 have HR := zz hr
 clear hr
 go_enter Tryz.func90, Tryz.ntmps90
 go_wp2
 go_ret
 obtain ⟨hb, k1, ks⟩ := one_box w (.int .i64 p) 3
 exact ⟨_, rfl, ⟨132, _, rfl, enters_paged, fun W hW => t_paged1 w.heap.size p r HR.out W (cell_below hW (by omega) k1)⟩, hb⟩
theorem q_resize {w : World} {B : Nat} {n r : Int} (hr : sizedE n = r) (hB : B < w.heap.size) (hc : w.cell? ⟨B, 0, none⟩ = some (.int .u32 n)) : Question w (.func (.func 187) #[] #[.pointer (some ⟨B, 0, none⟩)]) r :=
 ⟨_, _, rfl, enters_resize, fun W hW => t_resize1 B n r hr W (cell_below hW hB hc)⟩
theorem q_write {w : World} {B : Nat} {d : ByteArray} {r : Int} (hr : dataE d = r) (hd : d.size ≤ maxLen) (hB : B < w.heap.size) (hc : w.cell? ⟨B, 0, none⟩ = some (.string d)) : Question w (.func (.func 186) #[] #[.pointer (some ⟨B, 0, none⟩)]) r :=
 ⟨_, _, rfl, enters_write, fun W hW => t_write1 B d r hr W hd (cell_below hW hB hc)⟩
def QIf (c : Prop) (w : World) (r : Int) (e : Ending) (w' : World) : Prop := ∃ g lb, e = .returned (.func (.func g) #[] lb) ∧ (c → Question w' (.func (.func g) #[] lb) r) ∧ Below w.heap.size w w'
section
variable {F : Nat → Prop} {P N : Nat} {y : Lay} {t : PT}
def fileE' (t : PT) (i : Int) : Int := match t.n i with | some x => fileQE x | none => 0
def freshE' (t : PT) (i : Int) (s : ByteArray) : Int := match t.n i with | some x => freshE x s | none => 0
def linksE' (t : PT) (i : Int) : Int := match t.n i with | some x => linksE x | none => 0
theorem t_file (i r : Int) (hr : fileE' t i = r) (w : World) (h : TreeM w F P N y t) :
  Calls Tryz.prog 89 #[.pointer (some ⟨P, 0, none⟩), .int .u32 i] w (QIf ((t.n i).isSome = true) w r) := by
 have HR := zz hr
 have HT := zz h
 clear hr h
 go_enter Tryz.func89, Tryz.ntmps89
 go_wp2
 go_ret
 obtain ⟨hb, k1, k2, ks⟩ := two_boxes w (.pointer (some ⟨P, 0, none⟩)) (.int .u32 i) 43 29
 refine ⟨_, _, rfl, fun hx => ⟨131, _, rfl, enters_file, fun W hW => ?_⟩, hb⟩
 obtain ⟨x, hx⟩ := Option.isSome_iff_exists.1 hx
 exact t_file1 i x w.heap.size (w.heap.size + 1) r (by rw [← HR.out]; unfold fileE'; rw [hx]) W (HT.out.below (ptrans hb hW)) hx (cell_below hW (by omega) k1) (cell_below hW (by omega) k2)
theorem t_dirsI (is : List Int) (A : Option Addr) (n c : Nat) (r : Int) (hr : dirsE t is = r) (w : World) (h : TreeM w F P N y t) (hn : is.length = n) (hl : is.length ≤ maxLen) (hA : SliceAt w A (is.map (Value.int .u32))) :
  Calls Tryz.prog 82 #[.pointer (some ⟨P, 0, none⟩), .slice A n c] w (QIf (∀ i ∈ is, (t.n i).isSome = true) w r) := by
 by_cases hi : ∀ i ∈ is, (t.n i).isSome = true
 · refine (t_dirs is A n c r hr w h hn hi hl hA).mono ?_
   rintro e w' ⟨v, h1, h2, h3⟩
   obtain ⟨g, lb, rfl, _⟩ := id h2
   exact ⟨g, lb, h1, fun _ => h2, h3⟩
 · clear hA
   have HI := zz hi
   clear hi hr h
   go_enter Tryz.func82, Tryz.ntmps82
   go_wp2
   go_ret
   exact ⟨_, _, rfl, fun h => absurd h HI.out, ((Below.refl _ _).alloc (Nat.le_refl _) _).alloc (by simp) _⟩
theorem three_boxes (w : World) (v1 v2 v3 : Value) (T1 T2 T3 : TypeId) : Below w.heap.size w (((w.alloc (.cells #[v1] T1)).alloc (.cells #[v2] T2)).alloc (.cells #[v3] T3)) ∧
  (((w.alloc (.cells #[v1] T1)).alloc (.cells #[v2] T2)).alloc (.cells #[v3] T3)).cell? ⟨w.heap.size, 0, none⟩ = some v1 ∧ (((w.alloc (.cells #[v1] T1)).alloc (.cells #[v2] T2)).alloc (.cells #[v3] T3)).cell? ⟨w.heap.size + 1, 0, none⟩ = some v2 ∧
  (((w.alloc (.cells #[v1] T1)).alloc (.cells #[v2] T2)).alloc (.cells #[v3] T3)).cell? ⟨w.heap.size + 1 + 1, 0, none⟩ = some v3 ∧ (((w.alloc (.cells #[v1] T1)).alloc (.cells #[v2] T2)).alloc (.cells #[v3] T3)).heap.size = w.heap.size + 3 := by
 obtain ⟨hb, k1, k2, ks⟩ := two_boxes w v1 v2 T1 T2
 generalize (w.alloc (.cells #[v1] T1)).alloc (.cells #[v2] T2) = w2 at *
 obtain ⟨hb3, k3, ks3⟩ := one_box w2 v3 T3
 refine ⟨ptrans hb hb3, cell_below hb3 (by omega) k1, cell_below hb3 (by omega) k2, ?_, by omega⟩
 rw [ks] at k3
 exact k3
theorem t_fresh (i : Int) (s : ByteArray) (r : Int) (hr : freshE' t i s = r) (w : World) (h : TreeM w F P N y t) (hs : s.size ≤ maxLen) :
  Calls Tryz.prog 183 #[.pointer (some ⟨P, 0, none⟩), .int .u32 i, .string s] w (QIf ((t.n i).isSome = true) w r) := by
 have HR := zz hr
 have HT := zz h
 have HS := zz hs
 clear hr h hs
 go_enter Tryz.func183, Tryz.ntmps183
 go_wp2
 go_ret
 obtain ⟨hb, k1, k2, k3, ks⟩ := three_boxes w (.pointer (some ⟨P, 0, none⟩)) (.int .u32 i) (.string s) 43 29 9
 refine ⟨_, _, rfl, fun hx => ⟨244, _, rfl, enters_fresh, fun W hW => ?_⟩, hb⟩
 obtain ⟨x, hx⟩ := Option.isSome_iff_exists.1 hx
 exact t_fresh1 i x s w.heap.size (w.heap.size + 1) (w.heap.size + 1 + 1) r (by rw [← HR.out]; unfold freshE'; rw [hx]) W (HT.out.below (ptrans hb hW)) hx HS.out (cell_below hW (by omega) k1) (cell_below hW (by omega) k2) (cell_below hW (by omega) k3)
theorem q_makeAt1 {w : World} {B1 B2 : Nat} {i r : Int} (hr : roomE t i = r) (h : TreeM w F P N y t) (hB1 : B1 < w.heap.size) (hB2 : B2 < w.heap.size) (hc1 : w.cell? ⟨B1, 0, none⟩ = some (.int .u32 i)) (hc2 : w.cell? ⟨B2, 0, none⟩ = some (.pointer (some ⟨P, 0, none⟩))) :
  Question w (.func (.func 245) #[] #[.pointer (some ⟨B1, 0, none⟩), .pointer (some ⟨B2, 0, none⟩)]) r :=
 ⟨_, _, rfl, enters_makeAt1, fun W hW => t_makeAt1 i B1 B2 r hr W (h.below hW) (cell_below hW hB1 hc1) (cell_below hW hB2 hc2)⟩
theorem q_makeAt2 {w : World} {B1 B2 : Nat} {i r : Int} (hr : haveE t i = r) (h : TreeM w F P N y t) (hi : U32 i) (hB1 : B1 < w.heap.size) (hB2 : B2 < w.heap.size) (hc1 : w.cell? ⟨B1, 0, none⟩ = some (.pointer (some ⟨P, 0, none⟩))) (hc2 : w.cell? ⟨B2, 0, none⟩ = some (.int .u32 i)) :
  Question w (.func (.func 246) #[] #[.pointer (some ⟨B1, 0, none⟩), .pointer (some ⟨B2, 0, none⟩)]) r :=
 ⟨_, _, rfl, enters_makeAt2, fun W hW => t_makeAt2 i B1 B2 r hr W (h.below hW) hi (cell_below hW hB1 hc1) (cell_below hW hB2 hc2)⟩
theorem q_link {w : World} {B1 B2 : Nat} {i r : Int} (hx : (t.n i).isSome = true) (hr : linksE' t i = r) (h : TreeM w F P N y t) (hB1 : B1 < w.heap.size) (hB2 : B2 < w.heap.size) (hc1 : w.cell? ⟨B1, 0, none⟩ = some (.pointer (some ⟨P, 0, none⟩))) (hc2 : w.cell? ⟨B2, 0, none⟩ = some (.int .u32 i)) :
  Question w (.func (.func 190) #[] #[.pointer (some ⟨B1, 0, none⟩), .pointer (some ⟨B2, 0, none⟩)]) r := by
 obtain ⟨x, hx⟩ := Option.isSome_iff_exists.1 hx
 exact ⟨_, _, rfl, enters_link, fun W hW => t_link1 i x B1 B2 r (by rw [← hr]; unfold linksE'; rw [hx]) W (h.below hW) hx (cell_below hW hB1 hc1) (cell_below hW hB2 hc2)⟩
end
end
end Go.Proofs.YtpcnolkdnmolgaaGreatDoor
