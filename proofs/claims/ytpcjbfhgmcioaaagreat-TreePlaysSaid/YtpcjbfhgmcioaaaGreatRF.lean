/- The questions of the program's tree: names, there, dirs. -/
import Derived.Test.YtpcjbfhgmcioaaaGreatRE
namespace Go.Proofs.YtpcjbfhgmcioaaaGreat
open Go.RowKit Go.Maps

theorem t_as (b : Bool) (e r : Int) (hr : (if b = true then e else 0) = r) (w : World) :
    Calls Tryz.prog 44 #[.bool b, .int .i64 e] w fun e' w' => e' = .returned (.int .i64 r) ∧ w = w' := by
  have HR := Lib.hid hr
  clear hr
  cases b <;>
  · go_enter Tryz.func44, Tryz.ntmps44
    go_wp2
    go_ret
    exact ⟨pret_i64 HR.out, rfl⟩
theorem t_isdir (Q : Nat) (k : Int) (r : Bool) (hr : (k == 2) = r) (w : World) (hc : w.cell? ⟨Q, 0, none⟩ = some (.int .u8 k)) :
    Calls Tryz.prog 47 #[.pointer (some ⟨Q, 0, none⟩)] w fun e w' => e = .returned (.bool r) ∧ w = w' := by
  have HR := Lib.hid hr
  clear hr
  go_enter Tryz.func47, Tryz.ntmps47
  go_wp2
  go_ret
  exact ⟨pret_bool HR.out, rfl⟩

theorem enters_names : Enters 87 := enters_of Tryz.func87 (by kernel_rfl) rfl
theorem enters_names1 : Enters 89 := enters_of Tryz.func89 (by kernel_rfl) rfl
theorem enters_there : Enters 92 := enters_of Tryz.func92 (by kernel_rfl) rfl
theorem enters_there1 : Enters 94 := enters_of Tryz.func94 (by kernel_rfl) rfl
theorem enters_dirs : Enters 95 := enters_of Tryz.func95 (by kernel_rfl) rfl
theorem enters_dirs1 : Enters 96 := enters_of Tryz.func96 (by kernel_rfl) rfl
def QPost (w : World) (r : Int) (e : Ending) (w' : World) : Prop := ∃ v, e = .returned v ∧ Question w' v r ∧ Below w.heap.size w w'

/-! ### names -/
def badS : Value → Bool | .string s => !pnameB s | _ => false
theorem badS_mem {ss : List ByteArray} {x : Value} (hx : x ∈ ss.map Value.string) : ∃ s ∈ ss, x = .string s := by
  obtain ⟨s, h1, h2⟩ := List.mem_map.1 hx; exact ⟨s, h1, h2.symm⟩
theorem t_names11 (s : ByteArray) (r : Bool) (hr : (!pnameB s) = r) (w : World) (hs : s.size ≤ maxLen) :
    Calls Tryz.prog 89 #[.string s] w fun e w' => e = .returned (.bool r) ∧ Below w.heap.size w w' := by
  have HR : Hid ((nameE s != 0) = r) := by show _ = _; rw [← hr]; unfold nameE; cases pnameB s <;> rfl
  clear hr
  obtain ⟨q, hq⟩ : ∃ q, nameE s = q := ⟨_, rfl⟩
  rw [hq] at HR
  have HQ := Lib.hid hq
  clear hq
  go_enter Tryz.func89, Tryz.ntmps89
  go_wp2_with (go_at_call 90; refine (t_pname s _ HQ.out _ hs).mono ?_; rintro e w' ⟨rfl, hb⟩)
  go_ret
  exact ⟨pret_bool HR.out, hb⟩
theorem names_pred (ss : List ByteArray) (w : World) (hs : ∀ s ∈ ss, s.size ≤ maxLen) : PredV w 89 #[] badS (ss.map Value.string) := by
  intro W x hx _
  obtain ⟨s, h1, rfl⟩ := badS_mem hx
  exact t_names11 s _ rfl W (hs s h1)
def namesE (ss : List ByteArray) : Int := if (ss.any fun s => !pnameB s) = true then 2 else 0
theorem namesE_any (ss : List ByteArray) : (ss.map Value.string).any badS = ss.any fun s => !pnameB s := by rw [List.any_map]; rfl
theorem t_names1 (ss : List ByteArray) (B : Nat) (A : Option Addr) (c : Nat) (r : Int) (hr : namesE ss = r) (w : World) (hs : ∀ s ∈ ss, s.size ≤ maxLen) (hl : ss.length ≤ maxLen) (hc : w.cell? ⟨B, 0, none⟩ = some (.slice A ss.length c)) (hA : SliceAt w A (ss.map Value.string)) :
    Calls Tryz.prog 87 #[.pointer (some ⟨B, 0, none⟩)] w fun e w' => ∃ x, e = .returned (.int .i64 x) ∧ Quiet r w x w' := by
  have hcon := t_containsStr A ss.length c (ss.map Value.string) 89 #[] badS _ (namesE_any ss) w (by simp) hl hA enters_names1 (names_pred ss w hs)
  have hr' : (if (ss.any fun s => !pnameB s) = true then (2 : Int) else 0) = r := hr
  obtain ⟨b, hb⟩ : ∃ b, (ss.any fun s => !pnameB s) = b := ⟨_, rfl⟩
  rw [hb] at hcon hr'
  have HC := Lib.hid hcon
  have HR := Lib.hid hr'
  clear hr hr' hb hcon hA hs
  go_enter Tryz.func87, Tryz.ntmps87
  go_wp2_with (first | (go_at_call 88; refine HC.out.mono ?_; rintro e w' ⟨rfl, hb⟩) | (go_at_call 44; refine (t_as b 2 _ HR.out _).mono ?_; rintro e w' ⟨rfl, rfl⟩))
  go_ret
  exact ⟨r, rfl, rfl, hb⟩
theorem t_names (ss : List ByteArray) (A : Option Addr) (n c : Nat) (r : Int) (hr : namesE ss = r) (w : World) (hn : ss.length = n) (hs : ∀ s ∈ ss, s.size ≤ maxLen) (hl : ss.length ≤ maxLen) (hA : SliceAt w A (ss.map Value.string)) :
    Calls Tryz.prog 38 #[.slice A n c] w (QPost w r) := by
  subst hn
  have HR := Lib.hid hr
  have HS := Lib.hid hs
  have HA := Lib.hid hA
  have HL := Lib.hid hl
  clear hr hs hA hl
  go_enter Tryz.func38, Tryz.ntmps38
  go_wp2
  go_ret
  have hb : Below w.heap.size w (w.alloc (.cells #[.slice A ss.length c] 117)) := (Below.refl _ _).alloc (Nat.le_refl _) _
  refine ⟨_, rfl, ⟨87, _, rfl, enters_names, fun W hW => ?_⟩, hb⟩
  exact t_names1 ss w.heap.size A c r HR.out W HS.out HL.out ((hW.cell (p := ⟨w.heap.size, 0, none⟩) (by simp)).trans (by simp [World.cell?_alloc_new])) (HA.out.below (ptrans hb hW))

/-! ### there, dirs -/
def U32 (i : Int) : Prop := 0 ≤ i ∧ i ≤ 4294967295
def noneV (t : PT) : Value → Bool | .int _ i => (t.n i).isNone | _ => false
def isFile (t : PT) (i : Int) : Bool := match t.n i with | some x => x.kind != 2 | none => false
def fileV (t : PT) : Value → Bool | .int _ i => isFile t i | _ => false
theorem u32_mem {is : List Int} {x : Value} (hx : x ∈ is.map (Value.int .u32)) : ∃ i ∈ is, x = .int .u32 i := by
  obtain ⟨s, h1, h2⟩ := List.mem_map.1 hx; exact ⟨s, h1, h2.symm⟩
section
variable {F : Nat → Prop} {P N : Nat} {y : Lay} {t : PT}
theorem t_there11 (i : Int) (B : Nat) (r : Bool) (hr : (t.n i).isNone = r) (w : World) (h : TreeM w F P N y t) (hi : U32 i) (hc : w.cell? ⟨B, 0, none⟩ = some (.pointer (some ⟨P, 0, none⟩))) :
    Calls Tryz.prog 94 #[.int .u32 i, .pointer (some ⟨B, 0, none⟩)] w fun e w' => e = .returned (.bool r) ∧ w = w' := by
  have c1 := h.c1
  cases hx : t.n i with
  | none =>
    have hl := h.look_none hi hx
    have HR : Hid (true = r) := by show _ = _; rw [← hr, hx]; rfl
    clear hr hx h
    go_enter Tryz.func94, Tryz.ntmps94
    go_wp2
    go_ret
    exact ⟨pret_bool HR.out, rfl⟩
  | some x =>
    have hl := h.look_some hx
    have HR : Hid (false = r) := by show _ = _; rw [← hr, hx]; rfl
    clear hr hx h
    go_enter Tryz.func94, Tryz.ntmps94
    go_wp2
    go_ret
    exact ⟨pret_bool HR.out, rfl⟩
theorem t_dirs11 (i : Int) (B : Nat) (x : PN) (r : Bool) (hr : (x.kind != 2) = r) (w : World) (h : TreeM w F P N y t) (hx : t.n i = some x) (hc : w.cell? ⟨B, 0, none⟩ = some (.pointer (some ⟨P, 0, none⟩))) :
    Calls Tryz.prog 96 #[.int .u32 i, .pointer (some ⟨B, 0, none⟩)] w fun e w' => e = .returned (.bool r) ∧ w = w' := by
  have c1 := h.c1
  have hl := h.look_some hx
  have k0 := (h.node i x hx).cell 0
  obtain ⟨d, hd⟩ : ∃ d, (x.kind == 2) = d := ⟨_, rfl⟩
  have HD := Lib.hid hd
  have HR : Hid ((!d) = r) := by show _ = _; rw [← hr, ← hd]; rfl
  have HK : Hid (w.cell? ⟨y.f i, 0, none⟩ = some (.int .u8 x.kind)) := k0
  clear hr hx h hd k0
  go_enter Tryz.func96, Tryz.ntmps96
  go_wp2_with (go_at_call 47; refine (t_isdir (y.f i) x.kind d HD.out _ HK.out).mono ?_; rintro e w' ⟨rfl, rfl⟩)
  go_ret
  exact ⟨pret_bool HR.out, rfl⟩
def thereE (t : PT) (is : List Int) : Int := if (is.any fun i => (t.n i).isNone) = true then 3 else 0
def dirsE (t : PT) (is : List Int) : Int := if (is.any (isFile t)) = true then 180 else 0
theorem there_pred (is : List Int) (B : Nat) (w : World) (h : TreeM w F P N y t) (hi : ∀ i ∈ is, U32 i) (hB : B < w.heap.size) (hc : w.cell? ⟨B, 0, none⟩ = some (.pointer (some ⟨P, 0, none⟩))) :
    PredV w 94 #[.pointer (some ⟨B, 0, none⟩)] (noneV t) (is.map (Value.int .u32)) := by
  intro W x hx hW
  obtain ⟨i, h1, rfl⟩ := u32_mem hx
  refine (t_there11 i B _ rfl W (h.below hW) (hi i h1) ((hW.cell (p := ⟨B, 0, none⟩) hB).trans hc)).mono ?_
  rintro e W' ⟨rfl, rfl⟩
  exact ⟨rfl, Below.refl _ _⟩
theorem dirs_pred (is : List Int) (B : Nat) (w : World) (h : TreeM w F P N y t) (hi : ∀ i ∈ is, (t.n i).isSome = true) (hB : B < w.heap.size) (hc : w.cell? ⟨B, 0, none⟩ = some (.pointer (some ⟨P, 0, none⟩))) :
    PredV w 96 #[.pointer (some ⟨B, 0, none⟩)] (fileV t) (is.map (Value.int .u32)) := by
  intro W x hx hW
  obtain ⟨i, h1, rfl⟩ := u32_mem hx
  obtain ⟨z, hz⟩ := Option.isSome_iff_exists.1 (hi i h1)
  refine (t_dirs11 i B z _ rfl W (h.below hW) hz ((hW.cell (p := ⟨B, 0, none⟩) hB).trans hc)).mono ?_
  rintro e W' ⟨rfl, rfl⟩
  exact ⟨by simp [fileV, isFile, hz], Below.refl _ _⟩
theorem t_there1 (is : List Int) (B1 B2 : Nat) (A : Option Addr) (c : Nat) (r : Int) (hr : thereE t is = r) (w : World) (h : TreeM w F P N y t) (hi : ∀ i ∈ is, U32 i) (hl : is.length ≤ maxLen)
    (hc : w.cell? ⟨B1, 0, none⟩ = some (.slice A is.length c)) (hB : B2 < w.heap.size) (hc2 : w.cell? ⟨B2, 0, none⟩ = some (.pointer (some ⟨P, 0, none⟩))) (hA : SliceAt w A (is.map (Value.int .u32))) :
    Calls Tryz.prog 92 #[.pointer (some ⟨B1, 0, none⟩), .pointer (some ⟨B2, 0, none⟩)] w fun e w' => ∃ x, e = .returned (.int .i64 x) ∧ Quiet r w x w' := by
  have hcon := t_containsU32 A is.length c (is.map (Value.int .u32)) 94 #[.pointer (some ⟨B2, 0, none⟩)] (noneV t) (is.any fun i => (t.n i).isNone) (by rw [List.any_map]; rfl) w (by simp) hl hA enters_there1 (there_pred is B2 w h hi hB hc2)
  have hr' : (if (is.any fun i => (t.n i).isNone) = true then (3 : Int) else 0) = r := hr
  obtain ⟨b, hb⟩ : ∃ b, (is.any fun i => (t.n i).isNone) = b := ⟨_, rfl⟩
  rw [hb] at hcon hr'
  have HC := Lib.hid hcon
  have HR := Lib.hid hr'
  clear hr hr' hb hcon hA hi h
  go_enter Tryz.func92, Tryz.ntmps92
  go_wp2_with (first | (go_at_call 93; refine HC.out.mono ?_; rintro e w' ⟨rfl, hb⟩) | (go_at_call 44; refine (t_as b 3 _ HR.out _).mono ?_; rintro e w' ⟨rfl, rfl⟩))
  go_ret
  exact ⟨r, rfl, rfl, hb⟩
theorem t_dirs1 (is : List Int) (B1 B2 : Nat) (A : Option Addr) (c : Nat) (r : Int) (hr : dirsE t is = r) (w : World) (h : TreeM w F P N y t) (hi : ∀ i ∈ is, (t.n i).isSome = true) (hl : is.length ≤ maxLen)
    (hc : w.cell? ⟨B1, 0, none⟩ = some (.slice A is.length c)) (hB : B2 < w.heap.size) (hc2 : w.cell? ⟨B2, 0, none⟩ = some (.pointer (some ⟨P, 0, none⟩))) (hA : SliceAt w A (is.map (Value.int .u32))) :
    Calls Tryz.prog 95 #[.pointer (some ⟨B1, 0, none⟩), .pointer (some ⟨B2, 0, none⟩)] w fun e w' => ∃ x, e = .returned (.int .i64 x) ∧ Quiet r w x w' := by
  have hcon := t_containsU32 A is.length c (is.map (Value.int .u32)) 96 #[.pointer (some ⟨B2, 0, none⟩)] (fileV t) (is.any (isFile t)) (by rw [List.any_map]; rfl) w (by simp) hl hA enters_dirs1 (dirs_pred is B2 w h hi hB hc2)
  have hr' : (if (is.any (isFile t)) = true then (180 : Int) else 0) = r := hr
  obtain ⟨b, hb⟩ : ∃ b, (is.any (isFile t)) = b := ⟨_, rfl⟩
  rw [hb] at hcon hr'
  have HC := Lib.hid hcon
  have HR := Lib.hid hr'
  clear hr hr' hb hcon hA hi h
  go_enter Tryz.func95, Tryz.ntmps95
  go_wp2_with (first | (go_at_call 93; refine HC.out.mono ?_; rintro e w' ⟨rfl, hb⟩) | (go_at_call 44; refine (t_as b 180 _ HR.out _).mono ?_; rintro e w' ⟨rfl, rfl⟩))
  go_ret
  exact ⟨r, rfl, rfl, hb⟩
theorem two_boxes (w : World) (v1 v2 : Value) (T1 T2 : TypeId) : Below w.heap.size w ((w.alloc (.cells #[v1] T1)).alloc (.cells #[v2] T2)) ∧
    ((w.alloc (.cells #[v1] T1)).alloc (.cells #[v2] T2)).cell? ⟨w.heap.size, 0, none⟩ = some v1 ∧ ((w.alloc (.cells #[v1] T1)).alloc (.cells #[v2] T2)).cell? ⟨w.heap.size + 1, 0, none⟩ = some v2 ∧
    ((w.alloc (.cells #[v1] T1)).alloc (.cells #[v2] T2)).heap.size = w.heap.size + 2 := by
  refine ⟨((Below.refl _ _).alloc (Nat.le_refl _) _).alloc (by simp) _, ?_, ?_, by simp⟩
  · rw [World.cell?_alloc_lt _ _ _ (by simp)]; simp [World.cell?_alloc_new]
  · have e : (w.alloc (.cells #[v1] T1)).heap.size = w.heap.size + 1 := by simp
    rw [← e]; simp
theorem t_there (is : List Int) (A : Option Addr) (n c : Nat) (r : Int) (hr : thereE t is = r) (w : World) (h : TreeM w F P N y t) (hn : is.length = n) (hi : ∀ i ∈ is, U32 i) (hl : is.length ≤ maxLen) (hA : SliceAt w A (is.map (Value.int .u32))) :
    Calls Tryz.prog 40 #[.pointer (some ⟨P, 0, none⟩), .slice A n c] w (QPost w r) := by
  subst hn
  have HR := Lib.hid hr
  have HS := Lib.hid hi
  have HA := Lib.hid hA
  have HL := Lib.hid hl
  have HT := Lib.hid h
  clear hr hi hA hl h
  go_enter Tryz.func40, Tryz.ntmps40
  go_wp2
  go_ret
  obtain ⟨hb, k1, k2, ks⟩ := two_boxes w (.pointer (some ⟨P, 0, none⟩)) (.slice A is.length c) 26 46
  refine ⟨_, rfl, ⟨92, _, rfl, enters_there, fun W hW => ?_⟩, hb⟩
  have hs := hW.size
  exact t_there1 is (w.heap.size + 1) w.heap.size A c r HR.out W (HT.out.below (ptrans hb hW)) HS.out HL.out ((hW.cell (p := ⟨w.heap.size + 1, 0, none⟩) (by rw [ks]; exact Nat.lt_succ_self _)).trans k2) (by omega) ((hW.cell (p := ⟨w.heap.size, 0, none⟩) (by rw [ks]; show w.heap.size < _; omega)).trans k1) (HA.out.below (ptrans hb hW))
theorem t_dirs (is : List Int) (A : Option Addr) (n c : Nat) (r : Int) (hr : dirsE t is = r) (w : World) (h : TreeM w F P N y t) (hn : is.length = n) (hi : ∀ i ∈ is, (t.n i).isSome = true) (hl : is.length ≤ maxLen) (hA : SliceAt w A (is.map (Value.int .u32))) :
    Calls Tryz.prog 41 #[.pointer (some ⟨P, 0, none⟩), .slice A n c] w (QPost w r) := by
  subst hn
  have HR := Lib.hid hr
  have HS := Lib.hid hi
  have HA := Lib.hid hA
  have HL := Lib.hid hl
  have HT := Lib.hid h
  clear hr hi hA hl h
  go_enter Tryz.func41, Tryz.ntmps41
  go_wp2
  go_ret
  obtain ⟨hb, k1, k2, ks⟩ := two_boxes w (.pointer (some ⟨P, 0, none⟩)) (.slice A is.length c) 26 46
  refine ⟨_, rfl, ⟨95, _, rfl, enters_dirs, fun W hW => ?_⟩, hb⟩
  have hs := hW.size
  exact t_dirs1 is (w.heap.size + 1) w.heap.size A c r HR.out W (HT.out.below (ptrans hb hW)) HS.out HL.out ((hW.cell (p := ⟨w.heap.size + 1, 0, none⟩) (by rw [ks]; exact Nat.lt_succ_self _)).trans k2) (by omega) ((hW.cell (p := ⟨w.heap.size, 0, none⟩) (by rw [ks]; show w.heap.size < _; omega)).trans k1) (HA.out.below (ptrans hb hW))
end
end Go.Proofs.YtpcjbfhgmcioaaaGreat
