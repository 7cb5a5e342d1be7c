/- What makes questions; a row of questions asked. -/
import Derived.Test.YtpcjbfhgmcioaaaGreatRH
namespace Go.Proofs.YtpcjbfhgmcioaaaGreat
open Go.RowKit Go.Maps

/-- The first that is not 0. -/
def firstE : List Int → Int
  | [] => 0
  | e :: l => if e = 0 then firstE l else e
/-- A row of function values that answer so, as long as those ahead answer 0. -/
def Asked (w : World) (vs : List Value) (es : List Int) : Prop :=
  vs.length = es.length ∧ ∀ (j : Nat) (e : Int), es[j]? = some e → (∀ (i : Nat) (e' : Int), i < j → es[i]? = some e' → e' = 0) → ∃ v, vs[j]? = some v ∧ Question w v e
theorem firstE_stop : ∀ (es : List Int) (k : Nat) (e : Int), es[k]? = some e → (∀ (i : Nat) (e' : Int), i < k → es[i]? = some e' → e' = 0) → (e ≠ 0 ∨ k + 1 = es.length) → firstE es = e
  | [], k, e, h, _, _ => by simp at h
  | a :: l, 0, e, h, _, hs => by
    simp at h; subst h
    unfold firstE
    by_cases ha : a = 0
    · subst ha
      rcases hs with h | h
      · exact absurd rfl h
      · have : l = [] := List.eq_nil_of_length_eq_zero (by simpa using h.symm)
        subst this; rfl
    · rw [if_neg ha]
  | a :: l, k + 1, e, h, h0, hs => by
    have ha := h0 0 a (by omega) rfl
    subst ha
    show firstE l = e
    exact firstE_stop l k e (by simpa using h) (fun i e' hi he => h0 (i + 1) e' (by omega) (by simpa using he)) (hs.imp id (fun h => by simp at h; omega))
theorem firstE_place : ∀ (es : List Int), es ≠ [] → ∃ (k : Nat) (e : Int), es[k]? = some e ∧ (∀ (i : Nat) (e' : Int), i < k → es[i]? = some e' → e' = 0) ∧ (e ≠ 0 ∨ k + 1 = es.length)
  | [], h => absurd rfl h
  | [a], _ => ⟨0, a, rfl, fun i _ hi => absurd hi (by omega), .inr rfl⟩
  | a :: b :: l, _ => by
    by_cases ha : a = 0
    · obtain ⟨k, e, h1, h2, h3⟩ := firstE_place (b :: l) (by simp)
      refine ⟨k + 1, e, by simpa using h1, fun i e' hi he => ?_, h3.imp id (fun h => by simp at h ⊢; omega)⟩
      cases i with
      | zero => simp at he; omega
      | succ i => exact h2 i e' (by omega) (by simpa using he)
    · exact ⟨0, a, rfl, fun i _ hi => absurd hi (by omega), .inl ha⟩
theorem t_checkL (a : Addr) (A : Option Addr) (vs : List Value) (n c : Nat) (es : List Int) (r : Int) (hr : firstE es = r) (w : World) (hn : vs.length = n) (hm : vs.length ≤ maxLen) (hs : SliceAt w A vs) (hq : Asked w vs es) (hne : es ≠ []) :
    Calls Tryz.prog 37 #[.pointer (some a), .slice A n c] w fun e w' => e = .returned (.int .i64 r) ∧ Below w.heap.size w w' := by
  subst hn
  obtain ⟨k, e, h1, h2, h3⟩ := firstE_place es hne
  obtain ⟨v, hv, hd⟩ := hq.2 k e h1 h2
  refine (t_check a A vs c k (Quiet e) w hm hs (fun j v' hj hv' => ?_) v hv hd (fun W x W' hx => ?_)).mono ?_
  · have hj' : j < es.length := by have := (List.getElem?_eq_some_iff.1 hv').1; rw [hq.1] at this; exact this
    have hz := h2 j es[j] hj (List.getElem?_eq_getElem hj')
    obtain ⟨v2, g1, g2⟩ := hq.2 j es[j] (List.getElem?_eq_getElem hj') (fun i e' hi he => h2 i e' (by omega) he)
    rw [hv'] at g1
    cases g1
    rw [hz] at g2
    exact g2
  · rw [hx.1]; rw [← hq.1] at h3; exact h3
  · rintro e' w' ⟨x, W, rfl, hb, rfl, hb2⟩
    rw [← hr, firstE_stop es k x h1 h2 h3]
    exact ⟨rfl, ptrans hb hb2⟩

theorem enters_kinds : Enters 91 := enters_of Tryz.func91 (by kernel_rfl) rfl
theorem enters_paged : Enters 99 := enters_of Tryz.func99 (by kernel_rfl) rfl
theorem enters_file : Enters 98 := enters_of Tryz.func98 (by kernel_rfl) rfl
theorem enters_fresh : Enters 97 := enters_of Tryz.func97 (by kernel_rfl) rfl
theorem enters_resize : Enters 84 := enters_of Tryz.func84 (by kernel_rfl) rfl
theorem enters_write : Enters 50 := enters_of Tryz.func50 (by kernel_rfl) rfl
theorem enters_makeAt1 : Enters 82 := enters_of Tryz.func82 (by kernel_rfl) rfl
theorem enters_makeAt2 : Enters 83 := enters_of Tryz.func83 (by kernel_rfl) rfl
theorem enters_link : Enters 77 := enters_of Tryz.func77 (by kernel_rfl) rfl
theorem enters_look : Enters 71 := enters_of Tryz.func71 (by kernel_rfl) rfl
theorem enters_make : Enters 43 := enters_of Tryz.func43 (by kernel_rfl) rfl

theorem one_box (w : World) (v : Value) (T : TypeId) : Below w.heap.size w (w.alloc (.cells #[v] T)) ∧ (w.alloc (.cells #[v] T)).cell? ⟨w.heap.size, 0, none⟩ = some v ∧ (w.alloc (.cells #[v] T)).heap.size = w.heap.size + 1 :=
  ⟨(Below.refl _ _).alloc (Nat.le_refl _) _, by simp [World.cell?_alloc_new], by simp⟩
theorem cell_below {w W : World} {B : Nat} {v : Value} (hW : Below w.heap.size w W) (hB : B < w.heap.size) (hc : w.cell? ⟨B, 0, none⟩ = some v) : W.cell? ⟨B, 0, none⟩ = some v := (hW.cell (p := ⟨B, 0, none⟩) hB).trans hc
theorem t_kinds (k r : Int) (hr : kindsE k = r) (w : World) : Calls Tryz.prog 39 #[.int .u8 k] w (QPost w r) := by
  have HR := Lib.hid hr
  clear hr
  go_enter Tryz.func39, Tryz.ntmps39
  go_wp2
  go_ret
  obtain ⟨hb, k1, ks⟩ := one_box w (.int .u8 k) 5
  exact ⟨_, rfl, ⟨91, _, rfl, enters_kinds, fun W hW => t_kinds1 w.heap.size k r HR.out W (cell_below hW (by omega) k1)⟩, hb⟩
theorem t_paged (p r : Int) (hr : pagedE p = r) (w : World) : Calls Tryz.prog 49 #[.int .i64 p] w (QPost w r) := by
  have HR := Lib.hid hr
  clear hr
  go_enter Tryz.func49, Tryz.ntmps49
  go_wp2
  go_ret
  obtain ⟨hb, k1, ks⟩ := one_box w (.int .i64 p) 3
  exact ⟨_, rfl, ⟨99, _, rfl, enters_paged, fun W hW => t_paged1 w.heap.size p r HR.out W (cell_below hW (by omega) k1)⟩, hb⟩
theorem q_resize {w : World} {B : Nat} {n r : Int} (hr : sizedE n = r) (hB : B < w.heap.size) (hc : w.cell? ⟨B, 0, none⟩ = some (.int .u32 n)) : Question w (.func (.func 84) #[] #[.pointer (some ⟨B, 0, none⟩)]) r :=
  ⟨_, _, rfl, enters_resize, fun W hW => t_resize1 B n r hr W (cell_below hW hB hc)⟩
theorem q_write {w : World} {B : Nat} {d : ByteArray} {r : Int} (hr : dataE d = r) (hd : d.size ≤ maxLen) (hB : B < w.heap.size) (hc : w.cell? ⟨B, 0, none⟩ = some (.string d)) : Question w (.func (.func 50) #[] #[.pointer (some ⟨B, 0, none⟩)]) r :=
  ⟨_, _, rfl, enters_write, fun W hW => t_write1 B d r hr W hd (cell_below hW hB hc)⟩

/-- Such a function value comes back, if something is so. -/
def QIf (c : Prop) (w : World) (r : Int) (e : Ending) (w' : World) : Prop := ∃ g lb, e = .returned (.func (.func g) #[] lb) ∧ (c → Question w' (.func (.func g) #[] lb) r) ∧ Below w.heap.size w w'
section
variable {F : Nat → Prop} {P N : Nat} {y : Lay} {t : PT}
def fileE' (t : PT) (i : Int) : Int := match t.n i with | some x => fileQE x | none => 0
def freshE' (t : PT) (i : Int) (s : ByteArray) : Int := match t.n i with | some x => freshE x s | none => 0
def linksE' (t : PT) (i : Int) : Int := match t.n i with | some x => linksE x | none => 0
theorem t_file (i r : Int) (hr : fileE' t i = r) (w : World) (h : TreeM w F P N y t) :
    Calls Tryz.prog 48 #[.pointer (some ⟨P, 0, none⟩), .int .u32 i] w (QIf ((t.n i).isSome = true) w r) := by
  have HR := Lib.hid hr
  have HT := Lib.hid h
  clear hr h
  go_enter Tryz.func48, Tryz.ntmps48
  go_wp2
  go_ret
  obtain ⟨hb, k1, k2, ks⟩ := two_boxes w (.pointer (some ⟨P, 0, none⟩)) (.int .u32 i) 26 23
  refine ⟨_, _, rfl, fun hx => ⟨98, _, rfl, enters_file, fun W hW => ?_⟩, hb⟩
  obtain ⟨x, hx⟩ := Option.isSome_iff_exists.1 hx
  exact t_file1 i x w.heap.size (w.heap.size + 1) r (by rw [← HR.out]; unfold fileE'; rw [hx]) W (HT.out.below (ptrans hb hW)) hx (cell_below hW (by omega) k1) (cell_below hW (by omega) k2)
theorem t_dirsI (is : List Int) (A : Option Addr) (n c : Nat) (r : Int) (hr : dirsE t is = r) (w : World) (h : TreeM w F P N y t) (hn : is.length = n) (hl : is.length ≤ maxLen) (hA : SliceAt w A (is.map (Value.int .u32))) :
    Calls Tryz.prog 41 #[.pointer (some ⟨P, 0, none⟩), .slice A n c] w (QIf (∀ i ∈ is, (t.n i).isSome = true) w r) := by
  by_cases hi : ∀ i ∈ is, (t.n i).isSome = true
  · refine (t_dirs is A n c r hr w h hn hi hl hA).mono ?_
    rintro e w' ⟨v, h1, h2, h3⟩
    obtain ⟨g, lb, rfl, _⟩ := id h2
    exact ⟨g, lb, h1, fun _ => h2, h3⟩
  · clear hA
    have HI := Lib.hid hi
    clear hi hr h
    go_enter Tryz.func41, Tryz.ntmps41
    go_wp2
    go_ret
    exact ⟨_, _, rfl, fun h => absurd h HI.out, ((Below.refl _ _).alloc (Nat.le_refl _) _).alloc (by simp) _⟩
theorem three_boxes (w : World) (v1 v2 v3 : Value) (T1 T2 T3 : TypeId) : Below w.heap.size w (((w.alloc (.cells #[v1] T1)).alloc (.cells #[v2] T2)).alloc (.cells #[v3] T3)) ∧
    (((w.alloc (.cells #[v1] T1)).alloc (.cells #[v2] T2)).alloc (.cells #[v3] T3)).cell? ⟨w.heap.size, 0, none⟩ = some v1 ∧ (((w.alloc (.cells #[v1] T1)).alloc (.cells #[v2] T2)).alloc (.cells #[v3] T3)).cell? ⟨w.heap.size + 1, 0, none⟩ = some v2 ∧
    (((w.alloc (.cells #[v1] T1)).alloc (.cells #[v2] T2)).alloc (.cells #[v3] T3)).cell? ⟨w.heap.size + 1 + 1, 0, none⟩ = some v3 ∧ (((w.alloc (.cells #[v1] T1)).alloc (.cells #[v2] T2)).alloc (.cells #[v3] T3)).heap.size = w.heap.size + 3 := by
  obtain ⟨hb, k1, k2, ks⟩ := two_boxes w v1 v2 T1 T2
  generalize (w.alloc (.cells #[v1] T1)).alloc (.cells #[v2] T2) = w2 at *
  obtain ⟨hb3, k3, ks3⟩ := one_box w2 v3 T3
  refine ⟨ptrans hb hb3, cell_below hb3 (by omega) k1, cell_below hb3 (by omega) k2, ?_, by omega⟩
  rw [ks] at k3
  exact k3
theorem t_fresh (i : Int) (s : ByteArray) (r : Int) (hr : freshE' t i s = r) (w : World) (h : TreeM w F P N y t) (hs : s.size ≤ maxLen) :
    Calls Tryz.prog 42 #[.pointer (some ⟨P, 0, none⟩), .int .u32 i, .string s] w (QIf ((t.n i).isSome = true) w r) := by
  have HR := Lib.hid hr
  have HT := Lib.hid h
  have HS := Lib.hid hs
  clear hr h hs
  go_enter Tryz.func42, Tryz.ntmps42
  go_wp2
  go_ret
  obtain ⟨hb, k1, k2, k3, ks⟩ := three_boxes w (.pointer (some ⟨P, 0, none⟩)) (.int .u32 i) (.string s) 26 23 9
  refine ⟨_, _, rfl, fun hx => ⟨97, _, rfl, enters_fresh, fun W hW => ?_⟩, hb⟩
  obtain ⟨x, hx⟩ := Option.isSome_iff_exists.1 hx
  exact t_fresh1 i x s w.heap.size (w.heap.size + 1) (w.heap.size + 1 + 1) r (by rw [← HR.out]; unfold freshE'; rw [hx]) W (HT.out.below (ptrans hb hW)) hx HS.out (cell_below hW (by omega) k1) (cell_below hW (by omega) k2) (cell_below hW (by omega) k3)
theorem q_makeAt1 {w : World} {B1 B2 : Nat} {i r : Int} (hr : roomE t i = r) (h : TreeM w F P N y t) (hB1 : B1 < w.heap.size) (hB2 : B2 < w.heap.size) (hc1 : w.cell? ⟨B1, 0, none⟩ = some (.int .u32 i)) (hc2 : w.cell? ⟨B2, 0, none⟩ = some (.pointer (some ⟨P, 0, none⟩))) :
    Question w (.func (.func 82) #[] #[.pointer (some ⟨B1, 0, none⟩), .pointer (some ⟨B2, 0, none⟩)]) r :=
  ⟨_, _, rfl, enters_makeAt1, fun W hW => t_makeAt1 i B1 B2 r hr W (h.below hW) (cell_below hW hB1 hc1) (cell_below hW hB2 hc2)⟩
theorem q_makeAt2 {w : World} {B1 B2 : Nat} {i r : Int} (hr : haveE t i = r) (h : TreeM w F P N y t) (hi : U32 i) (hB1 : B1 < w.heap.size) (hB2 : B2 < w.heap.size) (hc1 : w.cell? ⟨B1, 0, none⟩ = some (.pointer (some ⟨P, 0, none⟩))) (hc2 : w.cell? ⟨B2, 0, none⟩ = some (.int .u32 i)) :
    Question w (.func (.func 83) #[] #[.pointer (some ⟨B1, 0, none⟩), .pointer (some ⟨B2, 0, none⟩)]) r :=
  ⟨_, _, rfl, enters_makeAt2, fun W hW => t_makeAt2 i B1 B2 r hr W (h.below hW) hi (cell_below hW hB1 hc1) (cell_below hW hB2 hc2)⟩
theorem q_link {w : World} {B1 B2 : Nat} {i r : Int} (hx : (t.n i).isSome = true) (hr : linksE' t i = r) (h : TreeM w F P N y t) (hB1 : B1 < w.heap.size) (hB2 : B2 < w.heap.size) (hc1 : w.cell? ⟨B1, 0, none⟩ = some (.pointer (some ⟨P, 0, none⟩))) (hc2 : w.cell? ⟨B2, 0, none⟩ = some (.int .u32 i)) :
    Question w (.func (.func 77) #[] #[.pointer (some ⟨B1, 0, none⟩), .pointer (some ⟨B2, 0, none⟩)]) r := by
  obtain ⟨x, hx⟩ := Option.isSome_iff_exists.1 hx
  exact ⟨_, _, rfl, enters_link, fun W hW => t_link1 i x B1 B2 r (by rw [← hr]; unfold linksE'; rw [hx]) W (h.below hW) hx (cell_below hW hB1 hc1) (cell_below hW hB2 hc2)⟩
end
end Go.Proofs.YtpcjbfhgmcioaaaGreat
