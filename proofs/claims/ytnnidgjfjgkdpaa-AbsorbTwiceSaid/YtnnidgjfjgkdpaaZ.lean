/- Trees as the document has them: an entry is taken out. -/
import Derived.Test.YtnnidgjfjgkdpaaY
import Derived.Deep.DrawnRows
namespace Go.Proofs.Ytnnidgjfjgkdpaa
open Go.RowKit
attribute [local go_sem ↓] Go.wp_at_zero Go.wp_at_succ

theorem below_of_drew {B : Nat} {w w' : World} (h : Below B w.drew w') : Below B w w' := ⟨h.os, h.tape, h.output, h.size, h.block⟩
def delAt (l : List Ent) (k : Nat) : List Ent := l.take k ++ l.drop (k + 1)
set_option maxRecDepth 100000 in
set_option maxHeartbeats 4000000 in
theorem t_del (P G : Nat) (t : Tr) (ino : Int) (s : ByteArray) (k : Nat) (hk : place (ndAt t ino).l s = some k) (w : World) (h : TreeAt w P G t) (h1 : 1 ≤ ino) (h2 : ino ≤ t.length) (hsm : Small t) :
    Calls Try.prog 53 #[.pointer (some ⟨P, 0, none⟩), .int .u32 ino, .string s] w fun e w' => e = .returned (.tuple #[]) ∧ TreeAt w' P G (setNd t ino { ndAt t ino with l := delAt (ndAt t ino).l k }) ∧ w.grownBy w' (some G) := by
  have hs := h.small
  obtain ⟨c, hc1, hc2, hc⟩ := h.cell0
  obtain ⟨_, ⟨v, g1, hv1⟩, _⟩ := h.get (h.idx h1 h2)
  obtain ⟨A, c1, rfl, hcl, hcm, hread⟩ := hv1.get
  have hls := hsm.nd (h.idx h1 h2)
  have HE := Lib.hid hv1.reads.2
  have HFm := Lib.hid hv1.form
  have HP : Hid (placeI (ndAt t ino).l s = (k : Nat)) := by show _ = _; unfold placeI; rw [hk]
  obtain ⟨x, hx, _⟩ := place_get hk
  have hkl := (List.getElem?_eq_some_iff.1 hx).1
  have hkl' : k < (nd t (ino.toNat - 1)).l.length := hkl
  clear hkl hx hk
  obtain ⟨l, hl⟩ : ∃ l, (nd t (ino.toNat - 1)).l = l := ⟨_, rfl⟩
  have HL := Lib.hid hl
  rw [hl] at g1 hcl hread hls HE hkl'
  have HR := Lib.hid hread
  clear hread hl hv1
  unfold maxLen at hc2 hcm
  have b0 : (0 : Int) ≤ (k : Int) := by omega
  have b1 : (k : Int) ≤ (c1 : Int) := by omega
  have b2 : (k : Int) + 1 ≤ (l.length : Int) := by omega
  have b3 : (0 : Int) ≤ (k : Int) + 1 := by omega
  have b5 : ((k : Int) + 1).toNat = k + 1 := by omega
  have b6 : (k : Int) ≤ (l.length : Int) := by omega
  have b4 : IntKind.i64.wrap ((k : Int) + 1) = (k : Int) + 1 := IntWalk.i64_in _ (by omega)
  have Hfin : Hid (setNd t ino { ndAt t ino with l := l.take k ++ l.drop (k + 1) } = setNd t ino { ndAt t ino with l := delAt (ndAt t ino).l k }) := by
    show _ = _
    rw [show (ndAt t ino).l = l from HL.out]; rfl
  by_cases hcj : c1 = k + 1
  · have e1 : (c1 : Int) ≤ (k : Int) + 1 := by omega
    have e2 : (k : Int) + 1 ≤ (c1 : Int) := by omega
    have e3 : c1 ≤ k + 1 := by omega
    have hle : l.length ≤ k + 1 := by omega
    clear hcj
    go_enter Try.func53, Try.ntmps53
    go_wp2_with (first | (go_at_call 39; refine (t_at P G t ino s _ HP.out _ h h1 h2).mono ?_; rintro e w' ⟨rfl, rfl⟩))
    go_region_held3 (fun _ => True) (trivial) (first
      | (refine step_append_ents (by rfl) (.const (.slice none 0 0)) (.tmp 25) (by rfl) w.heap.size (.slice none 0 0) 0 [] (by rfl) (World.ownsRow_nil _ _ _ _) _ k _ (l.take k) (by rfl) (HE.out.take k (by omega)) k (by omega) (l.take k) (by rfl) (by omega) (Nat.le_refl _) ?_; intro A1 c2 w1 hown1 hb1; have HO1 := Lib.hid hown1; have HB1 := Lib.hid (below_of_drew hb1); clear hown1 hb1)
      | (refine step_append_ents (by rfl) (.tmp 26) (.tmp 30) (by rfl) w.heap.size (.slice A1 k c2) k (l.take k) (by rfl) HO1.out _ _ _ (l.drop (k + 1)) (by rfl) (EReads.nil _ _ _ _ (by omega) (List.drop_eq_nil_of_le (by omega))) (l.length - 1) (by omega) (l.take k ++ l.drop (k + 1)) (by rfl) (by omega) HB1.out.size ?_; intro A3 c4 w3 hown3 hb3; have HB3 := Lib.hid (HB1.out.trans hb3); have HV3 := Lib.hid (EntsAt.of_own hown3 (by simp; omega)); have HT3 := Lib.hid (h.below HB3.out); clear hown3 hb3 HO1 HB1)
      | (go_at_call 52; refine (t_set P G t ino A3 (l.length - 1) c4 _ w3 HT3.out HV3.out h1 h2).mono ?_; rintro e w4 ⟨rfl, ht4, hg4⟩; have HT4 := Lib.hid ht4; have HG4 := Lib.hid hg4; clear ht4 hg4))
    go_end0
    exact ⟨rfl, by rw [← Hfin.out]; exact HT4.out, grown_trans (grown_of_below HB3.out) HG4.out⟩
  · have hcj' : k + 1 < c1 := by omega
    obtain ⟨bb, rfl⟩ : ∃ b, A = some ⟨b, 0, none⟩ := HFm.out.elim (fun hh => absurd hh.2 (by omega)) id
    go_enter Try.func53, Try.ntmps53
    go_wp2_with (first | (go_at_call 39; refine (t_at P G t ino s _ HP.out _ h h1 h2).mono ?_; rintro e w' ⟨rfl, rfl⟩))
    go_region_held3 (fun _ => True) (trivial) (first
      | (refine step_append_ents (by rfl) (.const (.slice none 0 0)) (.tmp 25) (by rfl) w.heap.size (.slice none 0 0) 0 [] (by rfl) (World.ownsRow_nil _ _ _ _) _ k _ (l.take k) (by rfl) (HE.out.take k (by omega)) k (by omega) (l.take k) (by rfl) (by omega) (Nat.le_refl _) ?_; intro A1 c2 w1 hown1 hb1; have HO1 := Lib.hid hown1; have HB1 := Lib.hid (below_of_drew hb1); clear hown1 hb1)
      | (refine step_append_ents (by rfl) (.tmp 26) (.tmp 30) (by rfl) w.heap.size (.slice A1 k c2) k (l.take k) (by rfl) HO1.out _ _ _ (l.drop (k + 1)) (by rfl) ((HE.out.below HB1.out).drop0 (k + 1) (by omega)) (l.length - 1) (by omega) (l.take k ++ l.drop (k + 1)) (by rfl) (by omega) HB1.out.size ?_; intro A3 c4 w3 hown3 hb3; have HB3 := Lib.hid (HB1.out.trans hb3); have HV3 := Lib.hid (EntsAt.of_own hown3 (by simp; omega)); have HT3 := Lib.hid (h.below HB3.out); clear hown3 hb3 HO1 HB1)
      | (go_at_call 52; refine (t_set P G t ino A3 (l.length - 1) c4 _ w3 HT3.out HV3.out h1 h2).mono ?_; rintro e w4 ⟨rfl, ht4, hg4⟩; have HT4 := Lib.hid ht4; have HG4 := Lib.hid hg4; clear ht4 hg4))
    go_end0
    exact ⟨rfl, by rw [← Hfin.out]; exact HT4.out, grown_trans (grown_of_below HB3.out) HG4.out⟩
end Go.Proofs.Ytnnidgjfjgkdpaa
