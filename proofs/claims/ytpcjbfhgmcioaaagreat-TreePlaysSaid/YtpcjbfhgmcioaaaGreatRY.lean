/- The program's tree: Rename, where a directory would go below itself. -/
import Derived.Test.YtpcjbfhgmcioaaaGreatRX
namespace Go.Proofs.YtpcjbfhgmcioaaaGreat
open Go.RowKit Go.Maps

section
variable {F : Nat → Prop} {P N : Nat} {y : Lay} {t : PT}
theorem asked_rename {W : World} {a b : Int} {s s2 : ByteArray} {v1 v2 v3 : Value} (q1 : Question W v1 (namesE [s, s2])) (q2 : Question W v2 (thereE t [a, b])) (q3 : (∀ i ∈ [a, b], (t.n i).isSome = true) → Question W v3 (dirsE t [a, b])) : Asked W [v1, v2, v3] [namesE [s, s2], thereE t [a, b], dirsE t [a, b]] := by
  refine Asked.of W _ _ rfl fun j e v he hv h0 => ?_
  match j with
  | 0 => simp at he hv; subst he; subst hv; exact q1
  | 1 => simp at he hv; subst he; subst hv; exact q2
  | 2 => simp at he hv; subst he; subst hv; exact q3 (there_all (h0 1 _ (by omega) rfl))
  | j + 3 => simp at he
theorem there_later2 {w : World} (h : TreeM w F P N y t) (a b : Int) (ha : U32 a) (hb : U32 b) : ∀ W A c, Below w.heap.size w W → SliceAt W A [.int .u32 a, .int .u32 b] → Calls Tryz.prog 40 #[.pointer (some ⟨P, 0, none⟩), .slice A 2 c] W (QPost W (thereE t [a, b])) :=
  fun W A c hw hA => t_there [a, b] A 2 c _ rfl W (h.below hw) rfl (by simp; exact ⟨ha, hb⟩) (by simp [maxLen]) hA
theorem dirs_later2 {w : World} (h : TreeM w F P N y t) (a b : Int) : ∀ W A c, Below w.heap.size w W → SliceAt W A [.int .u32 a, .int .u32 b] → Calls Tryz.prog 41 #[.pointer (some ⟨P, 0, none⟩), .slice A 2 c] W (QIf (∀ i ∈ [a, b], (t.n i).isSome = true) W (dirsE t [a, b])) :=
  fun W A c hw hA => t_dirsI [a, b] A 2 c _ rfl W (h.below hw) rfl (by simp [maxLen]) hA
theorem names_later2 (s s2 : ByteArray) (hs : s.size ≤ maxLen) (hs2 : s2.size ≤ maxLen) : ∀ W A c, SliceAt W A [.string s, .string s2] → Calls Tryz.prog 38 #[.slice A 2 c] W (QPost W (namesE [s, s2])) :=
  fun W A c hA => t_names [s, s2] A 2 c _ rfl W rfl (by simp; exact ⟨hs, hs2⟩) (by simp [maxLen]) hA
set_option maxRecDepth 100000 in
set_option maxHeartbeats 2000000 in
theorem t_renameLoop (a : Int) (s : ByteArray) (b : Int) (s2 : ByteArray) (ino : Int) (x : PN) (k : Nat) (w : World) (h : TreeM w F P N y t) (ha : U32 a) (hb : U32 b) (hs : s.size ≤ maxLen) (hs2 : s2.size ≤ maxLen)
    (he : firstE [namesE [s, s2], thereE t [a, b], dirsE t [a, b]] = 0) (hl : lookP t a s = (ino, 0)) (hx : t.n ino = some x) (hk : (x.kind == 2) = true) (hE : Ends t k b) (hB : belowP t ino k b = true) :
    Calls Tryz.prog 24 #[.pointer (some ⟨P, 0, none⟩), .int .u32 a, .string s, .int .u32 b, .string s2] w fun e w' => e = .returned (.int .i64 183) ∧ Below w.heap.size w w' := by
  have HNm := Lib.hid (names_later2 s s2 hs hs2)
  have HTh := Lib.hid (there_later2 h a b ha hb)
  have HDi := Lib.hid (dirs_later2 h a b)
  have HL := Lib.hid (fun W (hW : Below w.heap.size w W) => t_look a s ino 0 hl W (h.below hW) ha hs)
  have HBe := Lib.hid (fun W (hW : Below w.heap.size w W) => t_belowP b ino k true hB hE W (h.below hW))
  have HE := Lib.hid he
  have HT := Lib.hid h
  have HX := Lib.hid hx
  have HK := Lib.hid hk
  clear h he hl hx hk hE hB
  go_enter Tryz.func24, Tryz.ntmps24
  go_wp2_with (first
    | (go_at_call 38; (with_reducible refine (HNm.out _ _ _ (SliceAt.built' w [.string s, .string s2] _ (w.heap.size) rfl)).mono ?_); rintro e w1 hq; obtain ⟨g1, l1, rfl, hq1, hb1⟩ := hq.get; have HQ1 := Lib.hid hq1; have HB1 := Lib.hid (ptrans (below_a1 w _) hb1); clear hq hq1 hb1)
    | (go_at_call 40; (with_reducible refine (HTh.out _ _ _ (ptrans HB1.out (below_a1 w1 _)) (SliceAt.built' w1 [.int .u32 a, .int .u32 b] _ (w1.heap.size) rfl)).mono ?_); rintro e w2 hq; obtain ⟨g2, l2, rfl, hq2, hb2⟩ := hq.get; have HQ2 := Lib.hid hq2; have HB2 := Lib.hid (ptrans (ptrans HB1.out (below_a1 w1 _)) hb2); have HQ1' := Lib.hid (HQ1.out.later (ptrans (below_a1 w1 _) hb2)); clear hq hq2 hb2)
    | (go_at_call 41; (with_reducible refine (HDi.out _ _ _ (ptrans HB2.out (below_a1 w2 _)) (SliceAt.built' w2 [.int .u32 a, .int .u32 b] _ (w2.heap.size) rfl)).mono ?_); rintro e w3 ⟨g3, l3, rfl, hq3, hb3⟩; have HQ3 := Lib.hid hq3; have HB3 := Lib.hid (ptrans (ptrans HB2.out (below_a1 w2 _)) hb3); have HQ1'' := Lib.hid (HQ1'.out.later (ptrans (below_a1 w2 _) hb3)); have HQ2' := Lib.hid (HQ2.out.later (ptrans (below_a1 w2 _) hb3)); clear hq3 hb3)
    | (go_at_call 37; (with_reducible refine (check_built w3 P [.func (.func g1) #[] l1, .func (.func g2) #[] l2, .func (.func g3) #[] l3] 3 [namesE [s, s2], thereE t [a, b], dirsE t [a, b]] 0 HE.out _ rfl (by omega) (asked_rename HQ1''.out HQ2'.out HQ3.out) (by simp)).mono ?_); rintro e w4 ⟨rfl, hb4⟩
       have HB := Lib.hid (ptrans (ptrans HB3.out (below_a1 _ _)) hb4)
       clear hb4 HQ1 HQ2 HQ3 HQ1' HQ1'' HQ2' HB1 HB2 HB3)
    | (go_at_call 23; refine (HL.out w4 HB.out).mono ?_; rintro e w5 ⟨rfl, hb5⟩
       have hb := ptrans HB.out hb5
       have hT := HT.out.below hb
       have c1 := hT.c1
       have hlk := hT.look_some HX.out
       have HD := Lib.hid (t_isdir (y.f ino) x.kind true HK.out w5 ((hT.node ino x HX.out).cell 0))
       have HB5 := Lib.hid hb
       clear hb hb5 hT)
    | (go_at_call 47; refine HD.out.mono ?_; rintro e w' ⟨rfl, rfl⟩)
    | (go_at_call 72; refine (HBe.out _ HB5.out).mono ?_; rintro e w' ⟨rfl, rfl⟩))
  go_ret
  exact ⟨rfl, HB5.out⟩
end
end Go.Proofs.YtpcjbfhgmcioaaaGreat
