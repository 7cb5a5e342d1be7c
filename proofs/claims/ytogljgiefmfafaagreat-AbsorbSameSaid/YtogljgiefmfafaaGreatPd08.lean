/- The program's tree: Rename, in general. -/
import Derived.Test.YtogljgiefmfafaaGreatPd07
namespace Go.Proofs.YtogljgiefmfafaaGreat
open Go.RowKit Go.Maps
structure MoveOk (t : PT) (a : Int) (s : ByteArray) (b : Int) (s2 : ByteArray) (ino : Int) (t' : PT) (xa xi xb xj : PN) : Prop where
 na : t.n a = some xa
 ent : xa.l s.data.toList = some ino
 ni : t.n ino = some xi
 ia : ino ≠ a
 li : 0 ≤ xi.links ∧ xi.links ≤ 1000000
 nb : (leaveT t a xa s ino xi).n b = some xb
 nj : (leaveT t a xa s ino xi).n ino = some xj
 ib : ino ≠ b
 lj : 0 ≤ xj.links ∧ xj.links ≤ 1000000
 is : t' = enterT (leaveT t a xa s ino xi) b xb s2 ino xj
section
variable {F : Nat → Prop} {P N : Nat} {y : Lay} {t : PT}
set_option maxRecDepth 100000 in
set_option maxHeartbeats 2000000 in
theorem t_rename1 (a : Int) (s : ByteArray) (b : Int) (s2 : ByteArray) (r : Int) (w : World) (h : TreeM w F P N y t) (ha : U32 a) (hb : U32 b) (hs : s.size ≤ maxLen) (hs2 : s2.size ≤ maxLen)
  (he : firstE [namesE [s, s2], thereE t [a, b], dirsE t [a, b]] = r) (hr : r ≠ 0) :
  Calls Tryz.prog 175 #[.pointer (some ⟨P, 0, none⟩), .int .u32 a, .string s, .int .u32 b, .string s2] w fun e w' => e = .returned (.int .i64 r) ∧ Below w.heap.size w w' := by
 have HNm := Lib.hid (names_later2 s s2 hs hs2)
 have HTh := Lib.hid (there_later2 h a b ha hb)
 have HDi := Lib.hid (dirs_later2 h a b)
 have HE := Lib.hid he
 have hr' : (r != 0) = true := by simpa using hr
 clear h he hr
 go_enter Tryz.func175, Tryz.ntmps175
 go_wp2_with (first
  | (go_at_call 179; (with_reducible refine (HNm.out _ _ _ (SliceAt.built' w [.string s, .string s2] _ (w.heap.size) rfl)).mono ?_); rintro e w1 hq; obtain ⟨g1, l1, rfl, hq1, hb1⟩ := hq.get; have HQ1 := Lib.hid hq1; have HB1 := Lib.hid (ptrans (below_a1 w _) hb1); clear hq hq1 hb1)
  | (go_at_call 48; (with_reducible refine (HTh.out _ _ _ (ptrans HB1.out (below_a1 w1 _)) (SliceAt.built' w1 [.int .u32 a, .int .u32 b] _ (w1.heap.size) rfl)).mono ?_); rintro e w2 hq; obtain ⟨g2, l2, rfl, hq2, hb2⟩ := hq.get; have HQ2 := Lib.hid hq2; have HB2 := Lib.hid (ptrans (ptrans HB1.out (below_a1 w1 _)) hb2); have HQ1' := Lib.hid (HQ1.out.later (ptrans (below_a1 w1 _) hb2)); clear hq hq2 hb2)
  | (go_at_call 80; (with_reducible refine (HDi.out _ _ _ (ptrans HB2.out (below_a1 w2 _)) (SliceAt.built' w2 [.int .u32 a, .int .u32 b] _ (w2.heap.size) rfl)).mono ?_); rintro e w3 ⟨g3, l3, rfl, hq3, hb3⟩; have HQ3 := Lib.hid hq3; have HB3 := Lib.hid (ptrans (ptrans HB2.out (below_a1 w2 _)) hb3); have HQ1'' := Lib.hid (HQ1'.out.later (ptrans (below_a1 w2 _) hb3)); have HQ2' := Lib.hid (HQ2.out.later (ptrans (below_a1 w2 _) hb3)); clear hq3 hb3)
  | (go_at_call 47; (with_reducible refine (check_built w3 P [.func (.func g1) #[] l1, .func (.func g2) #[] l2, .func (.func g3) #[] l3] 3 [namesE [s, s2], thereE t [a, b], dirsE t [a, b]] r HE.out _ rfl (by omega) (asked_rename HQ1''.out HQ2'.out HQ3.out) (by simp)).mono ?_); rintro e w4 ⟨rfl, hb4⟩
     have HB := Lib.hid (ptrans (ptrans HB3.out (below_a1 _ _)) hb4)
     clear hb4 HQ1 HQ2 HQ3 HQ1' HQ1'' HQ2' HB1 HB2 HB3))
 go_ret
 exact ⟨rfl, HB.out⟩
set_option maxRecDepth 100000 in
set_option maxHeartbeats 2000000 in
theorem t_rename2 (a : Int) (s : ByteArray) (b : Int) (s2 : ByteArray) (v r : Int) (w : World) (h : TreeM w F P N y t) (ha : U32 a) (hb : U32 b) (hs : s.size ≤ maxLen) (hs2 : s2.size ≤ maxLen)
  (he : firstE [namesE [s, s2], thereE t [a, b], dirsE t [a, b]] = 0) (hl : lookP t a s = (v, r)) (hr : r ≠ 0) :
  Calls Tryz.prog 175 #[.pointer (some ⟨P, 0, none⟩), .int .u32 a, .string s, .int .u32 b, .string s2] w fun e w' => e = .returned (.int .i64 r) ∧ Below w.heap.size w w' := by
 have HNm := Lib.hid (names_later2 s s2 hs hs2)
 have HTh := Lib.hid (there_later2 h a b ha hb)
 have HDi := Lib.hid (dirs_later2 h a b)
 have HE := Lib.hid he
 have HL := Lib.hid (fun W (hW : Below w.heap.size w W) => t_look a s v r hl W (h.below hW) ha hs)
 have hr' : (r != 0) = true := by simpa using hr
 clear h he hr hl
 go_enter Tryz.func175, Tryz.ntmps175
 go_wp2_with (first
  | (go_at_call 179; (with_reducible refine (HNm.out _ _ _ (SliceAt.built' w [.string s, .string s2] _ (w.heap.size) rfl)).mono ?_); rintro e w1 hq; obtain ⟨g1, l1, rfl, hq1, hb1⟩ := hq.get; have HQ1 := Lib.hid hq1; have HB1 := Lib.hid (ptrans (below_a1 w _) hb1); clear hq hq1 hb1)
  | (go_at_call 48; (with_reducible refine (HTh.out _ _ _ (ptrans HB1.out (below_a1 w1 _)) (SliceAt.built' w1 [.int .u32 a, .int .u32 b] _ (w1.heap.size) rfl)).mono ?_); rintro e w2 hq; obtain ⟨g2, l2, rfl, hq2, hb2⟩ := hq.get; have HQ2 := Lib.hid hq2; have HB2 := Lib.hid (ptrans (ptrans HB1.out (below_a1 w1 _)) hb2); have HQ1' := Lib.hid (HQ1.out.later (ptrans (below_a1 w1 _) hb2)); clear hq hq2 hb2)
  | (go_at_call 80; (with_reducible refine (HDi.out _ _ _ (ptrans HB2.out (below_a1 w2 _)) (SliceAt.built' w2 [.int .u32 a, .int .u32 b] _ (w2.heap.size) rfl)).mono ?_); rintro e w3 ⟨g3, l3, rfl, hq3, hb3⟩; have HQ3 := Lib.hid hq3; have HB3 := Lib.hid (ptrans (ptrans HB2.out (below_a1 w2 _)) hb3); have HQ1'' := Lib.hid (HQ1'.out.later (ptrans (below_a1 w2 _) hb3)); have HQ2' := Lib.hid (HQ2.out.later (ptrans (below_a1 w2 _) hb3)); clear hq3 hb3)
  | (go_at_call 47; (with_reducible refine (check_built w3 P [.func (.func g1) #[] l1, .func (.func g2) #[] l2, .func (.func g3) #[] l3] 3 [namesE [s, s2], thereE t [a, b], dirsE t [a, b]] 0 HE.out _ rfl (by omega) (asked_rename HQ1''.out HQ2'.out HQ3.out) (by simp)).mono ?_); rintro e w4 ⟨rfl, hb4⟩
     have HB := Lib.hid (ptrans (ptrans HB3.out (below_a1 _ _)) hb4)
     clear hb4 HQ1 HQ2 HQ3 HQ1' HQ1'' HQ2' HB1 HB2 HB3)
  | (go_at_call 133; refine (HL.out w4 HB.out).mono ?_; rintro e w5 ⟨rfl, hb5⟩; have HB5 := Lib.hid (ptrans HB.out hb5); clear hb5))
 go_ret
 exact ⟨rfl, HB5.out⟩
set_option maxRecDepth 100000 in
set_option maxHeartbeats 2000000 in
theorem t_rename5 (a : Int) (s : ByteArray) (b : Int) (s2 : ByteArray) (ino : Int) (x xb0 : PN) (k : Nat) (w : World) (h : TreeM w F P N y t) (ha : U32 a) (hb : U32 b) (hs : s.size ≤ maxLen) (hs2 : s2.size ≤ maxLen)
  (he : firstE [namesE [s, s2], thereE t [a, b], dirsE t [a, b]] = 0) (hl : lookP t a s = (ino, 0)) (hx : t.n ino = some x) (hBl : (x.kind == 2) = true → Ends t k b ∧ belowP t ino k b = false) (hxb : t.n b = some xb0) (heb0 : (xb0.l s2.data.toList).getD 0 = ino) (hz : ino ≠ 0) :
  Calls Tryz.prog 175 #[.pointer (some ⟨P, 0, none⟩), .int .u32 a, .string s, .int .u32 b, .string s2] w fun e w' => e = .returned (.int .i64 0) ∧ Below w.heap.size w w' := by
 have HNm := Lib.hid (names_later2 s s2 hs hs2)
 have HTh := Lib.hid (there_later2 h a b ha hb)
 have HDi := Lib.hid (dirs_later2 h a b)
 have HE := Lib.hid he
 have HL := Lib.hid (fun W (hW : Below w.heap.size w W) => t_look a s ino 0 hl W (h.below hW) ha hs)
 obtain ⟨d, hd⟩ : ∃ d, (x.kind == 2) = d := ⟨_, rfl⟩
 rw [hd] at hBl
 have HBe := Lib.hid (fun (hdt : d = true) W (hW : Below w.heap.size w W) => t_belowP b ino k false (hBl hdt).2 (hBl hdt).1 W (h.below hW))
 have HT := Lib.hid h
 have HX := Lib.hid hx
 have HXB := Lib.hid hxb
 have HK := Lib.hid hd
 have hs2H := Lib.hid hs2
 have HEB := Lib.hid heb0
 have hz' : (ino != 0) = true := by simpa using hz
 clear h he hl hx hd hBl hxb heb0 hz
 go_enter Tryz.func175, Tryz.ntmps175
 go_wp2_with (first
  | (go_at_call 179; (with_reducible refine (HNm.out _ _ _ (SliceAt.built' w [.string s, .string s2] _ (w.heap.size) rfl)).mono ?_); rintro e w1 hq; obtain ⟨g1, l1, rfl, hq1, hb1⟩ := hq.get; have HQ1 := Lib.hid hq1; have HB1 := Lib.hid (ptrans (below_a1 w _) hb1); clear hq hq1 hb1)
  | (go_at_call 48; (with_reducible refine (HTh.out _ _ _ (ptrans HB1.out (below_a1 w1 _)) (SliceAt.built' w1 [.int .u32 a, .int .u32 b] _ (w1.heap.size) rfl)).mono ?_); rintro e w2 hq; obtain ⟨g2, l2, rfl, hq2, hb2⟩ := hq.get; have HQ2 := Lib.hid hq2; have HB2 := Lib.hid (ptrans (ptrans HB1.out (below_a1 w1 _)) hb2); have HQ1' := Lib.hid (HQ1.out.later (ptrans (below_a1 w1 _) hb2)); clear hq hq2 hb2)
  | (go_at_call 80; (with_reducible refine (HDi.out _ _ _ (ptrans HB2.out (below_a1 w2 _)) (SliceAt.built' w2 [.int .u32 a, .int .u32 b] _ (w2.heap.size) rfl)).mono ?_); rintro e w3 ⟨g3, l3, rfl, hq3, hb3⟩; have HQ3 := Lib.hid hq3; have HB3 := Lib.hid (ptrans (ptrans HB2.out (below_a1 w2 _)) hb3); have HQ1'' := Lib.hid (HQ1'.out.later (ptrans (below_a1 w2 _) hb3)); have HQ2' := Lib.hid (HQ2.out.later (ptrans (below_a1 w2 _) hb3)); clear hq3 hb3)
  | (go_at_call 47; (with_reducible refine (check_built w3 P [.func (.func g1) #[] l1, .func (.func g2) #[] l2, .func (.func g3) #[] l3] 3 [namesE [s, s2], thereE t [a, b], dirsE t [a, b]] 0 HE.out _ rfl (by omega) (asked_rename HQ1''.out HQ2'.out HQ3.out) (by simp)).mono ?_); rintro e w4 ⟨rfl, hb4⟩
     have HB := Lib.hid (ptrans (ptrans HB3.out (below_a1 _ _)) hb4)
     clear hb4 HQ1 HQ2 HQ3 HQ1' HQ1'' HQ2' HB1 HB2 HB3)
  | (go_at_call 133; refine (HL.out w4 HB.out).mono ?_; rintro e w5 ⟨rfl, hb5⟩
     have hb := ptrans HB.out hb5
     have hT := HT.out.below hb
     have c1 := hT.c1
     have hlk := hT.look_some HX.out
     have hlb := hT.look_some HXB.out
     have HD := Lib.hid (t_isdir (y.f ino) x.kind d HK.out w5 ((hT.node ino x HX.out).cell 0))
     have kb3 : w5.cell? ⟨y.f b, 3, none⟩ = some (.map (some (y.L b))) := (hT.node b xb0 HXB.out).cell 3
     have heb := (hT.node b xb0 HXB.out).look hs2H.out
     rw [HEB.out] at heb
     have HB5 := Lib.hid hb
     clear hb hb5 hT)
  | (go_at_call 93; refine HD.out.mono ?_; rintro e w' ⟨rfl, rfl⟩)
  | (go_at_call 222; refine (HBe.out (by assumption) _ HB5.out).mono ?_; rintro e w' ⟨rfl, rfl⟩))
 all_goals go_ret
 all_goals exact ⟨rfl, HB5.out⟩
set_option maxRecDepth 100000 in
set_option maxHeartbeats 2000000 in
theorem t_rename4 (a : Int) (s : ByteArray) (b : Int) (s2 : ByteArray) (ino : Int) (x xb0 xa xi xb xj : PN) (k : Nat) (t' : PT) (w : World) (h : TreeM w F P N y t) (ha : U32 a) (hb : U32 b) (hs : s.size ≤ maxLen) (hs2 : s2.size ≤ maxLen) (hN : N < 900000)
  (he : firstE [namesE [s, s2], thereE t [a, b], dirsE t [a, b]] = 0) (hl : lookP t a s = (ino, 0)) (hx : t.n ino = some x) (hBl : (x.kind == 2) = true → Ends t k b ∧ belowP t ino k b = false) (hxb : t.n b = some xb0) (heb0 : (xb0.l s2.data.toList).getD 0 = 0) (hm : MoveOk t a s b s2 ino t' xa xi xb xj) :
  Calls Tryz.prog 175 #[.pointer (some ⟨P, 0, none⟩), .int .u32 a, .string s, .int .u32 b, .string s2] w fun e w' => e = .returned (.int .i64 0) ∧ Became w w' F P (N + 1) t' := by
 have HNm := Lib.hid (names_later2 s s2 hs hs2)
 have HTh := Lib.hid (there_later2 h a b ha hb)
 have HDi := Lib.hid (dirs_later2 h a b)
 have HE := Lib.hid he
 have HL := Lib.hid (fun W (hW : Below w.heap.size w W) => t_look a s ino 0 hl W (h.below hW) ha hs)
 obtain ⟨d, hd⟩ : ∃ d, (x.kind == 2) = d := ⟨_, rfl⟩
 rw [hd] at hBl
 have HBe := Lib.hid (fun (hdt : d = true) W (hW : Below w.heap.size w W) => t_belowP b ino k false (hBl hdt).2 (hBl hdt).1 W (h.below hW))
 have HT := Lib.hid h
 have HX := Lib.hid hx
 have HXB := Lib.hid hxb
 have HK := Lib.hid hd
 have hs2H := Lib.hid hs2
 have HEB := Lib.hid heb0
 have HLV := Lib.hid (fun W (hW : TreeM W F P N y t) => t_leave a s ino xa xi W hW hm.na hm.ent hm.ni hm.ia hs hm.li)
 have HEN := Lib.hid (fun W (hW : TreeM W F P N y (leaveT t a xa s ino xi)) => t_enter b s2 ino xb xj W hW (by omega) hm.nb hm.nj hm.ib hs2 hm.lj)
 have HIS := Lib.hid hm.is
 clear h he hl hx hd hBl hxb heb0 hm hN
 go_enter Tryz.func175, Tryz.ntmps175
 go_wp2_with (first
  | (go_at_call 179; (with_reducible refine (HNm.out _ _ _ (SliceAt.built' w [.string s, .string s2] _ (w.heap.size) rfl)).mono ?_); rintro e w1 hq; obtain ⟨g1, l1, rfl, hq1, hb1⟩ := hq.get; have HQ1 := Lib.hid hq1; have HB1 := Lib.hid (ptrans (below_a1 w _) hb1); clear hq hq1 hb1)
  | (go_at_call 48; (with_reducible refine (HTh.out _ _ _ (ptrans HB1.out (below_a1 w1 _)) (SliceAt.built' w1 [.int .u32 a, .int .u32 b] _ (w1.heap.size) rfl)).mono ?_); rintro e w2 hq; obtain ⟨g2, l2, rfl, hq2, hb2⟩ := hq.get; have HQ2 := Lib.hid hq2; have HB2 := Lib.hid (ptrans (ptrans HB1.out (below_a1 w1 _)) hb2); have HQ1' := Lib.hid (HQ1.out.later (ptrans (below_a1 w1 _) hb2)); clear hq hq2 hb2)
  | (go_at_call 80; (with_reducible refine (HDi.out _ _ _ (ptrans HB2.out (below_a1 w2 _)) (SliceAt.built' w2 [.int .u32 a, .int .u32 b] _ (w2.heap.size) rfl)).mono ?_); rintro e w3 ⟨g3, l3, rfl, hq3, hb3⟩; have HQ3 := Lib.hid hq3; have HB3 := Lib.hid (ptrans (ptrans HB2.out (below_a1 w2 _)) hb3); have HQ1'' := Lib.hid (HQ1'.out.later (ptrans (below_a1 w2 _) hb3)); have HQ2' := Lib.hid (HQ2.out.later (ptrans (below_a1 w2 _) hb3)); clear hq3 hb3)
  | (go_at_call 47; (with_reducible refine (check_built w3 P [.func (.func g1) #[] l1, .func (.func g2) #[] l2, .func (.func g3) #[] l3] 3 [namesE [s, s2], thereE t [a, b], dirsE t [a, b]] 0 HE.out _ rfl (by omega) (asked_rename HQ1''.out HQ2'.out HQ3.out) (by simp)).mono ?_); rintro e w4 ⟨rfl, hb4⟩
     have HB := Lib.hid (ptrans (ptrans HB3.out (below_a1 _ _)) hb4)
     clear hb4 HQ1 HQ2 HQ3 HQ1' HQ1'' HQ2' HB1 HB2 HB3)
  | (go_at_call 133; refine (HL.out w4 HB.out).mono ?_; rintro e w5 ⟨rfl, hb5⟩
     have hb := ptrans HB.out hb5
     have hT := HT.out.below hb
     have c1 := hT.c1
     have hlk := hT.look_some HX.out
     have hlb := hT.look_some HXB.out
     have HD := Lib.hid (t_isdir (y.f ino) x.kind d HK.out w5 ((hT.node ino x HX.out).cell 0))
     have kb3 : w5.cell? ⟨y.f b, 3, none⟩ = some (.map (some (y.L b))) := (hT.node b xb0 HXB.out).cell 3
     have heb := (hT.node b xb0 HXB.out).look hs2H.out
     rw [HEB.out] at heb
     have HT5 := Lib.hid hT; have HB5 := Lib.hid hb
     clear hb hb5)
  | (go_at_call 93; refine HD.out.mono ?_; rintro e w' ⟨rfl, rfl⟩)
  | (go_at_call 222; refine (HBe.out (by assumption) _ HB5.out).mono ?_; rintro e w' ⟨rfl, rfl⟩)
  | (go_at_call 224; refine (HLV.out _ HT5.out).mono ?_; rintro e w6 ⟨rfl, hT6, hU6⟩; have HT6 := Lib.hid hT6; have HU6 := Lib.hid hU6; clear hT6 hU6)
  | (go_at_call 217; refine (HEN.out _ HT6.out).mono ?_; rintro e w7 ⟨rfl, hT7, hU7⟩; have HT7 := Lib.hid hT7; have HU7 := Lib.hid hU7; clear hT7 hU7))
 all_goals go_ret
 all_goals exact ⟨rfl, _, _, HIS.out ▸ HT7.out, (Turn.of_below F HB5.out).trans (HU6.out.trans HU7.out)⟩
set_option maxRecDepth 100000 in
set_option maxHeartbeats 2000000 in
theorem t_rename6 (a : Int) (s : ByteArray) (b : Int) (s2 : ByteArray) (ino old : Int) (x xb0 xo : PN) (k : Nat) (r : Int) (w : World) (h : TreeM w F P N y t) (ha : U32 a) (hb : U32 b) (hs : s.size ≤ maxLen) (hs2 : s2.size ≤ maxLen)
  (he : firstE [namesE [s, s2], thereE t [a, b], dirsE t [a, b]] = 0) (hl : lookP t a s = (ino, 0)) (hx : t.n ino = some x) (hBl : (x.kind == 2) = true → Ends t k b ∧ belowP t ino k b = false) (hxb : t.n b = some xb0) (heb0 : (xb0.l s2.data.toList).getD 0 = old) (hz : old ≠ 0) (hoi : old ≠ ino) (hxo : t.n old = some xo) (hg : givesE x xo = r) (hr : r ≠ 0) :
  Calls Tryz.prog 175 #[.pointer (some ⟨P, 0, none⟩), .int .u32 a, .string s, .int .u32 b, .string s2] w fun e w' => e = .returned (.int .i64 r) ∧ Below w.heap.size w w' := by
 have HNm := Lib.hid (names_later2 s s2 hs hs2)
 have HTh := Lib.hid (there_later2 h a b ha hb)
 have HDi := Lib.hid (dirs_later2 h a b)
 have HE := Lib.hid he
 have HL := Lib.hid (fun W (hW : Below w.heap.size w W) => t_look a s ino 0 hl W (h.below hW) ha hs)
 obtain ⟨d, hd⟩ : ∃ d, (x.kind == 2) = d := ⟨_, rfl⟩
 rw [hd] at hBl
 have HBe := Lib.hid (fun (hdt : d = true) W (hW : Below w.heap.size w W) => t_belowP b ino k false (hBl hdt).2 (hBl hdt).1 W (h.below hW))
 have HT := Lib.hid h
 have HX := Lib.hid hx
 have HXB := Lib.hid hxb
 have HK := Lib.hid hd
 have hs2H := Lib.hid hs2
 have HEB := Lib.hid heb0
 have HXO := Lib.hid hxo
 have HG := Lib.hid hg
 have hz' : (old != 0) = true := by simpa using hz
 have ho' : (old == ino) = false := by simpa using hoi
 have hr' : (r != 0) = true := by simpa using hr
 clear h he hl hx hd hBl hxb heb0 hz hoi hxo hg hr
 go_enter Tryz.func175, Tryz.ntmps175
 go_wp2_with (first
  | (go_at_call 179; (with_reducible refine (HNm.out _ _ _ (SliceAt.built' w [.string s, .string s2] _ (w.heap.size) rfl)).mono ?_); rintro e w1 hq; obtain ⟨g1, l1, rfl, hq1, hb1⟩ := hq.get; have HQ1 := Lib.hid hq1; have HB1 := Lib.hid (ptrans (below_a1 w _) hb1); clear hq hq1 hb1)
  | (go_at_call 48; (with_reducible refine (HTh.out _ _ _ (ptrans HB1.out (below_a1 w1 _)) (SliceAt.built' w1 [.int .u32 a, .int .u32 b] _ (w1.heap.size) rfl)).mono ?_); rintro e w2 hq; obtain ⟨g2, l2, rfl, hq2, hb2⟩ := hq.get; have HQ2 := Lib.hid hq2; have HB2 := Lib.hid (ptrans (ptrans HB1.out (below_a1 w1 _)) hb2); have HQ1' := Lib.hid (HQ1.out.later (ptrans (below_a1 w1 _) hb2)); clear hq hq2 hb2)
  | (go_at_call 80; (with_reducible refine (HDi.out _ _ _ (ptrans HB2.out (below_a1 w2 _)) (SliceAt.built' w2 [.int .u32 a, .int .u32 b] _ (w2.heap.size) rfl)).mono ?_); rintro e w3 ⟨g3, l3, rfl, hq3, hb3⟩; have HQ3 := Lib.hid hq3; have HB3 := Lib.hid (ptrans (ptrans HB2.out (below_a1 w2 _)) hb3); have HQ1'' := Lib.hid (HQ1'.out.later (ptrans (below_a1 w2 _) hb3)); have HQ2' := Lib.hid (HQ2.out.later (ptrans (below_a1 w2 _) hb3)); clear hq3 hb3)
  | (go_at_call 47; (with_reducible refine (check_built w3 P [.func (.func g1) #[] l1, .func (.func g2) #[] l2, .func (.func g3) #[] l3] 3 [namesE [s, s2], thereE t [a, b], dirsE t [a, b]] 0 HE.out _ rfl (by omega) (asked_rename HQ1''.out HQ2'.out HQ3.out) (by simp)).mono ?_); rintro e w4 ⟨rfl, hb4⟩
     have HB := Lib.hid (ptrans (ptrans HB3.out (below_a1 _ _)) hb4)
     clear hb4 HQ1 HQ2 HQ3 HQ1' HQ1'' HQ2' HB1 HB2 HB3)
  | (go_at_call 133; refine (HL.out w4 HB.out).mono ?_; rintro e w5 ⟨rfl, hb5⟩
     have hb := ptrans HB.out hb5
     have hT := HT.out.below hb
     have c1 := hT.c1
     have hlk := hT.look_some HX.out
     have hlb := hT.look_some HXB.out
     have HD := Lib.hid (t_isdir (y.f ino) x.kind d HK.out w5 ((hT.node ino x HX.out).cell 0))
     have kb3 : w5.cell? ⟨y.f b, 3, none⟩ = some (.map (some (y.L b))) := (hT.node b xb0 HXB.out).cell 3
     have heb := (hT.node b xb0 HXB.out).look hs2H.out
     rw [HEB.out] at heb
     have HT5 := Lib.hid hT; have hlo := hT.look_some HXO.out; have HGI := Lib.hid (t_gives _ _ _ _ _ _ x xo r HG.out w5 (hT.node ino x HX.out) (hT.node old xo HXO.out)); have HB5 := Lib.hid hb
     clear hb hb5)
  | (go_at_call 93; refine HD.out.mono ?_; rintro e w' ⟨rfl, rfl⟩)
  | (go_at_call 222; refine (HBe.out (by assumption) _ HB5.out).mono ?_; rintro e w' ⟨rfl, rfl⟩)
  | (go_at_call 223; refine HGI.out.mono ?_; rintro e w' ⟨rfl, rfl⟩))
 all_goals go_ret
 all_goals exact ⟨rfl, HB5.out⟩
set_option maxRecDepth 100000 in
set_option maxHeartbeats 2000000 in
theorem t_rename7 (a : Int) (s : ByteArray) (b : Int) (s2 : ByteArray) (ino old : Int) (x xb0 xo xa xi xb xj : PN) (k : Nat) (t' : PT) (w : World) (h : TreeM w F P N y t) (ha : U32 a) (hb : U32 b) (hs : s.size ≤ maxLen) (hs2 : s2.size ≤ maxLen) (hN : N < 900000)
  (he : firstE [namesE [s, s2], thereE t [a, b], dirsE t [a, b]] = 0) (hl : lookP t a s = (ino, 0)) (hx : t.n ino = some x) (hBl : (x.kind == 2) = true → Ends t k b ∧ belowP t ino k b = false) (hxb : t.n b = some xb0) (heb0 : (xb0.l s2.data.toList).getD 0 = old) (hz : old ≠ 0) (hoi : old ≠ ino) (hxo : t.n old = some xo) (hg : givesE x xo = 0) (hob : old ≠ b) (hlo : 0 ≤ xo.links ∧ xo.links ≤ 1000000) (hm : MoveOk (freeP (leaveT t b xb0 s2 old xo) old (outN xo)) a s b s2 ino t' xa xi xb xj) :
  Calls Tryz.prog 175 #[.pointer (some ⟨P, 0, none⟩), .int .u32 a, .string s, .int .u32 b, .string s2] w fun e w' => e = .returned (.int .i64 0) ∧ Became w w' F P (N + 1) t' := by
 have heo : xb0.l s2.data.toList = some old := by
  cases hc : xb0.l s2.data.toList with
  | none => rw [hc] at heb0; exact absurd heb0.symm hz
  | some v => rw [hc] at heb0; exact congrArg some heb0
 have HNm := Lib.hid (names_later2 s s2 hs hs2)
 have HTh := Lib.hid (there_later2 h a b ha hb)
 have HDi := Lib.hid (dirs_later2 h a b)
 have HE := Lib.hid he
 have HL := Lib.hid (fun W (hW : Below w.heap.size w W) => t_look a s ino 0 hl W (h.below hW) ha hs)
 obtain ⟨d, hd⟩ : ∃ d, (x.kind == 2) = d := ⟨_, rfl⟩
 rw [hd] at hBl
 have HBe := Lib.hid (fun (hdt : d = true) W (hW : Below w.heap.size w W) => t_belowP b ino k false (hBl hdt).2 (hBl hdt).1 W (h.below hW))
 have HT := Lib.hid h
 have HX := Lib.hid hx
 have HXB := Lib.hid hxb
 have HK := Lib.hid hd
 have hs2H := Lib.hid hs2
 have HEB := Lib.hid heb0
 have HXO := Lib.hid hxo
 obtain ⟨r, hr⟩ : ∃ r : Int, r = 0 := ⟨_, rfl⟩
 rw [← hr] at hg
 have HG := Lib.hid hg
 have hz' : (old != 0) = true := by simpa using hz
 have ho' : (old == ino) = false := by simpa using hoi
 have HLV0 := Lib.hid (fun W (hW : TreeM W F P N y t) => t_leave b s2 old xb0 xo W hW hxb heo hxo hob hs2 hlo)
 have HFR := Lib.hid (fun W (hW : TreeM W F P N y (leaveT t b xb0 s2 old xo)) => t_freeP old (outN xo) W hW (by unfold leaveT; rw [PT.set_n, if_neg hob, PT.set_n, if_pos rfl]))
 have HLV := Lib.hid (fun W (hW : TreeM W F P N y (freeP (leaveT t b xb0 s2 old xo) old (outN xo))) => t_leave a s ino xa xi W hW hm.na hm.ent hm.ni hm.ia hs hm.li)
 have HEN := Lib.hid (fun W (hW : TreeM W F P N y (leaveT (freeP (leaveT t b xb0 s2 old xo) old (outN xo)) a xa s ino xi)) => t_enter b s2 ino xb xj W hW (by omega) hm.nb hm.nj hm.ib hs2 hm.lj)
 have HIS := Lib.hid hm.is
 clear h he hl hx hd hBl hxb heb0 hz hoi hxo hg hm hN heo hlo hob
 go_enter Tryz.func175, Tryz.ntmps175
 go_wp2_with (first
  | (go_at_call 179; (with_reducible refine (HNm.out _ _ _ (SliceAt.built' w [.string s, .string s2] _ (w.heap.size) rfl)).mono ?_); rintro e w1 hq; obtain ⟨g1, l1, rfl, hq1, hb1⟩ := hq.get; have HQ1 := Lib.hid hq1; have HB1 := Lib.hid (ptrans (below_a1 w _) hb1); clear hq hq1 hb1)
  | (go_at_call 48; (with_reducible refine (HTh.out _ _ _ (ptrans HB1.out (below_a1 w1 _)) (SliceAt.built' w1 [.int .u32 a, .int .u32 b] _ (w1.heap.size) rfl)).mono ?_); rintro e w2 hq; obtain ⟨g2, l2, rfl, hq2, hb2⟩ := hq.get; have HQ2 := Lib.hid hq2; have HB2 := Lib.hid (ptrans (ptrans HB1.out (below_a1 w1 _)) hb2); have HQ1' := Lib.hid (HQ1.out.later (ptrans (below_a1 w1 _) hb2)); clear hq hq2 hb2)
  | (go_at_call 80; (with_reducible refine (HDi.out _ _ _ (ptrans HB2.out (below_a1 w2 _)) (SliceAt.built' w2 [.int .u32 a, .int .u32 b] _ (w2.heap.size) rfl)).mono ?_); rintro e w3 ⟨g3, l3, rfl, hq3, hb3⟩; have HQ3 := Lib.hid hq3; have HB3 := Lib.hid (ptrans (ptrans HB2.out (below_a1 w2 _)) hb3); have HQ1'' := Lib.hid (HQ1'.out.later (ptrans (below_a1 w2 _) hb3)); have HQ2' := Lib.hid (HQ2.out.later (ptrans (below_a1 w2 _) hb3)); clear hq3 hb3)
  | (go_at_call 47; (with_reducible refine (check_built w3 P [.func (.func g1) #[] l1, .func (.func g2) #[] l2, .func (.func g3) #[] l3] 3 [namesE [s, s2], thereE t [a, b], dirsE t [a, b]] 0 HE.out _ rfl (by omega) (asked_rename HQ1''.out HQ2'.out HQ3.out) (by simp)).mono ?_); rintro e w4 ⟨rfl, hb4⟩
     have HB := Lib.hid (ptrans (ptrans HB3.out (below_a1 _ _)) hb4)
     clear hb4 HQ1 HQ2 HQ3 HQ1' HQ1'' HQ2' HB1 HB2 HB3)
  | (go_at_call 133; refine (HL.out w4 HB.out).mono ?_; rintro e w5 ⟨rfl, hb5⟩
     have hb := ptrans HB.out hb5
     have hT := HT.out.below hb
     have c1 := hT.c1
     have hlk := hT.look_some HX.out
     have hlb := hT.look_some HXB.out
     have HD := Lib.hid (t_isdir (y.f ino) x.kind d HK.out w5 ((hT.node ino x HX.out).cell 0))
     have kb3 : w5.cell? ⟨y.f b, 3, none⟩ = some (.map (some (y.L b))) := (hT.node b xb0 HXB.out).cell 3
     have heb := (hT.node b xb0 HXB.out).look hs2H.out
     rw [HEB.out] at heb
     have HT5 := Lib.hid hT; have hlo := hT.look_some HXO.out; have HGI := Lib.hid (t_gives _ _ _ _ _ _ x xo r HG.out w5 (hT.node ino x HX.out) (hT.node old xo HXO.out)); have HB5 := Lib.hid hb
     clear hb hb5)
  | (go_at_call 93; refine HD.out.mono ?_; rintro e w' ⟨rfl, rfl⟩)
  | (go_at_call 222; refine (HBe.out (by assumption) _ HB5.out).mono ?_; rintro e w' ⟨rfl, rfl⟩)
  | (go_at_call 223; refine HGI.out.mono ?_; rintro e w' ⟨rfl, rfl⟩; subst hr)
  | (go_at_call 224; first
    | (refine (HLV0.out _ HT5.out).mono ?_; rintro e w6 ⟨rfl, hT6, hU6⟩; have HT6 := Lib.hid hT6; have HU6 := Lib.hid hU6; clear hT6 hU6 HT5)
    | (refine (HLV.out _ HT7.out).mono ?_; rintro e w8 ⟨rfl, hT8, hU8⟩; have HT8 := Lib.hid hT8; have HU8 := Lib.hid hU8; clear hT8 hU8))
  | (go_at_call 225; refine (HFR.out _ HT6.out).mono ?_; rintro e w7 ⟨rfl, hT7, hU7⟩; have HT7 := Lib.hid hT7; have HU7 := Lib.hid hU7; clear hT7 hU7)
  | (go_at_call 217; refine (HEN.out _ HT8.out).mono ?_; rintro e w9 ⟨rfl, hT9, hU9⟩; have HT9 := Lib.hid hT9; have HU9 := Lib.hid hU9; clear hT9 hU9))
 all_goals go_ret
 all_goals exact ⟨rfl, _, _, HIS.out ▸ HT9.out, (Turn.of_below F HB5.out).trans (HU6.out.trans (HU7.out.trans (HU8.out.trans HU9.out)))⟩
end
end Go.Proofs.YtogljgiefmfafaaGreat
