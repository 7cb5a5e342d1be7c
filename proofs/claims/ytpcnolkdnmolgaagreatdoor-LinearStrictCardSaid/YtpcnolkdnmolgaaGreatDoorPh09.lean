/- The program's tree: Rename, in general. -/
import Derived.Test.YtpcnolkdnmolgaaGreatDoorPh03
import Derived.Test.YtpcnolkdnmolgaaGreatDoorPh08
namespace Go.Proofs.YtpcnolkdnmolgaaGreatDoor
section
open Go.RowKit Go.Maps
structure MoveOk (t : PT) (a : Int) (s : ByteArray) (b : Int) (s2 : ByteArray) (ino : Int) (t' : PT) (xa xi xb xj : PN) : Prop where
 na : t.n a = some xa
 ent : xa.l s.data.toList = some ino
 ni : t.n ino = some xi
 ia : ino ≠ a
 li : 0 ≤ xi.links ∧ xi.links ≤ 1000000
 nb : (leaveT t a xa s ino xi).n b = some xb
 nj : (leaveT t a xa s ino xi).n ino = some xj
 ib : ino ≠ b
 lj : 0 ≤ xj.links ∧ xj.links ≤ 1000000
 is : t' = enterT (leaveT t a xa s ino xi) b xb s2 ino xj
section
variable {F : Nat → Prop} {P N : Nat} {y : Lay} {t : PT}
set_option maxRecDepth 100000 in
set_option maxHeartbeats 2000000 in
theorem t_rename1 (a : Int) (s : ByteArray) (b : Int) (s2 : ByteArray) (r : Int) (w : World) (h : TreeM w F P N y t) (ha : U32 a) (hb : U32 b) (hs : s.size ≤ maxLen) (hs2 : s2.size ≤ maxLen)
  (he : firstE [namesE [s, s2], thereE t [a, b], dirsE t [a, b]] = r) (hr : r ≠ 0) :
  Calls Tryz.prog 118 #[.pointer (some ⟨P, 0, none⟩), .int .u32 a, .string s, .int .u32 b, .string s2] w fun e w' => e = .returned (.int .i64 r) ∧ Below w.heap.size w w' := by
 have HNm := zz (names_later2 s s2 hs hs2)
 have HTh := zz (there_later2 h a b ha hb)
 have HDi := zz (dirs_later2 h a b)
 have HE := zz he
 have hr' : (r != 0) = true := by simpa using hr
 clear h he hr
 go_enter Tryz.func118, Tryz.ntmps118
 go_wp2_with (first
  | (go_at_call 181; (with_reducible refine (HNm.out _ _ _ (SliceAt.built' w [.string s, .string s2] _ (w.heap.size) rfl)).mono ?_); rintro e w1 hq; obtain ⟨g1, l1, rfl, hq1, hb1⟩ := hq.get; have HQ1 := zz hq1; have HB1 := zz (ptrans (below_a1 w _) hb1); clear hq hq1 hb1)
  | (go_at_call 81; (with_reducible refine (HTh.out _ _ _ (ptrans HB1.out (below_a1 w1 _)) (SliceAt.built' w1 [.int .u32 a, .int .u32 b] _ (w1.heap.size) rfl)).mono ?_); rintro e w2 hq; obtain ⟨g2, l2, rfl, hq2, hb2⟩ := hq.get; have HQ2 := zz hq2; have HB2 := zz (ptrans (ptrans HB1.out (below_a1 w1 _)) hb2); have HQ1' := zz (HQ1.out.later (ptrans (below_a1 w1 _) hb2)); clear hq hq2 hb2)
  | (go_at_call 82; (with_reducible refine (HDi.out _ _ _ (ptrans HB2.out (below_a1 w2 _)) (SliceAt.built' w2 [.int .u32 a, .int .u32 b] _ (w2.heap.size) rfl)).mono ?_); rintro e w3 ⟨g3, l3, rfl, hq3, hb3⟩; have HQ3 := zz hq3; have HB3 := zz (ptrans (ptrans HB2.out (below_a1 w2 _)) hb3); have HQ1'' := zz (HQ1'.out.later (ptrans (below_a1 w2 _) hb3)); have HQ2' := zz (HQ2.out.later (ptrans (below_a1 w2 _) hb3)); clear hq3 hb3)
  | (go_at_call 80; (with_reducible refine (check_built w3 P [.func (.func g1) #[] l1, .func (.func g2) #[] l2, .func (.func g3) #[] l3] 3 [namesE [s, s2], thereE t [a, b], dirsE t [a, b]] r HE.out _ rfl (by omega) (asked_rename HQ1''.out HQ2'.out HQ3.out) (by simp)).mono ?_); rintro e w4 ⟨rfl, hb4⟩
     have HB := zz (ptrans (ptrans HB3.out (below_a1 _ _)) hb4)
     clear hb4 HQ1 HQ2 HQ3 HQ1' HQ1'' HQ2' HB1 HB2 HB3))
 go_ret
 exact ⟨rfl, HB.out⟩
set_option maxRecDepth 100000 in
set_option maxHeartbeats 2000000 in
theorem t_rename2 (a : Int) (s : ByteArray) (b : Int) (s2 : ByteArray) (v r : Int) (w : World) (h : TreeM w F P N y t) (ha : U32 a) (hb : U32 b) (hs : s.size ≤ maxLen) (hs2 : s2.size ≤ maxLen)
  (he : firstE [namesE [s, s2], thereE t [a, b], dirsE t [a, b]] = 0) (hl : lookP t a s = (v, r)) (hr : r ≠ 0) :
  Calls Tryz.prog 118 #[.pointer (some ⟨P, 0, none⟩), .int .u32 a, .string s, .int .u32 b, .string s2] w fun e w' => e = .returned (.int .i64 r) ∧ Below w.heap.size w w' := by
 have HNm := zz (names_later2 s s2 hs hs2)
 have HTh := zz (there_later2 h a b ha hb)
 have HDi := zz (dirs_later2 h a b)
 have HE := zz he
 have HL := zz (fun W (hW : Below w.heap.size w W) => t_look a s v r hl W (h.below hW) ha hs)
 have hr' : (r != 0) = true := by simpa using hr
 clear h he hr hl
 go_enter Tryz.func118, Tryz.ntmps118
 go_wp2_with (first
  | (go_at_call 181; (with_reducible refine (HNm.out _ _ _ (SliceAt.built' w [.string s, .string s2] _ (w.heap.size) rfl)).mono ?_); rintro e w1 hq; obtain ⟨g1, l1, rfl, hq1, hb1⟩ := hq.get; have HQ1 := zz hq1; have HB1 := zz (ptrans (below_a1 w _) hb1); clear hq hq1 hb1)
  | (go_at_call 81; (with_reducible refine (HTh.out _ _ _ (ptrans HB1.out (below_a1 w1 _)) (SliceAt.built' w1 [.int .u32 a, .int .u32 b] _ (w1.heap.size) rfl)).mono ?_); rintro e w2 hq; obtain ⟨g2, l2, rfl, hq2, hb2⟩ := hq.get; have HQ2 := zz hq2; have HB2 := zz (ptrans (ptrans HB1.out (below_a1 w1 _)) hb2); have HQ1' := zz (HQ1.out.later (ptrans (below_a1 w1 _) hb2)); clear hq hq2 hb2)
  | (go_at_call 82; (with_reducible refine (HDi.out _ _ _ (ptrans HB2.out (below_a1 w2 _)) (SliceAt.built' w2 [.int .u32 a, .int .u32 b] _ (w2.heap.size) rfl)).mono ?_); rintro e w3 ⟨g3, l3, rfl, hq3, hb3⟩; have HQ3 := zz hq3; have HB3 := zz (ptrans (ptrans HB2.out (below_a1 w2 _)) hb3); have HQ1'' := zz (HQ1'.out.later (ptrans (below_a1 w2 _) hb3)); have HQ2' := zz (HQ2.out.later (ptrans (below_a1 w2 _) hb3)); clear hq3 hb3)
  | (go_at_call 80; (with_reducible refine (check_built w3 P [.func (.func g1) #[] l1, .func (.func g2) #[] l2, .func (.func g3) #[] l3] 3 [namesE [s, s2], thereE t [a, b], dirsE t [a, b]] 0 HE.out _ rfl (by omega) (asked_rename HQ1''.out HQ2'.out HQ3.out) (by simp)).mono ?_); rintro e w4 ⟨rfl, hb4⟩
     have HB := zz (ptrans (ptrans HB3.out (below_a1 _ _)) hb4)
     clear hb4 HQ1 HQ2 HQ3 HQ1' HQ1'' HQ2' HB1 HB2 HB3)
  | (go_at_call 145; refine (HL.out w4 HB.out).mono ?_; rintro e w5 ⟨rfl, hb5⟩; have HB5 := zz (ptrans HB.out hb5); clear hb5))
 go_ret
 exact ⟨rfl, HB5.out⟩
set_option maxRecDepth 100000 in
set_option maxHeartbeats 2000000 in
theorem t_rename5 (a : Int) (s : ByteArray) (b : Int) (s2 : ByteArray) (ino : Int) (x xb0 : PN) (k : Nat) (w : World) (h : TreeM w F P N y t) (ha : U32 a) (hb : U32 b) (hs : s.size ≤ maxLen) (hs2 : s2.size ≤ maxLen)
  (he : firstE [namesE [s, s2], thereE t [a, b], dirsE t [a, b]] = 0) (hl : lookP t a s = (ino, 0)) (hx : t.n ino = some x) (hBl : (x.kind == 2) = true → Ends t k b ∧ belowP t ino k b = false) (hxb : t.n b = some xb0) (heb0 : (xb0.l s2.data.toList).getD 0 = ino) (hz : ino ≠ 0) :
  Calls Tryz.prog 118 #[.pointer (some ⟨P, 0, none⟩), .int .u32 a, .string s, .int .u32 b, .string s2] w fun e w' => e = .returned (.int .i64 0) ∧ Below w.heap.size w w' := by
 have HNm := zz (names_later2 s s2 hs hs2)
 have HTh := zz (there_later2 h a b ha hb)
 have HDi := zz (dirs_later2 h a b)
 have HE := zz he
 have HL := zz (fun W (hW : Below w.heap.size w W) => t_look a s ino 0 hl W (h.below hW) ha hs)
 obtain ⟨d, hd⟩ : ∃ d, (x.kind == 2) = d := ⟨_, rfl⟩
 rw [hd] at hBl
 have HBe := zz (fun (hdt : d = true) W (hW : Below w.heap.size w W) => t_belowP b ino k false (hBl hdt).2 (hBl hdt).1 W (h.below hW))
 have HT := zz h
 have HX := zz hx
 have HXB := zz hxb
 have HK := zz hd
 have hs2H := zz hs2
 have HEB := zz heb0
 have hz' : (ino != 0) = true := by simpa using hz
 clear h he hl hx hd hBl hxb heb0 hz
 go_enter Tryz.func118, Tryz.ntmps118
 go_wp2_with (first
  | (go_at_call 181; (with_reducible refine (HNm.out _ _ _ (SliceAt.built' w [.string s, .string s2] _ (w.heap.size) rfl)).mono ?_); rintro e w1 hq; obtain ⟨g1, l1, rfl, hq1, hb1⟩ := hq.get; have HQ1 := zz hq1; have HB1 := zz (ptrans (below_a1 w _) hb1); clear hq hq1 hb1)
  | (go_at_call 81; (with_reducible refine (HTh.out _ _ _ (ptrans HB1.out (below_a1 w1 _)) (SliceAt.built' w1 [.int .u32 a, .int .u32 b] _ (w1.heap.size) rfl)).mono ?_); rintro e w2 hq; obtain ⟨g2, l2, rfl, hq2, hb2⟩ := hq.get; have HQ2 := zz hq2; have HB2 := zz (ptrans (ptrans HB1.out (below_a1 w1 _)) hb2); have HQ1' := zz (HQ1.out.later (ptrans (below_a1 w1 _) hb2)); clear hq hq2 hb2)
  | (go_at_call 82; (with_reducible refine (HDi.out _ _ _ (ptrans HB2.out (below_a1 w2 _)) (SliceAt.built' w2 [.int .u32 a, .int .u32 b] _ (w2.heap.size) rfl)).mono ?_); rintro e w3 ⟨g3, l3, rfl, hq3, hb3⟩; have HQ3 := zz hq3; have HB3 := zz (ptrans (ptrans HB2.out (below_a1 w2 _)) hb3); have HQ1'' := zz (HQ1'.out.later (ptrans (below_a1 w2 _) hb3)); have HQ2' := zz (HQ2.out.later (ptrans (below_a1 w2 _) hb3)); clear hq3 hb3)
  | (go_at_call 80; (with_reducible refine (check_built w3 P [.func (.func g1) #[] l1, .func (.func g2) #[] l2, .func (.func g3) #[] l3] 3 [namesE [s, s2], thereE t [a, b], dirsE t [a, b]] 0 HE.out _ rfl (by omega) (asked_rename HQ1''.out HQ2'.out HQ3.out) (by simp)).mono ?_); rintro e w4 ⟨rfl, hb4⟩
     have HB := zz (ptrans (ptrans HB3.out (below_a1 _ _)) hb4)
     clear hb4 HQ1 HQ2 HQ3 HQ1' HQ1'' HQ2' HB1 HB2 HB3)
  | (go_at_call 145; refine (HL.out w4 HB.out).mono ?_; rintro e w5 ⟨rfl, hb5⟩
     have hb := ptrans HB.out hb5
     have hT := HT.out.below hb
     have c1 := hT.c1
     have hlk := hT.look_some HX.out
     have hlb := hT.look_some HXB.out
     have HD := zz (t_isdir (y.f ino) x.kind d HK.out w5 ((hT.node ino x HX.out).cell 0))
     have kb3 : w5.cell? ⟨y.f b, 3, none⟩ = some (.map (some (y.L b))) := (hT.node b xb0 HXB.out).cell 3
     have heb := (hT.node b xb0 HXB.out).look hs2H.out
     rw [HEB.out] at heb
     have HB5 := zz hb
     clear hb hb5 hT)
  | (go_at_call 125; refine HD.out.mono ?_; rintro e w' ⟨rfl, rfl⟩)
  | (go_at_call 195; refine (HBe.out (by assumption) _ HB5.out).mono ?_; rintro e w' ⟨rfl, rfl⟩))
 all_goals go_ret
 all_goals exact ⟨rfl, HB5.out⟩
set_option maxRecDepth 100000 in
set_option maxHeartbeats 2000000 in
theorem t_rename4 (a : Int) (s : ByteArray) (b : Int) (s2 : ByteArray) (ino : Int) (x xb0 xa xi xb xj : PN) (k : Nat) (t' : PT) (w : World) (h : TreeM w F P N y t) (ha : U32 a) (hb : U32 b) (hs : s.size ≤ maxLen) (hs2 : s2.size ≤ maxLen) (hN : N < 900000)
  (he : firstE [namesE [s, s2], thereE t [a, b], dirsE t [a, b]] = 0) (hl : lookP t a s = (ino, 0)) (hx : t.n ino = some x) (hBl : (x.kind == 2) = true → Ends t k b ∧ belowP t ino k b = false) (hxb : t.n b = some xb0) (heb0 : (xb0.l s2.data.toList).getD 0 = 0) (hm : MoveOk t a s b s2 ino t' xa xi xb xj) :
  Calls Tryz.prog 118 #[.pointer (some ⟨P, 0, none⟩), .int .u32 a, .string s, .int .u32 b, .string s2] w fun e w' => e = .returned (.int .i64 0) ∧ Became w w' F P (N + 1) t' := by
 have HNm := zz (names_later2 s s2 hs hs2)
 have HTh := zz (there_later2 h a b ha hb)
 have HDi := zz (dirs_later2 h a b)
 have HE := zz he
 have HL := zz (fun W (hW : Below w.heap.size w W) => t_look a s ino 0 hl W (h.below hW) ha hs)
 obtain ⟨d, hd⟩ : ∃ d, (x.kind == 2) = d := ⟨_, rfl⟩
 rw [hd] at hBl
 have HBe := zz (fun (hdt : d = true) W (hW : Below w.heap.size w W) => t_belowP b ino k false (hBl hdt).2 (hBl hdt).1 W (h.below hW))
 have HT := zz h
 have HX := zz hx
 have HXB := zz hxb
 have HK := zz hd
 have hs2H := zz hs2
 have HEB := zz heb0
 have HLV := zz (fun W (hW : TreeM W F P N y t) => t_leave a s ino xa xi W hW hm.na hm.ent hm.ni hm.ia hs hm.li)
 have HEN := zz (fun W (hW : TreeM W F P N y (leaveT t a xa s ino xi)) => t_enter b s2 ino xb xj W hW (by omega) hm.nb hm.nj hm.ib hs2 hm.lj)
 have HIS := zz hm.is
 clear h he hl hx hd hBl hxb heb0 hm hN
 go_enter Tryz.func118, Tryz.ntmps118
 go_wp2_with (first
  | (go_at_call 181; (with_reducible refine (HNm.out _ _ _ (SliceAt.built' w [.string s, .string s2] _ (w.heap.size) rfl)).mono ?_); rintro e w1 hq; obtain ⟨g1, l1, rfl, hq1, hb1⟩ := hq.get; have HQ1 := zz hq1; have HB1 := zz (ptrans (below_a1 w _) hb1); clear hq hq1 hb1)
  | (go_at_call 81; (with_reducible refine (HTh.out _ _ _ (ptrans HB1.out (below_a1 w1 _)) (SliceAt.built' w1 [.int .u32 a, .int .u32 b] _ (w1.heap.size) rfl)).mono ?_); rintro e w2 hq; obtain ⟨g2, l2, rfl, hq2, hb2⟩ := hq.get; have HQ2 := zz hq2; have HB2 := zz (ptrans (ptrans HB1.out (below_a1 w1 _)) hb2); have HQ1' := zz (HQ1.out.later (ptrans (below_a1 w1 _) hb2)); clear hq hq2 hb2)
  | (go_at_call 82; (with_reducible refine (HDi.out _ _ _ (ptrans HB2.out (below_a1 w2 _)) (SliceAt.built' w2 [.int .u32 a, .int .u32 b] _ (w2.heap.size) rfl)).mono ?_); rintro e w3 ⟨g3, l3, rfl, hq3, hb3⟩; have HQ3 := zz hq3; have HB3 := zz (ptrans (ptrans HB2.out (below_a1 w2 _)) hb3); have HQ1'' := zz (HQ1'.out.later (ptrans (below_a1 w2 _) hb3)); have HQ2' := zz (HQ2.out.later (ptrans (below_a1 w2 _) hb3)); clear hq3 hb3)
  | (go_at_call 80; (with_reducible refine (check_built w3 P [.func (.func g1) #[] l1, .func (.func g2) #[] l2, .func (.func g3) #[] l3] 3 [namesE [s, s2], thereE t [a, b], dirsE t [a, b]] 0 HE.out _ rfl (by omega) (asked_rename HQ1''.out HQ2'.out HQ3.out) (by simp)).mono ?_); rintro e w4 ⟨rfl, hb4⟩
     have HB := zz (ptrans (ptrans HB3.out (below_a1 _ _)) hb4)
     clear hb4 HQ1 HQ2 HQ3 HQ1' HQ1'' HQ2' HB1 HB2 HB3)
  | (go_at_call 145; refine (HL.out w4 HB.out).mono ?_; rintro e w5 ⟨rfl, hb5⟩
     have hb := ptrans HB.out hb5
     have hT := HT.out.below hb
     have c1 := hT.c1
     have hlk := hT.look_some HX.out
     have hlb := hT.look_some HXB.out
     have HD := zz (t_isdir (y.f ino) x.kind d HK.out w5 ((hT.node ino x HX.out).cell 0))
     have kb3 : w5.cell? ⟨y.f b, 3, none⟩ = some (.map (some (y.L b))) := (hT.node b xb0 HXB.out).cell 3
     have heb := (hT.node b xb0 HXB.out).look hs2H.out
     rw [HEB.out] at heb
     have HT5 := zz hT; have HB5 := zz hb
     clear hb hb5)
  | (go_at_call 125; refine HD.out.mono ?_; rintro e w' ⟨rfl, rfl⟩)
  | (go_at_call 195; refine (HBe.out (by assumption) _ HB5.out).mono ?_; rintro e w' ⟨rfl, rfl⟩)
  | (go_at_call 197; refine (HLV.out _ HT5.out).mono ?_; rintro e w6 ⟨rfl, hT6, hU6⟩; have HT6 := zz hT6; have HU6 := zz hU6; clear hT6 hU6)
  | (go_at_call 191; refine (HEN.out _ HT6.out).mono ?_; rintro e w7 ⟨rfl, hT7, hU7⟩; have HT7 := zz hT7; have HU7 := zz hU7; clear hT7 hU7))
 all_goals go_ret
 all_goals exact ⟨rfl, _, _, HIS.out ▸ HT7.out, (Turn.of_below F HB5.out).trans (HU6.out.trans HU7.out)⟩
set_option maxRecDepth 100000 in
set_option maxHeartbeats 2000000 in
theorem t_rename6 (a : Int) (s : ByteArray) (b : Int) (s2 : ByteArray) (ino old : Int) (x xb0 xo : PN) (k : Nat) (r : Int) (w : World) (h : TreeM w F P N y t) (ha : U32 a) (hb : U32 b) (hs : s.size ≤ maxLen) (hs2 : s2.size ≤ maxLen)
  (he : firstE [namesE [s, s2], thereE t [a, b], dirsE t [a, b]] = 0) (hl : lookP t a s = (ino, 0)) (hx : t.n ino = some x) (hBl : (x.kind == 2) = true → Ends t k b ∧ belowP t ino k b = false) (hxb : t.n b = some xb0) (heb0 : (xb0.l s2.data.toList).getD 0 = old) (hz : old ≠ 0) (hoi : old ≠ ino) (hxo : t.n old = some xo) (hg : givesE x xo = r) (hr : r ≠ 0) :
  Calls Tryz.prog 118 #[.pointer (some ⟨P, 0, none⟩), .int .u32 a, .string s, .int .u32 b, .string s2] w fun e w' => e = .returned (.int .i64 r) ∧ Below w.heap.size w w' := by
 have HNm := zz (names_later2 s s2 hs hs2)
 have HTh := zz (there_later2 h a b ha hb)
 have HDi := zz (dirs_later2 h a b)
 have HE := zz he
 have HL := zz (fun W (hW : Below w.heap.size w W) => t_look a s ino 0 hl W (h.below hW) ha hs)
 obtain ⟨d, hd⟩ : ∃ d, (x.kind == 2) = d := ⟨_, rfl⟩
 rw [hd] at hBl
 have HBe := zz (fun (hdt : d = true) W (hW : Below w.heap.size w W) => t_belowP b ino k false (hBl hdt).2 (hBl hdt).1 W (h.below hW))
 have HT := zz h
 have HX := zz hx
 have HXB := zz hxb
 have HK := zz hd
 have hs2H := zz hs2
 have HEB := zz heb0
 have HXO := zz hxo
 have HG := zz hg
 have hz' : (old != 0) = true := by simpa using hz
 have ho' : (old == ino) = false := by simpa using hoi
 have hr' : (r != 0) = true := by simpa using hr
 clear h he hl hx hd hBl hxb heb0 hz hoi hxo hg hr
 go_enter Tryz.func118, Tryz.ntmps118
 go_wp2_with (first
  | (go_at_call 181; (with_reducible refine (HNm.out _ _ _ (SliceAt.built' w [.string s, .string s2] _ (w.heap.size) rfl)).mono ?_); rintro e w1 hq; obtain ⟨g1, l1, rfl, hq1, hb1⟩ := hq.get; have HQ1 := zz hq1; have HB1 := zz (ptrans (below_a1 w _) hb1); clear hq hq1 hb1)
  | (go_at_call 81; (with_reducible refine (HTh.out _ _ _ (ptrans HB1.out (below_a1 w1 _)) (SliceAt.built' w1 [.int .u32 a, .int .u32 b] _ (w1.heap.size) rfl)).mono ?_); rintro e w2 hq; obtain ⟨g2, l2, rfl, hq2, hb2⟩ := hq.get; have HQ2 := zz hq2; have HB2 := zz (ptrans (ptrans HB1.out (below_a1 w1 _)) hb2); have HQ1' := zz (HQ1.out.later (ptrans (below_a1 w1 _) hb2)); clear hq hq2 hb2)
  | (go_at_call 82; (with_reducible refine (HDi.out _ _ _ (ptrans HB2.out (below_a1 w2 _)) (SliceAt.built' w2 [.int .u32 a, .int .u32 b] _ (w2.heap.size) rfl)).mono ?_); rintro e w3 ⟨g3, l3, rfl, hq3, hb3⟩; have HQ3 := zz hq3; have HB3 := zz (ptrans (ptrans HB2.out (below_a1 w2 _)) hb3); have HQ1'' := zz (HQ1'.out.later (ptrans (below_a1 w2 _) hb3)); have HQ2' := zz (HQ2.out.later (ptrans (below_a1 w2 _) hb3)); clear hq3 hb3)
  | (go_at_call 80; (with_reducible refine (check_built w3 P [.func (.func g1) #[] l1, .func (.func g2) #[] l2, .func (.func g3) #[] l3] 3 [namesE [s, s2], thereE t [a, b], dirsE t [a, b]] 0 HE.out _ rfl (by omega) (asked_rename HQ1''.out HQ2'.out HQ3.out) (by simp)).mono ?_); rintro e w4 ⟨rfl, hb4⟩
     have HB := zz (ptrans (ptrans HB3.out (below_a1 _ _)) hb4)
     clear hb4 HQ1 HQ2 HQ3 HQ1' HQ1'' HQ2' HB1 HB2 HB3)
  | (go_at_call 145; refine (HL.out w4 HB.out).mono ?_; rintro e w5 ⟨rfl, hb5⟩
     have hb := ptrans HB.out hb5
     have hT := HT.out.below hb
     have c1 := hT.c1
     have hlk := hT.look_some HX.out
     have hlb := hT.look_some HXB.out
     have HD := zz (t_isdir (y.f ino) x.kind d HK.out w5 ((hT.node ino x HX.out).cell 0))
     have kb3 : w5.cell? ⟨y.f b, 3, none⟩ = some (.map (some (y.L b))) := (hT.node b xb0 HXB.out).cell 3
     have heb := (hT.node b xb0 HXB.out).look hs2H.out
     rw [HEB.out] at heb
     have HT5 := zz hT; have hlo := hT.look_some HXO.out; have HGI := zz (t_gives _ _ _ _ _ _ x xo r HG.out w5 (hT.node ino x HX.out) (hT.node old xo HXO.out)); have HB5 := zz hb
     clear hb hb5)
  | (go_at_call 125; refine HD.out.mono ?_; rintro e w' ⟨rfl, rfl⟩)
  | (go_at_call 195; refine (HBe.out (by assumption) _ HB5.out).mono ?_; rintro e w' ⟨rfl, rfl⟩)
  | (go_at_call 196; refine HGI.out.mono ?_; rintro e w' ⟨rfl, rfl⟩))
 all_goals go_ret
 all_goals exact ⟨rfl, HB5.out⟩
set_option maxRecDepth 100000 in
set_option maxHeartbeats 2000000 in
theorem t_rename7 (a : Int) (s : ByteArray) (b : Int) (s2 : ByteArray) (ino old : Int) (x xb0 xo xa xi xb xj : PN) (k : Nat) (t' : PT) (w : World) (h : TreeM w F P N y t) (ha : U32 a) (hb : U32 b) (hs : s.size ≤ maxLen) (hs2 : s2.size ≤ maxLen) (hN : N < 900000)
  (he : firstE [namesE [s, s2], thereE t [a, b], dirsE t [a, b]] = 0) (hl : lookP t a s = (ino, 0)) (hx : t.n ino = some x) (hBl : (x.kind == 2) = true → Ends t k b ∧ belowP t ino k b = false) (hxb : t.n b = some xb0) (heb0 : (xb0.l s2.data.toList).getD 0 = old) (hz : old ≠ 0) (hoi : old ≠ ino) (hxo : t.n old = some xo) (hg : givesE x xo = 0) (hob : old ≠ b) (hlo : 0 ≤ xo.links ∧ xo.links ≤ 1000000) (hm : MoveOk (freeP (leaveT t b xb0 s2 old xo) old (outN xo)) a s b s2 ino t' xa xi xb xj) :
  Calls Tryz.prog 118 #[.pointer (some ⟨P, 0, none⟩), .int .u32 a, .string s, .int .u32 b, .string s2] w fun e w' => e = .returned (.int .i64 0) ∧ Became w w' F P (N + 1) t' := by
 have heo : xb0.l s2.data.toList = some old := by
  cases hc : xb0.l s2.data.toList with
  | none => rw [hc] at heb0; exact absurd heb0.symm hz
  | some v => rw [hc] at heb0; exact congrArg some heb0
 have HNm := zz (names_later2 s s2 hs hs2)
 have HTh := zz (there_later2 h a b ha hb)
 have HDi := zz (dirs_later2 h a b)
 have HE := zz he
 have HL := zz (fun W (hW : Below w.heap.size w W) => t_look a s ino 0 hl W (h.below hW) ha hs)
 obtain ⟨d, hd⟩ : ∃ d, (x.kind == 2) = d := ⟨_, rfl⟩
 rw [hd] at hBl
 have HBe := zz (fun (hdt : d = true) W (hW : Below w.heap.size w W) => t_belowP b ino k false (hBl hdt).2 (hBl hdt).1 W (h.below hW))
 have HT := zz h
 have HX := zz hx
 have HXB := zz hxb
 have HK := zz hd
 have hs2H := zz hs2
 have HEB := zz heb0
 have HXO := zz hxo
 obtain ⟨r, hr⟩ : ∃ r : Int, r = 0 := ⟨_, rfl⟩
 rw [← hr] at hg
 have HG := zz hg
 have hz' : (old != 0) = true := by simpa using hz
 have ho' : (old == ino) = false := by simpa using hoi
 have HLV0 := zz (fun W (hW : TreeM W F P N y t) => t_leave b s2 old xb0 xo W hW hxb heo hxo hob hs2 hlo)
 have HFR := zz (fun W (hW : TreeM W F P N y (leaveT t b xb0 s2 old xo)) => t_freeP old (outN xo) W hW (by unfold leaveT; rw [PT.set_n, if_neg hob, PT.set_n, if_pos rfl]))
 have HLV := zz (fun W (hW : TreeM W F P N y (freeP (leaveT t b xb0 s2 old xo) old (outN xo))) => t_leave a s ino xa xi W hW hm.na hm.ent hm.ni hm.ia hs hm.li)
 have HEN := zz (fun W (hW : TreeM W F P N y (leaveT (freeP (leaveT t b xb0 s2 old xo) old (outN xo)) a xa s ino xi)) => t_enter b s2 ino xb xj W hW (by omega) hm.nb hm.nj hm.ib hs2 hm.lj)
 have HIS := zz hm.is
 clear h he hl hx hd hBl hxb heb0 hz hoi hxo hg hm hN heo hlo hob
 go_enter Tryz.func118, Tryz.ntmps118
 go_wp2_with (first
  | (go_at_call 181; (with_reducible refine (HNm.out _ _ _ (SliceAt.built' w [.string s, .string s2] _ (w.heap.size) rfl)).mono ?_); rintro e w1 hq; obtain ⟨g1, l1, rfl, hq1, hb1⟩ := hq.get; have HQ1 := zz hq1; have HB1 := zz (ptrans (below_a1 w _) hb1); clear hq hq1 hb1)
  | (go_at_call 81; (with_reducible refine (HTh.out _ _ _ (ptrans HB1.out (below_a1 w1 _)) (SliceAt.built' w1 [.int .u32 a, .int .u32 b] _ (w1.heap.size) rfl)).mono ?_); rintro e w2 hq; obtain ⟨g2, l2, rfl, hq2, hb2⟩ := hq.get; have HQ2 := zz hq2; have HB2 := zz (ptrans (ptrans HB1.out (below_a1 w1 _)) hb2); have HQ1' := zz (HQ1.out.later (ptrans (below_a1 w1 _) hb2)); clear hq hq2 hb2)
  | (go_at_call 82; (with_reducible refine (HDi.out _ _ _ (ptrans HB2.out (below_a1 w2 _)) (SliceAt.built' w2 [.int .u32 a, .int .u32 b] _ (w2.heap.size) rfl)).mono ?_); rintro e w3 ⟨g3, l3, rfl, hq3, hb3⟩; have HQ3 := zz hq3; have HB3 := zz (ptrans (ptrans HB2.out (below_a1 w2 _)) hb3); have HQ1'' := zz (HQ1'.out.later (ptrans (below_a1 w2 _) hb3)); have HQ2' := zz (HQ2.out.later (ptrans (below_a1 w2 _) hb3)); clear hq3 hb3)
  | (go_at_call 80; (with_reducible refine (check_built w3 P [.func (.func g1) #[] l1, .func (.func g2) #[] l2, .func (.func g3) #[] l3] 3 [namesE [s, s2], thereE t [a, b], dirsE t [a, b]] 0 HE.out _ rfl (by omega) (asked_rename HQ1''.out HQ2'.out HQ3.out) (by simp)).mono ?_); rintro e w4 ⟨rfl, hb4⟩
     have HB := zz (ptrans (ptrans HB3.out (below_a1 _ _)) hb4)
     clear hb4 HQ1 HQ2 HQ3 HQ1' HQ1'' HQ2' HB1 HB2 HB3)
  | (go_at_call 145; refine (HL.out w4 HB.out).mono ?_; rintro e w5 ⟨rfl, hb5⟩
     have hb := ptrans HB.out hb5
     have hT := HT.out.below hb
     have c1 := hT.c1
     have hlk := hT.look_some HX.out
     have hlb := hT.look_some HXB.out
     have HD := zz (t_isdir (y.f ino) x.kind d HK.out w5 ((hT.node ino x HX.out).cell 0))
     have kb3 : w5.cell? ⟨y.f b, 3, none⟩ = some (.map (some (y.L b))) := (hT.node b xb0 HXB.out).cell 3
     have heb := (hT.node b xb0 HXB.out).look hs2H.out
     rw [HEB.out] at heb
     have HT5 := zz hT; have hlo := hT.look_some HXO.out; have HGI := zz (t_gives _ _ _ _ _ _ x xo r HG.out w5 (hT.node ino x HX.out) (hT.node old xo HXO.out)); have HB5 := zz hb
     clear hb hb5)
  | (go_at_call 125; refine HD.out.mono ?_; rintro e w' ⟨rfl, rfl⟩)
  | (go_at_call 195; refine (HBe.out (by assumption) _ HB5.out).mono ?_; rintro e w' ⟨rfl, rfl⟩)
  | (go_at_call 196; refine HGI.out.mono ?_; rintro e w' ⟨rfl, rfl⟩; subst hr)
  | (go_at_call 197; first
    | (refine (HLV0.out _ HT5.out).mono ?_; rintro e w6 ⟨rfl, hT6, hU6⟩; have HT6 := zz hT6; have HU6 := zz hU6; clear hT6 hU6 HT5)
    | (refine (HLV.out _ HT7.out).mono ?_; rintro e w8 ⟨rfl, hT8, hU8⟩; have HT8 := zz hT8; have HU8 := zz hU8; clear hT8 hU8))
  | (go_at_call 189; refine (HFR.out _ HT6.out).mono ?_; rintro e w7 ⟨rfl, hT7, hU7⟩; have HT7 := zz hT7; have HU7 := zz hU7; clear hT7 hU7)
  | (go_at_call 191; refine (HEN.out _ HT8.out).mono ?_; rintro e w9 ⟨rfl, hT9, hU9⟩; have HT9 := zz hT9; have HU9 := zz hU9; clear hT9 hU9))
 all_goals go_ret
 all_goals exact ⟨rfl, _, _, HIS.out ▸ HT9.out, (Turn.of_below F HB5.out).trans (HU6.out.trans (HU7.out.trans (HU8.out.trans HU9.out)))⟩
end
end

section
open Go.RowKit Go.Maps
theorem keyOf_str {key : Value} {kl : Lit} (h : keyOf Tryz.prog 9 key = some kl) : ∃ s : ByteArray, key = .string s ∧ kl = .string s.data.toList ∧ s.size ≤ maxLen := by
 obtain ⟨s, rfl⟩ := Maps.keyOf_string_inv Tryz.underlying9 h
 have h' := h
 simp [keyOf, Tryz.underlying9, mapKey] at h'
 obtain ⟨h1, h2⟩ := h'
 exact ⟨s, rfl, by first | exact h2.symm | (rw [← h2, Lib.toList_data]), by first | exact h1 | omega⟩
structure ColE (l : List UInt8 → Option Int) (left : Lit → Bool) (es : List E) : Prop where
 nodup : (es.map nameL).Nodup
 mem : ∀ s v, (∃ x ∈ es, nameL x = s ∧ x.2 = v) ↔ (l s = some v ∧ left (.string s) = false)
 size : ∀ x ∈ es, x.1.size ≤ maxLen
theorem ColE.step {l : List UInt8 → Option Int} {left : Lit → Bool} {es : List E} (h : ColE l left es) {s : ByteArray} {i : Int} (hl : left (.string s.data.toList) = true) (hi : l s.data.toList = some i) (hs : s.size ≤ maxLen) :
  ColE l (fun z => left z && !z.sameKey (.string s.data.toList)) (es ++ [(s, i)]) := by
 refine ⟨?_, fun k v => ?_, fun x hx => ?_⟩
 · rw [List.map_append, List.nodup_append]
   refine ⟨h.nodup, by simp, fun a ha b hb e => ?_⟩
   simp at hb
   subst hb
   subst e
   obtain ⟨x, hx, hxa⟩ := List.mem_map.1 ha
   have := ((h.mem (nameL (s, i)) x.2).1 ⟨x, hx, hxa, rfl⟩).2
   rw [show nameL (s, i) = s.data.toList from rfl, hl] at this
   cases this
 · constructor
   · rintro ⟨x, hx, hxk, hxv⟩
     rcases List.mem_append.1 hx with hx | hx
     · obtain ⟨h1, h2⟩ := (h.mem k v).1 ⟨x, hx, hxk, hxv⟩
       exact ⟨h1, by simp [h2]⟩
     · simp at hx
       subst hx
       have e1 : s.data.toList = k := hxk
       have e2 : i = v := hxv
       subst e1; subst e2
       exact ⟨hi, by simp [Lit.sameKey]⟩
   · rintro ⟨h1, h2⟩
     by_cases e : k = s.data.toList
     · subst e
       rw [hi] at h1
       injection h1 with h1
       exact ⟨(s, i), by simp, rfl, h1⟩
     · have h3 : left (.string k) = false := by
        simpa [Lit.sameKey, e] using h2
       obtain ⟨x, hx, r⟩ := (h.mem k v).2 ⟨h1, h3⟩
       exact ⟨x, List.mem_append_left _ hx, r⟩
 · rcases List.mem_append.1 hx with hx | hx
   · exact h.size x hx
   · simp at hx; subst hx; exact hs
structure EntsOf (l : List UInt8 → Option Int) (L : List E) : Prop where
 sorted : L.Pairwise fun a b => nameL a < nameL b
 mem : ∀ s v, (∃ x ∈ L, nameL x = s ∧ x.2 = v) ↔ l s = some v
 size : ∀ x ∈ L, x.1.size ≤ maxLen
structure EntsAt (w : World) (A : Option Addr) (L : List E) : Prop where
 at_ : 0 < L.length → ∃ B, A = some ⟨B, 0, none⟩ ∧ B < w.heap.size ∧ ∀ (k : Nat) (x : E), L[k]? = some x → w.cell? ⟨B, k * 2, none⟩ = some (.string x.1) ∧ w.cell? ⟨B, k * 2 + 1, none⟩ = some (.int .u32 x.2)
theorem EntsAt.below {w w' : World} {A : Option Addr} {L : List E} (h : EntsAt w A L) (hb : Below w.heap.size w w') : EntsAt w' A L := ⟨fun h0 => by
 obtain ⟨B, e, hlt, hc⟩ := h.at_ h0
 exact ⟨B, e, Nat.lt_of_lt_of_le hlt hb.size, fun k x hk => ⟨(hb.cell (p := ⟨B, _, none⟩) hlt).trans (hc k x hk).1, (hb.cell (p := ⟨B, _, none⟩) hlt).trans (hc k x hk).2⟩⟩⟩
def flatE (es : List E) : List Value := es.flatMap encE
theorem flatE_snoc (es : List E) (x : E) : flatE (es ++ [x]) = flatE es ++ [.string x.1, .int .u32 x.2] := by simp [flatE, encE]
theorem flatE_get : ∀ (es : List E) (i : Nat) (h : i < es.length), (flatE es)[i * 2]? = some (.string es[i].1) ∧ (flatE es)[i * 2 + 1]? = some (.int .u32 es[i].2)
 | x :: es, 0, _ => by simp [flatE, encE]
 | x :: es, i + 1, h => by
  have := flatE_get es i (by simpa using h)
  have e1 : (i + 1) * 2 = i * 2 + 2 := by omega
  have e2 : (i + 1) * 2 + 1 = i * 2 + 1 + 2 := by omega
  rw [e1, show i * 2 + 2 + 1 = i * 2 + 1 + 2 by omega]
  simpa [flatE, encE] using this
theorem holdsE_of {w : World} {g : Nat} {es : List E} {cur : Array Value} (hc : w.heap[g]? = some (.cells cur 100 (0, 0))) (ht : cur.toList.take (es.length * 2) = flatE es) : Go.Sort.HoldsK encE 2 w g 0 es.toArray := by
 intro j hj
 have hj' : j < es.length * 2 := by simpa using hj
 refine ⟨?_, by simp [World.frozen?, hc]⟩
 rw [Go.Sort.get_flatK _ _ _ _ (by simpa using hj'), Nat.zero_add]
 have h1 : cur[j]? = (flatE es)[j]? := by
  rw [← ht, List.getElem?_take, if_pos hj']
  simp
 obtain ⟨q, r, rfl, hr⟩ : ∃ q r, j = q * 2 + r ∧ r < 2 := ⟨j / 2, j % 2, by omega, by omega⟩
 rw [show (q * 2 + r) / 2 = q by omega, show (q * 2 + r) % 2 = r by omega]
 have hi : q < es.length := by omega
 obtain ⟨g1, g2⟩ := flatE_get es q hi
 have he : es.toArray[q]! = es[q] := by simp [hi]
 rw [he]
 simp only [World.cell?, hc, h1, id]
 rcases (show r = 0 ∨ r = 1 by omega) with rfl | rfl
 · rw [Nat.add_zero, g1]; rfl
 · rw [g2]; rfl
section
variable {P' : Program} {k t' e : TypeId} {w : World} {b n : Nat} {m : Lit → Option Value}
theorem MapAt.range' (h : MapAt w P' k b n m) (K : Keyed P' k) (ht : P'.underlying t' = some (.map k e)) :
  ∃ w' left cnt, (Instr.range t' (.map (some b))).run P' w = .ok (.pointer (some ⟨w.heap.size, 0, none⟩)) w' ∧ RangeAt w' P' k b w.heap.size n m left cnt ∧ cnt ≤ n ∧ (∀ kl, WideAt.IsKeyLit kl → left kl = (m kl).isSome) ∧ Below w.heap.size w w' ∧ w'.heap.size = w.heap.size + 1 := by
 obtain ⟨D, hD, hm⟩ := h
 obtain ⟨w', h1, h2, h3, h4⟩ := hD.range K ht
 exact ⟨w', _, _, h1, ⟨D, h2, hm⟩, hD.size_le, fun kl hk => by rw [ofD_has hD K hk, hm kl hk], ⟨h3.os, h3.tape, h3.output, h3.size, fun i hi => h3.block i hi (by simp)⟩, h4⟩
end
theorem wpList_next_S {ops : Array Oper} {rest : List Oper} {o : Oper} {a : Act} {w : World} {Q : Exit → Act → World → Prop} {b r n cnt : Nat} {l : List UInt8 → Option Int} {left : Lit → Bool} (hg : o.guard = none) (it : Operand) (hop : o.op = Op.next it false)
  (hit : a.eval it = .pointer (some ⟨r, 0, none⟩)) (h : RangeAt w Tryz.prog 9 b r n (entsM l) left cnt)
  (hDone : (∀ kl, left kl = false) → wpList Tryz.prog ops Q rest (a.put o.dst (.tuple #[.bool false])) w)
  (hMore : ∀ (s : ByteArray) (i : Int) (w' : World) (cnt' : Nat), left (.string s.data.toList) = true → l s.data.toList = some i → s.size ≤ maxLen → RangeAt w' Tryz.prog 9 b r n (entsM l) (fun x => left x && !x.sameKey (.string s.data.toList)) cnt' → cnt' < cnt → w.grownBy w' (some r) → w'.heap.size = w.heap.size →
   (Instr.entry (.pointer (some ⟨r, 0, none⟩))).run Tryz.prog w' = .ok (.tuple #[.string s, .int .u32 i]) w' → wpList Tryz.prog ops Q rest (a.put o.dst (.tuple #[.bool true, .string s, .int .u32 i])) w') :
  wpList Tryz.prog ops Q (o :: rest) a w := by
 refine wpList_plain hg fun K' hK' => ?_
 unfold Oper.wp
 rcases h.next lawS o.type with ⟨h0, hl, hrun⟩ | ⟨key, v, kl, w', cnt', hkey, hlk, hv, hrun, hrg, hlt, hgr, hsz, hen⟩
 · simp [execOp, hop, hit, hrun, Result.andThen]
   exact hK' _ _ (hDone hl)
 · obtain ⟨s, rfl, rfl, hs⟩ := keyOf_str hkey
   obtain ⟨i, hi, rfl⟩ : ∃ i, l s.data.toList = some i ∧ v = .int .u32 i := by
    unfold entsM at hv
    simp only [Option.map_eq_some_iff] at hv
    obtain ⟨i, h1, h2⟩ := hv
    exact ⟨i, h1, h2.symm⟩
   simp [execOp, hop, hit, hrun, Result.andThen]
   exact hK' _ _ (hMore s i w' cnt' hlk hi hs hrg hlt hgr hsz hen)
theorem infoE : (Tryz.prog.info? 100).map (fun i => (i.zero, i.size, i.bytes)) = some (some (.agg #[.string ⟨#[]⟩, .int .u32 0]), 2, 24) := by kernel_rfl
end
section
open Go.RowKit Go.Maps
section
variable {F : Nat → Prop} {P N : Nat} {y : Lay} {t : PT}
theorem asked2d {W : World} {i : Int} {v1 v2 : Value} (q1 : Question W v1 (thereE t [i])) (q2 : (∀ j ∈ [i], (t.n j).isSome = true) → Question W v2 (dirsE t [i])) : Asked W [v1, v2] [thereE t [i], dirsE t [i]] := by
 refine Asked.of W _ _ rfl fun j e v he hv h0 => ?_
 match j with
 | 0 => simp at he hv; subst he; subst hv; exact q1
 | 1 => simp at he hv; subst he; subst hv; exact q2 (there_all (h0 0 _ (by omega) rfl))
 | j + 2 => simp at he
theorem dirs_later {w : World} (h : TreeM w F P N y t) (a : Int) : ∀ W A c, Below w.heap.size w W → SliceAt W A [.int .u32 a] → Calls Tryz.prog 82 #[.pointer (some ⟨P, 0, none⟩), .slice A 1 c] W (QIf (∀ i ∈ [a], (t.n i).isSome = true) W (dirsE t [a])) :=
 fun W A c hw hA => t_dirsI [a] A 1 c _ rfl W (h.below hw) rfl (by simp [maxLen]) hA
def listE (t : PT) (d : Int) : Int := firstE [thereE t [d], dirsE t [d]]
def listL (t : PT) (d : Int) : List UInt8 → Option Int := if listE t d = 0 then (match t.n d with | some x => x.l | none => fun _ => none) else fun _ => none
def ListP (t : PT) (d : Int) (w : World) (e : Ending) (w' : World) : Prop :=
 ∃ (A : Option Addr) (c : Nat) (L : List E), e = .returned (.tuple #[.slice A L.length c, .int .i64 (listE t d)]) ∧ EntsOf (listL t d) L ∧ L.length ≤ 60000 ∧ EntsAt w' A L ∧ Below w.heap.size w w' ∧ ∀ B, A = some ⟨B, 0, none⟩ → w.heap.size ≤ B
theorem ents_nil : EntsOf (fun _ => none) [] := ⟨List.Pairwise.nil, fun s v => by simp, fun x hx => by cases hx⟩
theorem ColE.start {l : List UInt8 → Option Int} {left : Lit → Bool} (h : ∀ s, left (.string s) = (entsM l (.string s)).isSome) : ColE l left [] := by
 refine ⟨List.nodup_nil, fun s v => ?_, fun x hx => absurd hx (by simp)⟩
 constructor
 · rintro ⟨z, hz, _⟩
   cases hz
 · rintro ⟨h1, h2⟩
   rw [h s] at h2
   have h3 : ((l s).map (Value.int .u32)).isSome = false := h2
   rw [h1] at h3
   cases h3
theorem ents_empty {l : List UInt8 → Option Int} (h : ColE l (fun _ => false) []) : EntsOf l [] := by
 refine ⟨List.Pairwise.nil, fun s v => ?_, fun x hx => absurd hx (by simp)⟩
 constructor
 · rintro ⟨z, hz, _⟩
   cases hz
 · intro h1
   obtain ⟨z, hz, _⟩ := (h.mem s v).2 ⟨h1, rfl⟩
   cases hz
def ListAt (w : World) (l : List UInt8 → Option Int) (b r N : Nat) (v : Value) (wr : World) : Prop :=
 ∃ (left : Lit → Bool) (cnt : Nat) (es : List E), RangeAt wr Tryz.prog 9 b r N (entsM l) left cnt ∧ es.length + cnt ≤ N ∧ ColE l left es ∧ wr.ownsRow (r + 1) 100 2 v es.length (flatE es) ∧ Below w.heap.size w wr ∧ r < wr.heap.size ∧ b < r ∧ w.heap.size ≤ r
theorem ents_sorted {l : List UInt8 → Option Int} {es : List E} {d' : Array E} {n : Nat} (hn : es.length = n) (h : ColE l (fun _ => false) es) (hp : Go.Sort.PermIn 0 n es.toArray d') (hs : Go.Sort.SortedIn (Go.Proofs.ltOf cmpE) 0 n d') : EntsOf l d'.toList ∧ d'.toList.length = n := by
 subst hn
 have hsz : d'.size = es.length := by rw [hp.1]; simp
 have hlen : d'.toList.length = es.length := by simpa using hsz
 have hperm : d'.toList.Perm es := by
  have h3 := hp.2.2
  rw [Array.extract_eq_self_of_le (by rw [hsz]; exact Nat.le_refl _), Array.extract_eq_self_of_le (by simp)] at h3
  exact h3
 have hget : ∀ (k : Nat) (h : k < d'.toList.length), d'.toList[k] = d'[k]! := fun k h => by
  rw [getElem!_pos d' k (by simpa using h)]
  simp
 have hnd : (d'.toList.map nameL).Nodup := (hperm.map nameL).nodup_iff.2 h.nodup
 refine ⟨⟨?_, fun s v => ?_, fun x hx => h.size x (hperm.mem_iff.1 hx)⟩, hlen⟩
 · rw [List.pairwise_iff_getElem]
   intro i j hi hj hij
   have h1 := hs i j (Nat.zero_le _) hij (by omega)
   rw [ltE, ← hget i hi, ← hget j hj] at h1
   have h2 : ¬ nameL d'.toList[j] < nameL d'.toList[i] := by simpa [Go.Sort.ltStr] using h1
   have h3 : nameL d'.toList[i] ≠ nameL d'.toList[j] := by
    intro e
    have e2 : (d'.toList.map nameL)[i]'(by simpa using hi) = (d'.toList.map nameL)[j]'(by simpa using hj) := by simpa using e
    have := (List.getElem_inj hnd).1 e2
    omega
   exact Decidable.byContradiction fun h4 => h3 (List.le_antisymm (List.not_lt.1 h2) (List.not_lt.1 h4))
 · rw [← (show (l s = some v ∧ False = False) ↔ l s = some v from ⟨fun h => h.1, fun h => ⟨h, rfl⟩⟩)]
   constructor
   · rintro ⟨x, hx, r⟩
     exact ⟨((h.mem s v).1 ⟨x, hperm.mem_iff.1 hx, r⟩).1, rfl⟩
   · rintro ⟨h1, _⟩
     obtain ⟨x, hx, r⟩ := (h.mem s v).2 ⟨h1, rfl⟩
     exact ⟨x, hperm.mem_iff.2 hx, r⟩
theorem entsAt_of {w : World} {B : Nat} {d : Array E} (h : Go.Sort.HoldsK encE 2 w B 0 d) (hlt : B < w.heap.size) : EntsAt w (some ⟨B, 0, none⟩) d.toList := ⟨fun _ => ⟨B, rfl, hlt, fun k x hk => by
 obtain ⟨h1, h2⟩ := List.getElem?_eq_some_iff.1 hk
 have hk' : k < d.size := by simpa using h1
 have e : d[k]! = x := by rw [getElem!_pos d k hk', ← h2]; simp
 have c0 := (h.cell (c := 0) hk' (by omega)).1
 have c1 := (h.cell (c := 1) hk' (by omega)).1
 rw [Nat.zero_add, Nat.add_zero, e] at c0
 rw [Nat.zero_add, e] at c1
 exact ⟨c0, c1⟩⟩⟩
theorem cell_two_new (x y : Value) (T : TypeId) (w : World) : ∀ j u, [x, y][j]? = some u → (w.alloc (.cells #[x, y] T)).cell? ((⟨w.heap.size, 0, none⟩ : Addr).add j) = some u := by
 intro j u h
 have e := heap_alloc_new w (.cells #[x, y] T)
 match j with
 | 0 =>
  simp at h; subst h
  show World.cell? _ ⟨w.heap.size, 0, none⟩ = _
  simp only [World.cell?, e]; rfl
 | 1 =>
  simp at h; subst h
  show World.cell? _ ⟨w.heap.size, 1, none⟩ = _
  simp only [World.cell?, e]; rfl
 | j + 2 => simp at h
set_option maxRecDepth 100000 in
set_option maxHeartbeats 4000000 in
theorem t_listP (d : Int) (w : World) (h : TreeM w F P N y t) (hd : U32 d) (hN : N ≤ 60000) :
  Calls Tryz.prog 47 #[.pointer (some ⟨P, 0, none⟩), .int .u32 d] w (ListP t d w) := by
 have HTh := zz (there_later h d hd)
 have HDi := zz (dirs_later h d)
 have HT := zz h
 obtain ⟨q, hq⟩ : ∃ q, listE t d = q := ⟨_, rfl⟩
 have HE : Hid (firstE [thereE t [d], dirsE t [d]] = q) := hq
 by_cases hz : q = 0
 · subst hz
   have hz := HE.out
   obtain ⟨z1, hz⟩ := firstE_cons hz
   obtain ⟨x, hx⟩ := Option.isSome_iff_exists.1 (there_one z1)
   have HX := zz hx
   have HLL : Hid (listL t d = x.l) := by show _ = _; unfold listL; rw [if_pos hq, hx]
   have HQ := zz hq
   have HN := zz hN
   clear h hd hN z1 hz hx hq
   go_enter Tryz.func47, Tryz.ntmps47
   go_wp2_with (first
    | (go_at_call 81; (with_reducible refine (HTh.out _ _ _ (below_a1 w _) (SliceAt.built' _ [.int .u32 d] _ (w.heap.size) rfl)).mono ?_); rintro e w1 hq; obtain ⟨g1, l1, rfl, hq1, hb1⟩ := hq.get; have HQ1 := zz hq1; have HB1 := zz (ptrans (below_a1 w _) hb1); clear hq hq1 hb1)
    | (go_at_call 82; (with_reducible refine (HDi.out _ _ _ (ptrans HB1.out (below_a1 w1 _)) (SliceAt.built' w1 [.int .u32 d] _ (w1.heap.size) rfl)).mono ?_); rintro e w2 ⟨g2, l2, rfl, hq2, hb2⟩; have HQ2 := zz hq2; have HB2 := zz (ptrans (ptrans HB1.out (below_a1 w1 _)) hb2); have HQ1' := zz (HQ1.out.later (ptrans (below_a1 w1 _) hb2)); clear hq2 hb2)
    | (go_at_call 80; (with_reducible refine (check_built w2 P [.func (.func g1) #[] l1, .func (.func g2) #[] l2] 2 [thereE t [d], dirsE t [d]] 0 HE.out _ rfl (by omega) (asked2d HQ1'.out HQ2.out) (by simp)).mono ?_); rintro e w4 ⟨rfl, hb4⟩
       have hb : Below w.heap.size w w4 := ptrans (ptrans HB2.out (below_a1 _ _)) hb4
       have hT := HT.out.below hb
       have c1 := hT.c1
       have hlk := hT.look_some HX.out
       have n3 : w4.cell? ⟨y.f d, 3, none⟩ = some (.map (some (y.L d))) := (hT.node d x HX.out).cell 3
       obtain ⟨w5, lft, ct, hrng, hRg, hct, hlf, hb5, hs5⟩ := (hT.node d x HX.out).ents.range' lawS Tryz.underlying112
       have HB5 := zz (ptrans hb hb5)
       have HRg := zz hRg
       have HLf := zz hlf
       have HCt := zz hct
       have HLt := zz (hT.node d x HX.out).ents.lt
       have HS5 := zz hs5
       have HWW := zz hb.size
       clear hb hb4 hT hRg hlf hb5 hct hs5 HQ1 HQ2 HQ1' HB1 HB2))
   obtain ⟨RB, hRB⟩ : ∃ RB, w4.heap.size = RB := ⟨_, rfl⟩
   have hst : Hid (ListAt w x.l (y.L d) RB N (.slice none 0 0) w5) := ⟨lft, ct, [], by rw [← hRB]; exact HRg.out, by have := HCt.out; simp; exact this,
    ColE.start (fun s => HLf.out (.string s) trivial), World.ownsRow_nil _ _ _ _, HB5.out, by have := HS5.out; omega, by have := HLt.out; omega, by have := HWW.out; omega⟩
   rw [hRB]
   clear hrng c1 hlk n3 HRg HLf HB5 HCt HS5 HLt HWW hRB
   go_loopw [4] (fun v wr => ListAt w x.l (y.L d) RB N v wr) (fun _ wr => wr.rangeLeft (y.L d) RB)
   case atStart => exact hst.out
   case round =>
    obtain ⟨left, cnt, es, hrg, hec, hco, how, hbl, hr1, hbr, hwr⟩ := hrel
    have HCO := zz hco
    have HBL := zz hbl
    clear hco hbl
    obtain ⟨i0, hi, hz0, hz1, hz2⟩ := info_parts infoE
    go_wp2_with (at_next; refine wpList_next_S rfl _ rfl rfl hrg ?_ ?_)
    · intro hdone
      have hdone' : left = fun _ => false := funext hdone
      have HCF : Hid (ColE x.l (fun _ => false) es) := by show ColE _ _ _; rw [← hdone']; exact HCO.out
      clear hdone hdone' hrg
      have hes : es.length ≤ 60000 := by have := HN.out; omega
      rcases how.2 with ⟨rfl, hz0⟩ | ⟨g, cap, cur, rfl, hg, hcur, hg1, hg2, hg3, htake⟩
      · obtain rfl : es = [] := List.eq_nil_of_length_eq_zero hz0
        have HEN : Hid (EntsOf (listL t d) []) := by
         show EntsOf _ _
         rw [HLL.out]
         exact ents_empty HCF.out
        go_wp2_with (go_at_call 83; refine (e_sort0 _ _).mono ?_; rintro e w' ⟨rfl, rfl⟩)
        go_ret2
        exact ⟨none, 0, [], by rw [HQ.out]; rfl, HEN.out, by simp, ⟨fun h0 => by simp at h0⟩, HBL.out, fun _ h => by cases h⟩
      · have hgl : g < wr.heap.size := (Array.getElem?_eq_some_iff.1 hcur).1
        have HS := zz (e_sortFunc g es.length cap es.toArray wr (by simp) (holdsE_of hcur htake) hgl hes)
        have HG : Hid (RB + 1 ≤ g) := hg
        clear how hcur htake hg
        go_wp2_with (go_at_call 83; (with_reducible refine HS.out.mono ?_); rintro e w6 ⟨d', rfl, hp, hs, hH, hg6⟩; have HP := zz hp; have HSo := zz hs; have HH := zz hH; have HG6 := zz hg6; clear hp hs hH hg6)
        go_ret2
        obtain ⟨h1, h2⟩ := ents_sorted rfl HCF.out (by have := HP.out; simpa using this) (by have := HSo.out; simpa using this)
        refine ⟨some ⟨g, 0, none⟩, cap, d'.toList, by rw [HQ.out, h2]; rfl, by rw [HLL.out]; exact h1, by rw [h2]; exact hes, entsAt_of HH.out (Nat.lt_of_lt_of_le hgl HG6.out.size), below_grown HBL.out HG6.out (by have := HG.out; omega), fun B h => ?_⟩
        injection h with h
        injection h with h
        have := HG.out
        omega
    · intro s iv w6 cnt6 hlk hck hsz6 hrg6 hlt6 hg6 hs6 hen
      have HC6 := zz (HCO.out.step hlk hck hsz6)
      have HRG := zz hrg6
      have HLT : Hid (cnt6 < wr.rangeLeft (y.L d) RB) := by rw [hrg.left_eq]; exact hlt6
      have HL6 : Hid (cnt6 < cnt) := hlt6
      have hown6 : w6.ownsRow (RB + 1) 100 2 u4 es.length (flatE es) := how.kept hg6 (by
       rcases how.2 with ⟨e, _⟩ | ⟨g, cap, cur, e, hg, _⟩
       · rw [e]; exact .inl rfl
       · rw [e]; exact .inr (fun e => by injection e with e; simp at e; omega))
      have hob : ∀ b, b < RB + 1 → u4.ownBlock ≠ some b := by
       intro b hb
       rcases hown6.2 with ⟨e, _⟩ | ⟨g, cap, cur, e, hg, _⟩
       · rw [e]; exact fun h => by cases h
       · rw [e]; exact fun h => by injection h with h; simp at h; omega
      have HOB := zz hob
      have HB6 := zz (below_grown HBL.out hg6 hwr)
      have hsz7 : RB + 1 ≤ w6.heap.size := by omega
      have hes : es.length + 1 ≤ 60000 := by have := HN.out; omega
      have HS6 := zz hs6
      clear hlk hck hsz6 hrg6 hlt6 hg6 hrg how hob hs6
      go_wp2_with (at_builtin; refine wpList_append_own _ rfl _ _ 37 rfl (RB + 1) 100 i0 (.agg #[.string ⟨#[]⟩, .int .u32 0]) 2 24 Tryz.underlying37 hi hz0 hz1 hz2 rfl (by decide) _ _ _ rfl (hown6.alloc _) ⟨w6.heap.size, 0, none⟩ 1 1 [.string s, .int .u32 iv] rfl rfl (cell_two_new _ _ _ _) (by simp [Value.oneCell']) (by unfold maxLen; omega) (by omega) (by simp; omega) ?_; intro v' w7 hown7 hgrow7 _)
      have hgr : (w6.alloc (.cells #[.string s, .int .u32 iv] 100)).grownBy w7 u4.ownBlock := hgrow7
      clear hgrow7
      have hbk : ∀ b, b < RB + 1 → w7.heap[b]? = w6.heap[b]? := fun b hb => (hgr.block b (by simp; omega) (fun h => HOB.out b hb h.symm)).trans (Go.heap_alloc_old _ _ (Nat.lt_of_lt_of_le hb hsz7))
      have hR7 : RangeAt w7 Tryz.prog 9 (y.L d) RB N (entsM x.l) (fun z => left z && !z.sameKey (.string s.data.toList)) cnt6 := HRG.out.same (hbk _ (by omega)) (hbk _ (by omega))
      have hsz8 : w6.heap.size + 1 ≤ w7.heap.size := by have := hgr.size; simpa using this
      have hB7 : Below w.heap.size w w7 := ⟨hgr.os.trans HB6.out.os, hgr.tape.trans HB6.out.tape, hgr.output.trans HB6.out.output, by have := HB6.out.size; omega, fun b hb => (hbk b (by omega)).trans (HB6.out.block b hb)⟩
      go_roundw
      · exact ⟨_, cnt6, es ++ [(s, iv)], hR7, by have := HL6.out; simp; omega, HC6.out, by simpa [flatE_snoc] using hown7, hB7, by omega, hbr, hwr⟩
      · exact Nat.lt_of_le_of_lt (Nat.le_of_eq hR7.left_eq) HLT.out
 · have HQ : Hid (listL t d = fun _ => none) := by show _ = _; unfold listL; rw [if_neg (by rw [hq]; exact hz)]
   clear h hd hN
   go_enter Tryz.func47, Tryz.ntmps47
   go_wp2_with (first
    | (go_at_call 81; (with_reducible refine (HTh.out _ _ _ (below_a1 w _) (SliceAt.built' _ [.int .u32 d] _ (w.heap.size) rfl)).mono ?_); rintro e w1 hq; obtain ⟨g1, l1, rfl, hq1, hb1⟩ := hq.get; have HQ1 := zz hq1; have HB1 := zz (ptrans (below_a1 w _) hb1); clear hq hq1 hb1)
    | (go_at_call 82; (with_reducible refine (HDi.out _ _ _ (ptrans HB1.out (below_a1 w1 _)) (SliceAt.built' w1 [.int .u32 d] _ (w1.heap.size) rfl)).mono ?_); rintro e w2 ⟨g2, l2, rfl, hq2, hb2⟩; have HQ2 := zz hq2; have HB2 := zz (ptrans (ptrans HB1.out (below_a1 w1 _)) hb2); have HQ1' := zz (HQ1.out.later (ptrans (below_a1 w1 _) hb2)); clear hq2 hb2)
    | (go_at_call 80; (with_reducible refine (check_built w2 P [.func (.func g1) #[] l1, .func (.func g2) #[] l2] 2 [thereE t [d], dirsE t [d]] q HE.out _ rfl (by omega) (asked2d HQ1'.out HQ2.out) (by simp)).mono ?_); rintro e w4 ⟨rfl, hb4⟩
       have hb : Below w.heap.size w w4 := ptrans (ptrans HB2.out (below_a1 _ _)) hb4
       have HBB := zz hb
       have he' : (q == 0) = false := by simpa using hz
       clear hb4 hb HQ1 HQ2 HQ1' HB1 HB2 HE))
   go_ret2
   exact ⟨none, 0, [], by rw [hq]; rfl, by rw [HQ.out]; exact ents_nil, by simp, ⟨fun h0 => by simp at h0⟩, HBB.out, fun _ h => by cases h⟩
end
end
end Go.Proofs.YtpcnolkdnmolgaaGreatDoor
