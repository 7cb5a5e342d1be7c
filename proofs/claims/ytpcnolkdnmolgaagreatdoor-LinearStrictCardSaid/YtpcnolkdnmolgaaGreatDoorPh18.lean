/- A model's deeds: link, rename. -/
import Derived.Test.YtpcnolkdnmolgaaGreatDoorPh05
import Derived.Test.YtpcnolkdnmolgaaGreatDoorPh06
import Derived.Test.YtpcnolkdnmolgaaGreatDoorPh07
import Derived.Test.YtpcnolkdnmolgaaGreatDoorPh17
namespace Go.Proofs.YtpcnolkdnmolgaaGreatDoor
section
open Go.RowKit Go.Maps
section
variable {F : Nat → Prop} {P Pt Pf N : Nat} {y : Lay} {m : MD}
set_option maxRecDepth 100000 in
set_option maxHeartbeats 2000000 in
theorem t_linkC (w : World) (h : ModM w F P Pt Pf N y m) (hO : m.Ok) (c : Nat) (x : Cx) (hx : x.path.size ≤ maxLen) (hx2 : x.path2.size ≤ maxLen) (hN : N ≤ 50000) :
  Calls Tryz.prog 74 #[.pointer (some ⟨P, 0, none⟩), .int .i64 c, callV x] w (ResP w F P Pt Pf (N + 2) m.t (linkM m x)) := by
 obtain ⟨act, p1, p2, fd, pg, sz, dt⟩ := x
 have hlt := h.lt
 obtain ⟨W1, hW1, hX, hZ, hsz, hB1⟩ := two_blocks w #[.int .u8 act, .string p1, .string p2, .int .i64 fd, .int .i64 pg, .int .u32 sz, .string dt] #[.int .i64 0, .int .i64 0, .int .u32 0, .int .u32 0, .int .u8 0, .int .i64 0, .int .u32 0, .slice none 0 0, .string ⟨#[]⟩] 31 39
 have hM : ModM W1 F P Pt Pf N y m := h.below hB1
 have HM := zz hM
 have HB1 := zz hB1
 have HZ := zz hZ
 have HX := zz hX
 have HLT := zz hlt
 have HO := zz hO
 show Calls Tryz.prog 74 #[.pointer (some ⟨P, 0, none⟩), .int .i64 c, .agg #[.int .u8 act, .string p1, .string p2, .int .i64 fd, .int .i64 pg, .int .u32 sz, .string dt]] w _
 have hp1 : p1.size ≤ maxLen := hx
 have hp2 : p2.size ≤ maxLen := hx2
 clear hx hx2 hM hB1 hZ hX hlt hO h hsz
 have x1 : W1.cell? ⟨w.heap.size, 1, none⟩ = some (.string p1) := by simp [World.cell?, HX.out]
 obtain ⟨⟨v, r⟩, hv⟩ : ∃ q, findP m.t p1 = q := ⟨_, rfl⟩
 obtain ⟨⟨⟨d, nm⟩, r2⟩, hv2⟩ : ∃ q, entryP m.t p2 = q := ⟨_, rfl⟩
 obtain ⟨⟨er, t2⟩, hlk⟩ : ∃ q, linkP m.t d nm v = q := ⟨_, rfl⟩
 have e1 : linkM m ⟨act, p1, p2, fd, pg, sz, dt⟩ = if r ≠ 0 then (wrongR r, m) else if r2 ≠ 0 then (wrongR r2, m) else (wrongR er, { m with t := t2 }) := by
  unfold linkM
  rw [hv, hv2]
  dsimp only
  rw [hlk]
 rw [e1]
 have hv32 := find_u32 HO.out.well p1
 rw [hv] at hv32
 have hsn := entry_fits HO.out.well p2
 rw [hv2] at hsn
 obtain ⟨hd32, hnsz⟩ := hsn
 have HFD := zz (show (∀ W, ModM W F P Pt Pf N y m → Calls Tryz.prog 107 #[.pointer (some ⟨P, 0, none⟩), .string p1] W fun e w' => e = .returned (.tuple #[.int .u32 v, .int .i64 r]) ∧ Below W.heap.size W w') from fun W hM => t_findM W hM HO.out.well p1 hp1 v r hv)
 have HEN := zz (show (∀ W, ModM W F P Pt Pf N y m → Calls Tryz.prog 109 #[.pointer (some ⟨P, 0, none⟩), .string p2] W fun e w' => e = .returned (.tuple #[.int .u32 d, .string nm, .int .i64 r2]) ∧ Below W.heap.size W w') from fun W hM => t_entryM W hM HO.out.well p2 hp2 d nm r2 hv2)
 have HLK := zz (show (∀ W, ModM W F P Pt Pf N y m → Calls Tryz.prog 115 #[.pointer (some ⟨Pt, 0, none⟩), .int .u32 d, .string nm, .int .u32 v] W fun e w' => e = .returned (.int .i64 er) ∧ ModB W w' F P Pt Pf (N + 2) { m with t := t2 }) from fun W hM => (t_linkP d nm v er t2 hlk W hM.tree (by omega) hd32 hv32 hnsz HO.out.well.good.links).mono fun e w' ⟨h1, h2⟩ => ⟨h1, (hM.treeB h2).mono (by omega)⟩)
 clear e1 hv hv2 hlk
 by_cases hr : r = 0
 · have hra : (r != 0) = false := by simp [hr]
   rw [if_neg (fun e => e hr)]
   by_cases hs : r2 = 0
   · have hsa : (r2 != 0) = false := by simp [hs]
     rw [if_neg (fun e => e hs)]
     go_enter Tryz.func74, Tryz.ntmps74
     go_wp2_with (first
      | (go_at_call 107; (with_reducible refine (HFD.out _ HM.out).mono ?_)
         rintro e w2 ⟨rfl, hb2⟩
         have HM2 := zz ((HM.out).below hb2)
         have HB2 := zz (hb2)
         have cq2 := HM2.out.c0
         have hX2 := (HB2.out.block _ (Array.getElem?_eq_some_iff.1 HX.out).1).trans HX.out
         have x2w2 : w2.cell? ⟨w.heap.size, 2, none⟩ = some (.string p2) := by simp [World.cell?, hX2]
         clear hX2
         clear hb2)
      | (go_at_call 109; (with_reducible refine (HEN.out _ HM2.out).mono ?_)
         rintro e w4 ⟨rfl, hb4⟩
         have HM4 := zz ((HM2.out).below hb4)
         have HB4 := zz (ptrans HB2.out hb4)
         have cq4 := HM4.out.c0
         clear hb4)
      | (go_at_call 115; (with_reducible refine (HLK.out _ HM4.out).mono ?_)
         rintro e w5 ⟨rfl, hB5⟩
         have HT5 := zz (hB5.later HB4.out)
         clear hB5)
      | (go_at_call 43; (with_reducible refine (t_wrongR _ _).mono ?_)
         rintro e w3 ⟨rfl, hb3⟩
         have HB3 : Hid (ModB W1 w3 F P Pt Pf (N + 2) _) := HT5.out.andBelow hb3
         have hz3 := HB3.out.box HLT.out (by omega) HZ.out
         have HZ3 := zz hz3
         obtain ⟨z0, z1, z2, z3, z4, z5, z6, z7, z8, f0, f1, f2, f3, f4, f5, f6, f7, f8⟩ := resZ hz3
         clear hb3 hz3))
     exact ret_res rfl rfl HB3.out HB1.out HLT.out (by omega) rfl HZ.out HZ3.out rfl rfl
   · have hsa : (r2 != 0) = true := by simpa using hs
     rw [if_pos hs]
     go_enter Tryz.func74, Tryz.ntmps74
     go_wp2_with (first
      | (go_at_call 107; (with_reducible refine (HFD.out _ HM.out).mono ?_)
         rintro e w2 ⟨rfl, hb2⟩
         have HM2 := zz ((HM.out).below hb2)
         have HB2 := zz (hb2)
         have cq2 := HM2.out.c0
         have hX2 := (HB2.out.block _ (Array.getElem?_eq_some_iff.1 HX.out).1).trans HX.out
         have x2w2 : w2.cell? ⟨w.heap.size, 2, none⟩ = some (.string p2) := by simp [World.cell?, hX2]
         clear hX2
         clear hb2)
      | (go_at_call 109; (with_reducible refine (HEN.out _ HM2.out).mono ?_)
         rintro e w4 ⟨rfl, hb4⟩
         have HM4 := zz ((HM2.out).below hb4)
         have HB4 := zz (ptrans HB2.out hb4)
         have cq4 := HM4.out.c0
         clear hb4)
      | (go_at_call 43; (with_reducible refine (t_wrongR _ _).mono ?_)
         rintro e w3 ⟨rfl, hb3⟩
         have HB3 : Hid (ModB W1 w3 F P Pt Pf (N + 2) _) := (HM.out.keepB (ptrans HB4.out hb3)).mono (by omega)
         have hz3 := HB3.out.box HLT.out (by omega) HZ.out
         have HZ3 := zz hz3
         obtain ⟨z0, z1, z2, z3, z4, z5, z6, z7, z8, f0, f1, f2, f3, f4, f5, f6, f7, f8⟩ := resZ hz3
         clear hb3 hz3))
     exact ret_res rfl rfl HB3.out HB1.out HLT.out (by omega) rfl HZ.out HZ3.out rfl rfl
 · have hra : (r != 0) = true := by simpa using hr
   rw [if_pos hr]
   go_enter Tryz.func74, Tryz.ntmps74
   go_wp2_with (first
    | (go_at_call 107; (with_reducible refine (HFD.out _ HM.out).mono ?_)
       rintro e w2 ⟨rfl, hb2⟩
       have HM2 := zz ((HM.out).below hb2)
       have HB2 := zz (hb2)
       have cq2 := HM2.out.c0
       have hX2 := (HB2.out.block _ (Array.getElem?_eq_some_iff.1 HX.out).1).trans HX.out
       have x2w2 : w2.cell? ⟨w.heap.size, 2, none⟩ = some (.string p2) := by simp [World.cell?, hX2]
       clear hX2
       clear hb2)
    | (go_at_call 43; (with_reducible refine (t_wrongR _ _).mono ?_)
       rintro e w3 ⟨rfl, hb3⟩
       have HB3 : Hid (ModB W1 w3 F P Pt Pf (N + 2) _) := (HM.out.keepB (ptrans HB2.out hb3)).mono (by omega)
       have hz3 := HB3.out.box HLT.out (by omega) HZ.out
       have HZ3 := zz hz3
       obtain ⟨z0, z1, z2, z3, z4, z5, z6, z7, z8, f0, f1, f2, f3, f4, f5, f6, f7, f8⟩ := resZ hz3
       clear hb3 hz3))
   exact ret_res rfl rfl HB3.out HB1.out HLT.out (by omega) rfl HZ.out HZ3.out rfl rfl
set_option maxRecDepth 100000 in
set_option maxHeartbeats 2000000 in
theorem t_renameC (w : World) (h : ModM w F P Pt Pf N y m) (hO : m.Ok) (c : Nat) (x : Cx) (hx : x.path.size ≤ maxLen) (hx2 : x.path2.size ≤ maxLen) (hN : N ≤ 50000) :
  Calls Tryz.prog 76 #[.pointer (some ⟨P, 0, none⟩), .int .i64 c, callV x] w (ResP w F P Pt Pf (N + 2) m.t (renameM m x)) := by
 obtain ⟨act, p1, p2, fd, pg, sz, dt⟩ := x
 have hlt := h.lt
 obtain ⟨W1, hW1, hX, hZ, hsz, hB1⟩ := two_blocks w #[.int .u8 act, .string p1, .string p2, .int .i64 fd, .int .i64 pg, .int .u32 sz, .string dt] #[.int .i64 0, .int .i64 0, .int .u32 0, .int .u32 0, .int .u8 0, .int .i64 0, .int .u32 0, .slice none 0 0, .string ⟨#[]⟩] 31 39
 have hM : ModM W1 F P Pt Pf N y m := h.below hB1
 have HM := zz hM
 have HB1 := zz hB1
 have HZ := zz hZ
 have HX := zz hX
 have HLT := zz hlt
 have HO := zz hO
 show Calls Tryz.prog 76 #[.pointer (some ⟨P, 0, none⟩), .int .i64 c, .agg #[.int .u8 act, .string p1, .string p2, .int .i64 fd, .int .i64 pg, .int .u32 sz, .string dt]] w _
 have hp1 : p1.size ≤ maxLen := hx
 have hp2 : p2.size ≤ maxLen := hx2
 clear hx hx2 hM hB1 hZ hX hlt hO h hsz
 have x1 : W1.cell? ⟨w.heap.size, 1, none⟩ = some (.string p1) := by simp [World.cell?, HX.out]
 obtain ⟨⟨⟨d, nm⟩, r⟩, hv⟩ : ∃ q, entryP m.t p1 = q := ⟨_, rfl⟩
 obtain ⟨⟨⟨d2, nm2⟩, r2⟩, hv2⟩ : ∃ q, entryP m.t p2 = q := ⟨_, rfl⟩
 obtain ⟨⟨er, t2⟩, hlk⟩ : ∃ q, renameP m.t d nm d2 nm2 = q := ⟨_, rfl⟩
 have e1 : renameM m ⟨act, p1, p2, fd, pg, sz, dt⟩ = if r ≠ 0 then (wrongR r, m) else if r2 ≠ 0 then (wrongR r2, m) else (wrongR er, { m with t := t2 }) := by
  unfold renameM
  rw [hv, hv2]
  dsimp only
  rw [hlk]
 rw [e1]
 have hsn := entry_fits HO.out.well p1
 rw [hv] at hsn
 obtain ⟨hd32, hnsz⟩ := hsn
 have hsn2 := entry_fits HO.out.well p2
 rw [hv2] at hsn2
 obtain ⟨hd322, hnsz2⟩ := hsn2
 have HENA := zz (show (∀ W, ModM W F P Pt Pf N y m → Calls Tryz.prog 109 #[.pointer (some ⟨P, 0, none⟩), .string p1] W fun e w' => e = .returned (.tuple #[.int .u32 d, .string nm, .int .i64 r]) ∧ Below W.heap.size W w') from fun W hM => t_entryM W hM HO.out.well p1 hp1 d nm r hv)
 have HENB := zz (show (∀ W, ModM W F P Pt Pf N y m → Calls Tryz.prog 109 #[.pointer (some ⟨P, 0, none⟩), .string p2] W fun e w' => e = .returned (.tuple #[.int .u32 d2, .string nm2, .int .i64 r2]) ∧ Below W.heap.size W w') from fun W hM => t_entryM W hM HO.out.well p2 hp2 d2 nm2 r2 hv2)
 have HLK := zz (show (∀ W, ModM W F P Pt Pf N y m → Calls Tryz.prog 118 #[.pointer (some ⟨Pt, 0, none⟩), .int .u32 d, .string nm, .int .u32 d2, .string nm2] W fun e w' => e = .returned (.int .i64 er) ∧ ModB W w' F P Pt Pf (N + 2) { m with t := t2 }) from fun W hM => (t_renameP d nm d2 nm2 er t2 hlk W hM.tree HO.out.well hd32 hd322 hnsz hnsz2 (by omega)).mono fun e w' ⟨h1, h2⟩ => ⟨h1, (hM.treeB h2).mono (by omega)⟩)
 clear e1 hv hv2 hlk
 by_cases hr : r = 0
 · have hra : (r != 0) = false := by simp [hr]
   rw [if_neg (fun e => e hr)]
   by_cases hs : r2 = 0
   · have hsa : (r2 != 0) = false := by simp [hs]
     rw [if_neg (fun e => e hs)]
     go_enter Tryz.func76, Tryz.ntmps76
     go_wp2_with (first
      | (go_at_call 109; (with_reducible refine (HENA.out _ HM.out).mono ?_)
         rintro e w2 ⟨rfl, hb2⟩
         have HM2 := zz ((HM.out).below hb2)
         have HB2 := zz (hb2)
         have cq2 := HM2.out.c0
         have hX2 := (HB2.out.block _ (Array.getElem?_eq_some_iff.1 HX.out).1).trans HX.out
         have x2w2 : w2.cell? ⟨w.heap.size, 2, none⟩ = some (.string p2) := by simp [World.cell?, hX2]
         clear hX2
         clear hb2)
      | (go_at_call 109; (with_reducible refine (HENB.out _ HM2.out).mono ?_)
         rintro e w4 ⟨rfl, hb4⟩
         have HM4 := zz ((HM2.out).below hb4)
         have HB4 := zz (ptrans HB2.out hb4)
         have cq4 := HM4.out.c0
         clear hb4)
      | (go_at_call 118; (with_reducible refine (HLK.out _ HM4.out).mono ?_)
         rintro e w5 ⟨rfl, hB5⟩
         have HT5 := zz (hB5.later HB4.out)
         clear hB5)
      | (go_at_call 43; (with_reducible refine (t_wrongR _ _).mono ?_)
         rintro e w3 ⟨rfl, hb3⟩
         have HB3 : Hid (ModB W1 w3 F P Pt Pf (N + 2) _) := HT5.out.andBelow hb3
         have hz3 := HB3.out.box HLT.out (by omega) HZ.out
         have HZ3 := zz hz3
         obtain ⟨z0, z1, z2, z3, z4, z5, z6, z7, z8, f0, f1, f2, f3, f4, f5, f6, f7, f8⟩ := resZ hz3
         clear hb3 hz3))
     exact ret_res rfl rfl HB3.out HB1.out HLT.out (by omega) rfl HZ.out HZ3.out rfl rfl
   · have hsa : (r2 != 0) = true := by simpa using hs
     rw [if_pos hs]
     go_enter Tryz.func76, Tryz.ntmps76
     go_wp2_with (first
      | (go_at_call 109; (with_reducible refine (HENA.out _ HM.out).mono ?_)
         rintro e w2 ⟨rfl, hb2⟩
         have HM2 := zz ((HM.out).below hb2)
         have HB2 := zz (hb2)
         have cq2 := HM2.out.c0
         have hX2 := (HB2.out.block _ (Array.getElem?_eq_some_iff.1 HX.out).1).trans HX.out
         have x2w2 : w2.cell? ⟨w.heap.size, 2, none⟩ = some (.string p2) := by simp [World.cell?, hX2]
         clear hX2
         clear hb2)
      | (go_at_call 109; (with_reducible refine (HENB.out _ HM2.out).mono ?_)
         rintro e w4 ⟨rfl, hb4⟩
         have HM4 := zz ((HM2.out).below hb4)
         have HB4 := zz (ptrans HB2.out hb4)
         have cq4 := HM4.out.c0
         clear hb4)
      | (go_at_call 43; (with_reducible refine (t_wrongR _ _).mono ?_)
         rintro e w3 ⟨rfl, hb3⟩
         have HB3 : Hid (ModB W1 w3 F P Pt Pf (N + 2) _) := (HM.out.keepB (ptrans HB4.out hb3)).mono (by omega)
         have hz3 := HB3.out.box HLT.out (by omega) HZ.out
         have HZ3 := zz hz3
         obtain ⟨z0, z1, z2, z3, z4, z5, z6, z7, z8, f0, f1, f2, f3, f4, f5, f6, f7, f8⟩ := resZ hz3
         clear hb3 hz3))
     exact ret_res rfl rfl HB3.out HB1.out HLT.out (by omega) rfl HZ.out HZ3.out rfl rfl
 · have hra : (r != 0) = true := by simpa using hr
   rw [if_pos hr]
   go_enter Tryz.func76, Tryz.ntmps76
   go_wp2_with (first
    | (go_at_call 109; (with_reducible refine (HENA.out _ HM.out).mono ?_)
       rintro e w2 ⟨rfl, hb2⟩
       have HM2 := zz ((HM.out).below hb2)
       have HB2 := zz (hb2)
       have cq2 := HM2.out.c0
       have hX2 := (HB2.out.block _ (Array.getElem?_eq_some_iff.1 HX.out).1).trans HX.out
       have x2w2 : w2.cell? ⟨w.heap.size, 2, none⟩ = some (.string p2) := by simp [World.cell?, hX2]
       clear hX2
       clear hb2)
    | (go_at_call 43; (with_reducible refine (t_wrongR _ _).mono ?_)
       rintro e w3 ⟨rfl, hb3⟩
       have HB3 : Hid (ModB W1 w3 F P Pt Pf (N + 2) _) := (HM.out.keepB (ptrans HB2.out hb3)).mono (by omega)
       have hz3 := HB3.out.box HLT.out (by omega) HZ.out
       have HZ3 := zz hz3
       obtain ⟨z0, z1, z2, z3, z4, z5, z6, z7, z8, f0, f1, f2, f3, f4, f5, f6, f7, f8⟩ := resZ hz3
       clear hb3 hz3))
   exact ret_res rfl rfl HB3.out HB1.out HLT.out (by omega) rfl HZ.out HZ3.out rfl rfl
end
end

section
open Go.RowKit Go.Maps
section
variable {F : Nat → Prop} {P Pt Pf N : Nat} {y : Lay} {m : MD}
set_option maxRecDepth 100000 in
set_option maxHeartbeats 2000000 in
theorem t_entryC (w : World) (h : ModM w F P Pt Pf N y m) (hO : m.Ok) (c : Nat) (x : Cx) (hx : x.path.size ≤ maxLen) (hx2 : x.path2.size ≤ maxLen) (hN : N ≤ 50000) :
  Calls Tryz.prog 75 #[.pointer (some ⟨P, 0, none⟩), .int .i64 c, callV x] w (ResP w F P Pt Pf (N + 2) m.t (entryM m x)) := by
 obtain ⟨act, p1, p2, fd, pg, sz, dt⟩ := x
 have hlt := h.lt
 obtain ⟨W1, hW1, hX, hZ, hsz, hB1⟩ := two_blocks w #[.int .u8 act, .string p1, .string p2, .int .i64 fd, .int .i64 pg, .int .u32 sz, .string dt] #[.int .i64 0, .int .i64 0, .int .u32 0, .int .u32 0, .int .u8 0, .int .i64 0, .int .u32 0, .slice none 0 0, .string ⟨#[]⟩] 31 39
 have hM : ModM W1 F P Pt Pf N y m := h.below hB1
 have HM := zz hM
 have HB1 := zz hB1
 have HZ := zz hZ
 have HX := zz hX
 have HLT := zz hlt
 have HO := zz hO
 show Calls Tryz.prog 75 #[.pointer (some ⟨P, 0, none⟩), .int .i64 c, .agg #[.int .u8 act, .string p1, .string p2, .int .i64 fd, .int .i64 pg, .int .u32 sz, .string dt]] w _
 have hp1 : p1.size ≤ maxLen := hx
 have hp2 : p2.size ≤ maxLen := hx2
 clear hx hx2 hM hB1 hZ hX hlt hO h hsz
 have x1 : W1.cell? ⟨w.heap.size, 1, none⟩ = some (.string p1) := by simp [World.cell?, HX.out]
 obtain ⟨⟨⟨d, nm⟩, r⟩, hv⟩ : ∃ q, entryP m.t p1 = q := ⟨_, rfl⟩
 have hsn := entry_fits HO.out.well p1
 rw [hv] at hsn
 obtain ⟨hd32, hnsz⟩ := hsn
 have HEN := zz (show (∀ W, ModM W F P Pt Pf N y m → Calls Tryz.prog 109 #[.pointer (some ⟨P, 0, none⟩), .string p1] W fun e w' => e = .returned (.tuple #[.int .u32 d, .string nm, .int .i64 r]) ∧ Below W.heap.size W w') from fun W hM => t_entryM W hM HO.out.well p1 hp1 d nm r hv)
 by_cases hr : r = 0
 · have hra : (r != 0) = false := by simp [hr]
   by_cases h7 : act = 7
   · have h7b : (act == 7) = true := by simp [h7]
     obtain ⟨⟨⟨io, er⟩, t2⟩, hlk⟩ : ∃ q, dropP m.t d nm unlinkE = q := ⟨_, rfl⟩
     have e1 : entryM m ⟨act, p1, p2, fd, pg, sz, dt⟩ = (wrongR er, { m with t := t2 }) := by
      unfold entryM
      rw [if_neg (by rw [hv]; exact fun e => e hr)]
      rw [if_pos h7, hv]
      dsimp only
      rw [hlk]
     rw [e1]
     have HLK := zz (show (∀ W, ModM W F P Pt Pf N y m → Calls Tryz.prog 116 #[.pointer (some ⟨Pt, 0, none⟩), .int .u32 d, .string nm] W fun e w' => e = .returned (.tuple #[.int .u32 io, .int .i64 er]) ∧ ModB W w' F P Pt Pf (N + 2) { m with t := t2 }) from fun W hM => (t_unlinkP d nm io er t2 hlk W hM.tree HO.out.well.good hd32 hnsz).mono fun e w' ⟨h1, h2⟩ => ⟨h1, (hM.treeB h2).mono (by omega)⟩)
     clear e1 hv hlk h7
     go_enter Tryz.func75, Tryz.ntmps75
     go_wp2_with (first
      | (go_at_call 109; (with_reducible refine (HEN.out _ HM.out).mono ?_)
         rintro e w2 ⟨rfl, hb2⟩
         have HM2 := zz ((HM.out).below hb2)
         have HB2 := zz (hb2)
         have cq2 := HM2.out.c0
         have hX2 := (HB2.out.block _ (Array.getElem?_eq_some_iff.1 HX.out).1).trans HX.out
         have x0w2 : w2.cell? ⟨w.heap.size, 0, none⟩ = some (.int .u8 act) := by simp [World.cell?, hX2]
         clear hX2
         clear hb2)
      | (go_at_call 116; (with_reducible refine (HLK.out _ HM2.out).mono ?_); rintro e w5 ⟨rfl, hB5⟩
         have HB3 := zz (hB5.later HB2.out)
         have hz3 := HB3.out.box HLT.out (by omega) HZ.out
         have HZ3 := zz hz3
         obtain ⟨z0, z1, z2, z3, z4, z5, z6, z7, z8, f0, f1, f2, f3, f4, f5, f6, f7, f8⟩ := resZ hz3
         clear hB5 hz3))
     exact ret_res2 rfl rfl HB3.out HB1.out HLT.out (by omega) rfl HZ.out (pgrown_set _ _ _ _) (cset _ HZ3.out) rfl rfl
   · have h7b : (act == 7) = false := by simp [h7]
     by_cases h10 : act = 10
     · have h10b : (act == 10) = true := by simp [h10]
       obtain ⟨⟨⟨io, er⟩, t2⟩, hlk⟩ : ∃ q, dropP m.t d nm rmdirE = q := ⟨_, rfl⟩
       have e1 : entryM m ⟨act, p1, p2, fd, pg, sz, dt⟩ = (wrongR er, { m with t := t2 }) := by
        unfold entryM
        rw [if_neg (by rw [hv]; exact fun e => e hr)]
        rw [if_neg h7, if_pos h10, hv]
        dsimp only
        rw [hlk]
       rw [e1]
       have HLK := zz (show (∀ W, ModM W F P Pt Pf N y m → Calls Tryz.prog 117 #[.pointer (some ⟨Pt, 0, none⟩), .int .u32 d, .string nm] W fun e w' => e = .returned (.tuple #[.int .u32 io, .int .i64 er]) ∧ ModB W w' F P Pt Pf (N + 2) { m with t := t2 }) from fun W hM => (t_rmdirP d nm io er t2 hlk W hM.tree HO.out.well.good hd32 hnsz).mono fun e w' ⟨h1, h2⟩ => ⟨h1, (hM.treeB h2).mono (by omega)⟩)
       clear e1 hv hlk h7 h10
       go_enter Tryz.func75, Tryz.ntmps75
       go_wp2_with (first
        | (go_at_call 109; (with_reducible refine (HEN.out _ HM.out).mono ?_)
           rintro e w2 ⟨rfl, hb2⟩
           have HM2 := zz ((HM.out).below hb2)
           have HB2 := zz (hb2)
           have cq2 := HM2.out.c0
           have hX2 := (HB2.out.block _ (Array.getElem?_eq_some_iff.1 HX.out).1).trans HX.out
           have x0w2 : w2.cell? ⟨w.heap.size, 0, none⟩ = some (.int .u8 act) := by simp [World.cell?, hX2]
           clear hX2
           clear hb2)
        | (go_at_call 117; (with_reducible refine (HLK.out _ HM2.out).mono ?_); rintro e w5 ⟨rfl, hB5⟩
           have HB3 := zz (hB5.later HB2.out)
           have hz3 := HB3.out.box HLT.out (by omega) HZ.out
           have HZ3 := zz hz3
           obtain ⟨z0, z1, z2, z3, z4, z5, z6, z7, z8, f0, f1, f2, f3, f4, f5, f6, f7, f8⟩ := resZ hz3
           clear hB5 hz3))
       exact ret_res2 rfl rfl HB3.out HB1.out HLT.out (by omega) rfl HZ.out (pgrown_set _ _ _ _) (cset _ HZ3.out) rfl rfl
     · have h10b : (act == 10) = false := by simp [h10]
       obtain ⟨⟨⟨io, er⟩, t2⟩, hlk⟩ : ∃ q, makeP m.t d nm 2 (leastI m.t) = q := ⟨_, rfl⟩
       have e1 : entryM m ⟨act, p1, p2, fd, pg, sz, dt⟩ = ({ wrongR er with ino := io }, { m with t := t2 }) := by
        unfold entryM
        rw [if_neg (by rw [hv]; exact fun e => e hr)]
        unfold makeM
        rw [if_neg h7, if_neg h10, hv]
        dsimp only
        rw [hlk]
       rw [e1]
       have HLK := zz (show (∀ W, ModM W F P Pt Pf N y m → Calls Tryz.prog 110 #[.pointer (some ⟨Pt, 0, none⟩), .int .u32 d, .string nm, .int .u8 2] W fun e w' => e = .returned (.tuple #[.int .u32 io, .int .i64 er]) ∧ ModB W w' F P Pt Pf (N + 2) { m with t := t2 }) from fun W hM => (t_makeP d nm 2 (leastI m.t) io er t2 HO.out.well.leastI_ hlk W hM.tree (by omega) hd32 hnsz).mono fun e w' ⟨h1, h2⟩ => ⟨h1, (hM.treeB h2).mono (by omega)⟩)
       clear e1 hv hlk h7 h10
       go_enter Tryz.func75, Tryz.ntmps75
       go_wp2_with (first
        | (go_at_call 109; (with_reducible refine (HEN.out _ HM.out).mono ?_)
           rintro e w2 ⟨rfl, hb2⟩
           have HM2 := zz ((HM.out).below hb2)
           have HB2 := zz (hb2)
           have cq2 := HM2.out.c0
           have hX2 := (HB2.out.block _ (Array.getElem?_eq_some_iff.1 HX.out).1).trans HX.out
           have x0w2 : w2.cell? ⟨w.heap.size, 0, none⟩ = some (.int .u8 act) := by simp [World.cell?, hX2]
           clear hX2
           clear hb2)
        | (go_at_call 110; (with_reducible refine (HLK.out _ HM2.out).mono ?_); rintro e w5 ⟨rfl, hB5⟩
           have HB3 := zz (hB5.later HB2.out)
           have hz3 := HB3.out.box HLT.out (by omega) HZ.out
           have HZ3 := zz hz3
           obtain ⟨z0, z1, z2, z3, z4, z5, z6, z7, z8, f0, f1, f2, f3, f4, f5, f6, f7, f8⟩ := resZ hz3
           clear hB5 hz3))
       exact ret_res2 rfl rfl HB3.out HB1.out HLT.out (by omega) rfl HZ.out (pgrown_trans (pgrown_set _ _ _ _) (pgrown_set _ _ _ _)) (cset _ (cset _ HZ3.out)) rfl rfl
 · have hra : (r != 0) = true := by simpa using hr
   have e1 : entryM m ⟨act, p1, p2, fd, pg, sz, dt⟩ = (wrongR r, m) := by unfold entryM; rw [if_pos (by rw [hv]; exact hr), hv]
   rw [e1]
   clear e1 hv
   go_enter Tryz.func75, Tryz.ntmps75
   go_wp2_with (first
    | (go_at_call 109; (with_reducible refine (HEN.out _ HM.out).mono ?_)
       rintro e w2 ⟨rfl, hb2⟩
       have HM2 := zz ((HM.out).below hb2)
       have HB2 := zz (hb2)
       have cq2 := HM2.out.c0
       have hX2 := (HB2.out.block _ (Array.getElem?_eq_some_iff.1 HX.out).1).trans HX.out
       have x0w2 : w2.cell? ⟨w.heap.size, 0, none⟩ = some (.int .u8 act) := by simp [World.cell?, hX2]
       clear hX2
       clear hb2)
    | (go_at_call 43; (with_reducible refine (t_wrongR _ _).mono ?_)
       rintro e w3 ⟨rfl, hb3⟩
       have HB3 : Hid (ModB W1 w3 F P Pt Pf (N + 2) _) := (HM.out.keepB (ptrans HB2.out hb3)).mono (by omega)
       have hz3 := HB3.out.box HLT.out (by omega) HZ.out
       have HZ3 := zz hz3
       obtain ⟨z0, z1, z2, z3, z4, z5, z6, z7, z8, f0, f1, f2, f3, f4, f5, f6, f7, f8⟩ := resZ hz3
       clear hb3 hz3))
   exact ret_res rfl rfl HB3.out HB1.out HLT.out (by omega) rfl HZ.out HZ3.out rfl rfl
end
end

section
open Go.RowKit Go.Maps
theorem ents_grown {w w' : World} {A : Option Addr} {L : List E} {R : Nat} (h : EntsAt w A L) (hg : w.grownBy w' (some R)) (hne : ∀ B, A = some ⟨B, 0, none⟩ → B ≠ R) : EntsAt w' A L := ⟨fun h0 => by
 obtain ⟨B, e, hlt, hc⟩ := h.at_ h0
 have hk := hg.block B hlt (fun e2 => hne B e (by injection e2))
 refine ⟨B, e, Nat.lt_of_lt_of_le hlt hg.size, fun k x hx => ?_⟩
 obtain ⟨h1, h2⟩ := hc k x hx
 exact ⟨(World.cell?_of_block (a := ⟨B, k * 2, none⟩) hk).trans h1, (World.cell?_of_block (a := ⟨B, k * 2 + 1, none⟩) hk).trans h2⟩⟩
theorem resG {W : World} {R : Nat} {T : TypeId} {v0 v1 v2 v3 v4 v5 v6 v7 v8 : Value} (h : W.heap[R]? = some (.cells #[v0, v1, v2, v3, v4, v5, v6, v7, v8] T (0, 0))) : W.cell? ⟨R, 0, none⟩ = some v0 ∧ W.cell? ⟨R, 1, none⟩ = some v1 ∧ W.cell? ⟨R, 2, none⟩ = some v2 ∧ W.cell? ⟨R, 3, none⟩ = some v3 ∧ W.cell? ⟨R, 4, none⟩ = some v4 ∧ W.cell? ⟨R, 5, none⟩ = some v5 ∧ W.cell? ⟨R, 6, none⟩ = some v6 ∧ W.cell? ⟨R, 7, none⟩ = some v7 ∧ W.cell? ⟨R, 8, none⟩ = some v8 ∧ W.frozen? ⟨R, 0, none⟩ = false ∧ W.frozen? ⟨R, 1, none⟩ = false ∧ W.frozen? ⟨R, 2, none⟩ = false ∧ W.frozen? ⟨R, 3, none⟩ = false ∧ W.frozen? ⟨R, 4, none⟩ = false ∧ W.frozen? ⟨R, 5, none⟩ = false ∧ W.frozen? ⟨R, 6, none⟩ = false ∧ W.frozen? ⟨R, 7, none⟩ = false ∧ W.frozen? ⟨R, 8, none⟩ = false := by
 simp [World.cell?, World.frozen?, h]
theorem stat_store {W : World} {R : Nat} {T : TypeId} {a b c d : Int} {v0 v1 v2 v3 v4 v5 v6 v7 v8 : Value} (h : W.heap[R]? = some (.cells #[v0, v1, v2, v3, v4, v5, v6, v7, v8] T (0, 0))) :
  ∃ w', (Instr.storeAt 36 (.pointer (some ⟨R, 3, none⟩)) (.agg #[.int .u32 a, .int .u8 b, .int .i64 c, .int .u32 d])).run Tryz.prog W = .ok () w' ∧ w'.heap[R]? = some (.cells #[v0, v1, v2, .int .u32 a, .int .u8 b, .int .i64 c, .int .u32 d, v7, v8] T (0, 0)) ∧ W.grownBy w' (some R) := by
 obtain ⟨z0, z1, z2, z3, z4, z5, z6, z7, z8, f0, f1, f2, f3, f4, f5, f6, f7, f8⟩ := resG h
 have ht : W.there R 3 4 := fun j hj => by
  match j, hj with
  | 0, _ => exact ⟨by rw [show (3 + 0 : Nat) = 3 from rfl, z3]; rfl, f3⟩
  | 1, _ => exact ⟨by rw [show (3 + 1 : Nat) = 4 from rfl, z4]; rfl, f4⟩
  | 2, _ => exact ⟨by rw [show (3 + 2 : Nat) = 5 from rfl, z5]; rfl, f5⟩
  | 3, _ => exact ⟨by rw [show (3 + 3 : Nat) = 6 from rfl, z6]; rfl, f6⟩
 have hrun := run_storeAt_mid (P := Tryz.prog) W R 3 36 #[.int .u32 a, .int .u8 b, .int .i64 c, .int .u32 d] ht (by kernel_rfl) (by simp [Value.oneCell'])
 refine ⟨_, hrun, ?_, grown_setCells R _ 3 W⟩
 have e := cset (j := 6) (.int .u32 d) (cset (j := 5) (.int .i64 c) (cset (j := 4) (.int .u8 b) (cset (j := 3) (.int .u32 a) h)))
 simp only [List.setIfInBounds_toArray, List.set_cons_succ, List.set_cons_zero] at e
 exact e
theorem statR_form (t : PT) (i : Int) : ∃ a b c d e : Int, statR t i = (.agg #[.int .u32 a, .int .u8 b, .int .i64 c, .int .u32 d], e) := by
 unfold statR
 split
 · exact ⟨_, _, _, _, _, rfl⟩
 · exact ⟨_, _, _, _, _, rfl⟩
section
variable {F : Nat → Prop} {P Pt Pf N : Nat} {y : Lay} {m : MD}
set_option maxRecDepth 100000 in
set_option maxHeartbeats 2000000 in
theorem t_listC (w : World) (h : ModM w F P Pt Pf N y m) (hO : m.Ok) (c : Nat) (x : Cx) (hx : x.path.size ≤ maxLen) (hx2 : x.path2.size ≤ maxLen) (hN : N ≤ 50000) :
  Calls Tryz.prog 77 #[.pointer (some ⟨P, 0, none⟩), .int .i64 c, callV x] w (ResP w F P Pt Pf (N + 2) m.t (listM m x)) := by
 obtain ⟨act, p1, p2, fd, pg, sz, dt⟩ := x
 have hlt := h.lt
 obtain ⟨W1, hW1, hX, hZ, hsz, hB1⟩ := two_blocks w #[.int .u8 act, .string p1, .string p2, .int .i64 fd, .int .i64 pg, .int .u32 sz, .string dt] #[.int .i64 0, .int .i64 0, .int .u32 0, .int .u32 0, .int .u8 0, .int .i64 0, .int .u32 0, .slice none 0 0, .string ⟨#[]⟩] 31 39
 have hM : ModM W1 F P Pt Pf N y m := h.below hB1
 have HM := zz hM
 have HB1 := zz hB1
 have HZ := zz hZ
 have HX := zz hX
 have HLT := zz hlt
 have HO := zz hO
 show Calls Tryz.prog 77 #[.pointer (some ⟨P, 0, none⟩), .int .i64 c, .agg #[.int .u8 act, .string p1, .string p2, .int .i64 fd, .int .i64 pg, .int .u32 sz, .string dt]] w _
 have hp1 : p1.size ≤ maxLen := hx
 have hp2 : p2.size ≤ maxLen := hx2
 clear hx hx2 hM hB1 hZ hX hlt hO h hsz
 have x1 : W1.cell? ⟨w.heap.size, 1, none⟩ = some (.string p1) := by simp [World.cell?, HX.out]
 obtain ⟨⟨v, r⟩, hv⟩ : ∃ q, findP m.t p1 = q := ⟨_, rfl⟩
 have hv32 := find_u32 HO.out.well p1
 rw [hv] at hv32
 have HFD := zz (show (∀ W, ModM W F P Pt Pf N y m → Calls Tryz.prog 107 #[.pointer (some ⟨P, 0, none⟩), .string p1] W fun e w' => e = .returned (.tuple #[.int .u32 v, .int .i64 r]) ∧ Below W.heap.size W w') from fun W hM => t_findM W hM HO.out.well p1 hp1 v r hv)
 by_cases hr : r = 0
 · have hra : (r != 0) = false := by simp [hr]
   obtain ⟨le, hle⟩ : ∃ le, listE m.t v = le := ⟨_, rfl⟩
   have e1 : listM m ⟨act, p1, p2, fd, pg, sz, dt⟩ = ({ wrongR le with ls := some v }, m) := by unfold listM; rw [if_neg (by rw [hv]; exact fun e => e hr), hv]; dsimp only; rw [hle]
   rw [e1]
   have HLI := zz (show (∀ W, ModM W F P Pt Pf N y m → Calls Tryz.prog 47 #[.pointer (some ⟨Pt, 0, none⟩), .int .u32 v] W fun e w' => ∃ A cc L n, e = .returned (.tuple #[.slice A n cc, .int .i64 le]) ∧ L.length = n ∧ EntsOf (listL m.t v) L ∧ EntsAt w' A L ∧ Below W.heap.size W w' ∧ ∀ B, A = some ⟨B, 0, none⟩ → W.heap.size ≤ B) from fun W hM => (t_listP v W hM.tree hv32 (by omega)).mono fun e w' ⟨A, cc, L, h1, h2, _, h3, h4, h5⟩ => ⟨A, cc, L, L.length, by rw [← hle]; exact h1, rfl, h2, h3, h4, h5⟩)
   clear e1 hv hle
   go_enter Tryz.func77, Tryz.ntmps77
   go_wp2_with (first
    | (go_at_call 107; (with_reducible refine (HFD.out _ HM.out).mono ?_)
       rintro e w2 ⟨rfl, hb2⟩
       have HM2 := zz ((HM.out).below hb2)
       have HB2 := zz (hb2)
       have cq2 := HM2.out.c0
       clear hb2)
    | (go_at_call 47; (with_reducible refine (HLI.out _ HM2.out).mono ?_); rintro e w5 ⟨A, cc, L, n, rfl, hn, hE, hA, hb5, hlo⟩
       have HB3 : Hid (ModB W1 w5 F P Pt Pf (N + 2) m) := (HM.out.keepB (ptrans HB2.out hb5)).mono (by omega)
       have hz3 := HB3.out.box HLT.out (by omega) HZ.out
       have HZ3 := zz hz3
       obtain ⟨z0, z1, z2, z3, z4, z5, z6, z7, z8, f0, f1, f2, f3, f4, f5, f6, f7, f8⟩ := resZ hz3
       have HNL := zz hn
       have HE := zz hE
       have HA := zz hA
       have hlo2 : ∀ B, A = some ⟨B, 0, none⟩ → w.heap.size + 1 < B := (fun B hB => by have := hlo B hB; have := HB2.out.size; have := (Array.getElem?_eq_some_iff.1 HZ.out).1; omega)
       have HLO := zz hlo2
       clear hn hE hA hb5 hlo hlo2 hz3))
   refine ret_res3 (lv := .slice A n cc) rfl rfl HB3.out HB1.out HLT.out (by omega) rfl HZ.out (pgrown_trans (pgrown_set _ _ _ _) (pgrown_set _ _ _ _)) (cset _ (cset _ HZ3.out)) (fun W9 hg9 => ?_) rfl
   exact ⟨A, cc, L, by rw [HNL.out], HE.out, ents_grown HA.out hg9 (fun B hB => by have := HLO.out B hB; omega), fun B hB => by have := HLO.out B hB; omega⟩
 · have hra : (r != 0) = true := by simpa using hr
   have e1 : listM m ⟨act, p1, p2, fd, pg, sz, dt⟩ = (wrongR r, m) := by unfold listM; rw [if_pos (by rw [hv]; exact hr), hv]
   rw [e1]
   clear e1 hv
   go_enter Tryz.func77, Tryz.ntmps77
   go_wp2_with (first
    | (go_at_call 107; (with_reducible refine (HFD.out _ HM.out).mono ?_)
       rintro e w2 ⟨rfl, hb2⟩
       have HM2 := zz ((HM.out).below hb2)
       have HB2 := zz (hb2)
       have cq2 := HM2.out.c0
       clear hb2)
    | (go_at_call 43; (with_reducible refine (t_wrongR _ _).mono ?_)
       rintro e w3 ⟨rfl, hb3⟩
       have HB3 : Hid (ModB W1 w3 F P Pt Pf (N + 2) _) := (HM.out.keepB (ptrans HB2.out hb3)).mono (by omega)
       have hz3 := HB3.out.box HLT.out (by omega) HZ.out
       have HZ3 := zz hz3
       obtain ⟨z0, z1, z2, z3, z4, z5, z6, z7, z8, f0, f1, f2, f3, f4, f5, f6, f7, f8⟩ := resZ hz3
       clear hb3 hz3))
   exact ret_res rfl rfl HB3.out HB1.out HLT.out (by omega) rfl HZ.out HZ3.out rfl rfl
set_option maxRecDepth 100000 in
set_option maxHeartbeats 2000000 in
theorem t_statC (w : World) (h : ModM w F P Pt Pf N y m) (hO : m.Ok) (c : Nat) (x : Cx) (hx : x.path.size ≤ maxLen) (hx2 : x.path2.size ≤ maxLen) (_hN : N ≤ 50000) :
  Calls Tryz.prog 78 #[.pointer (some ⟨P, 0, none⟩), .int .i64 c, callV x] w (ResP w F P Pt Pf (N + 2) m.t (statM m x)) := by
 obtain ⟨act, p1, p2, fd, pg, sz, dt⟩ := x
 have hlt := h.lt
 obtain ⟨W1, hW1, hX, hZ, hsz, hB1⟩ := two_blocks w #[.int .u8 act, .string p1, .string p2, .int .i64 fd, .int .i64 pg, .int .u32 sz, .string dt] #[.int .i64 0, .int .i64 0, .int .u32 0, .int .u32 0, .int .u8 0, .int .i64 0, .int .u32 0, .slice none 0 0, .string ⟨#[]⟩] 31 39
 have hM : ModM W1 F P Pt Pf N y m := h.below hB1
 have HM := zz hM
 have HB1 := zz hB1
 have HZ := zz hZ
 have HX := zz hX
 have HLT := zz hlt
 have HO := zz hO
 show Calls Tryz.prog 78 #[.pointer (some ⟨P, 0, none⟩), .int .i64 c, .agg #[.int .u8 act, .string p1, .string p2, .int .i64 fd, .int .i64 pg, .int .u32 sz, .string dt]] w _
 have hp1 : p1.size ≤ maxLen := hx
 have hp2 : p2.size ≤ maxLen := hx2
 clear hx hx2 hM hB1 hZ hX hlt hO h hsz
 have x1 : W1.cell? ⟨w.heap.size, 1, none⟩ = some (.string p1) := by simp [World.cell?, HX.out]
 obtain ⟨⟨v, r⟩, hv⟩ : ∃ q, findP m.t p1 = q := ⟨_, rfl⟩
 have hv32 := find_u32 HO.out.well p1
 rw [hv] at hv32
 have HFD := zz (show (∀ W, ModM W F P Pt Pf N y m → Calls Tryz.prog 107 #[.pointer (some ⟨P, 0, none⟩), .string p1] W fun e w' => e = .returned (.tuple #[.int .u32 v, .int .i64 r]) ∧ Below W.heap.size W w') from fun W hM => t_findM W hM HO.out.well p1 hp1 v r hv)
 by_cases hr : r = 0
 · have hra : (r != 0) = false := by simp [hr]
   obtain ⟨sa, sb, sc, sd, se, hst⟩ := statR_form m.t v
   have e1 : statM m ⟨act, p1, p2, fd, pg, sz, dt⟩ = ({ wrongR se with stat := .agg #[.int .u32 sa, .int .u8 sb, .int .i64 sc, .int .u32 sd] }, m) := by unfold statM; rw [if_neg (by rw [hv]; exact fun e => e hr), hv]; dsimp only; rw [hst]
   rw [e1]
   have HST := zz (show (∀ W, ModM W F P Pt Pf N y m → Calls Tryz.prog 48 #[.pointer (some ⟨Pt, 0, none⟩), .int .u32 v] W fun e w' => e = .returned (.tuple #[.agg #[.int .u32 sa, .int .u8 sb, .int .i64 sc, .int .u32 sd], .int .i64 se]) ∧ Below W.heap.size W w') from fun W hM => (t_statP v W hM.tree hv32).mono fun e w' ⟨h1, h2⟩ => ⟨by rw [h1, hst], h2⟩)
   clear e1 hv hst
   go_enter Tryz.func78, Tryz.ntmps78
   go_wp2_with (first
    | (go_at_call 107; (with_reducible refine (HFD.out _ HM.out).mono ?_)
       rintro e w2 ⟨rfl, hb2⟩
       have HM2 := zz ((HM.out).below hb2)
       have HB2 := zz (hb2)
       have cq2 := HM2.out.c0
       clear hb2)
    | (go_at_call 48; (with_reducible refine (HST.out _ HM2.out).mono ?_); rintro e w5 ⟨rfl, hb5⟩
       have HB3 : Hid (ModB W1 w5 F P Pt Pf (N + 2) m) := (HM.out.keepB (ptrans HB2.out hb5)).mono (by omega)
       obtain ⟨w6, hrun6, hz6, hg6⟩ := stat_store (a := sa) (b := sb) (c := sc) (d := sd) (HB3.out.box HLT.out (by omega) HZ.out)
       have HZ3 := zz hz6
       have HG6 := zz hg6
       have HRUN := zz hrun6
       obtain ⟨z0, z1, z2, z3, z4, z5, z6, z7, z8, f0, f1, f2, f3, f4, f5, f6, f7, f8⟩ := resG hz6
       clear hb5 hz6 hg6 hrun6)
    | (refine wpList_store_run 36 30 28 w6 _ _ rfl rfl HRUN.out ?_))
   exact ret_res2 rfl rfl HB3.out HB1.out HLT.out (by omega) rfl HZ.out (pgrown_trans HG6.out (pgrown_set _ _ _ _)) (cset _ HZ3.out) rfl rfl
 · have hra : (r != 0) = true := by simpa using hr
   have e1 : statM m ⟨act, p1, p2, fd, pg, sz, dt⟩ = (wrongR r, m) := by unfold statM; rw [if_pos (by rw [hv]; exact hr), hv]
   rw [e1]
   clear e1 hv
   go_enter Tryz.func78, Tryz.ntmps78
   go_wp2_with (first
    | (go_at_call 107; (with_reducible refine (HFD.out _ HM.out).mono ?_)
       rintro e w2 ⟨rfl, hb2⟩
       have HM2 := zz ((HM.out).below hb2)
       have HB2 := zz (hb2)
       have cq2 := HM2.out.c0
       clear hb2)
    | (go_at_call 43; (with_reducible refine (t_wrongR _ _).mono ?_)
       rintro e w3 ⟨rfl, hb3⟩
       have HB3 : Hid (ModB W1 w3 F P Pt Pf (N + 2) _) := (HM.out.keepB (ptrans HB2.out hb3)).mono (by omega)
       have hz3 := HB3.out.box HLT.out (by omega) HZ.out
       have HZ3 := zz hz3
       obtain ⟨z0, z1, z2, z3, z4, z5, z6, z7, z8, f0, f1, f2, f3, f4, f5, f6, f7, f8⟩ := resZ hz3
       clear hb3 hz3))
   exact ret_res rfl rfl HB3.out HB1.out HLT.out (by omega) rfl HZ.out HZ3.out rfl rfl
end
end
end Go.Proofs.YtpcnolkdnmolgaaGreatDoor
