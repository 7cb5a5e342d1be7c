/- The chapter's example: a model is alive. -/
import Derived.Test.YtpcnolkdnmolgaaGreatDoorPf13
import Derived.Test.YtpcnolkdnmolgaaGreatDoorPf16
import Derived.Test.YtpcnolkdnmolgaaGreatDoorPf17
import Derived.Test.YtpcnolkdnmolgaaGreatDoorPf20
import Derived.Test.YtpcnolkdnmolgaaGreatDoorPf27
import Derived.Test.YtpcnolkdnmolgaaGreatDoorRows
import Derived.MakeChecks
import Derived.LaidLaws
import Derived.LaidHandle
import Derived.LaidMore
import Derived.OpenShut
import Derived.Stop.Joined
import Derived.Test.YtpcnolkdnmolgaaGreatDoorCards
import Derived.Test.YtpcnolkdnmolgaaGreatDoorTie
import Derived.SevenTiedAt
namespace Go.Proofs.YtpcnolkdnmolgaaGreatDoor
section
open Go.RowKit Go.Maps
theorem fitsC {act fd pg sz : Int} {p p2 d : ByteArray} (a : Nat) (ha : act = a) (ha2 : a ≤ 255) (h1 : p.size ≤ maxLen) (h2 : p2.size ≤ maxLen) (h3 : d.size ≤ maxLen) (h4 : 0 ≤ sz) : (⟨act, p, p2, fd, pg, sz, d⟩ : Cx).Fits := ⟨⟨a, ha, ha2⟩, h1, h2, h3, h4⟩
theorem res_field2 (e f i : Int) (s0 s1 s2 s3 lv dv : Value) (w : World) : (Instr.field 39 (.agg #[.int .i64 e, .int .i64 f, .int .u32 i, s0, s1, s2, s3, lv, dv]) 2).run Tryz.prog w = .ok (.int .u32 i) w := by kernel_rfl
theorem res_field0 (e f i : Int) (s0 s1 s2 s3 lv dv : Value) (w : World) : (Instr.field 39 (.agg #[.int .i64 e, .int .i64 f, .int .u32 i, s0, s1, s2, s3, lv, dv]) 0).run Tryz.prog w = .ok (.int .i64 e) w := by kernel_rfl
theorem all_one {l : List Int} (h1 : l.Pairwise (· < ·)) (h2 : ∀ i, i ∈ l ↔ ((newT 8).n i).isSome = true) : l.length = 1 := by
 have h3 : ∀ i, i ∈ l ↔ i = 1 := fun i => by
  rw [h2, new_n]
  by_cases c : i = 1
  · simp [c]
  · simp [c]
 match l, h1, h3 with
 | [], _, h3 => exact absurd ((h3 1).2 rfl) (by simp)
 | [a], _, _ => rfl
 | a :: b :: r, h1, h3 =>
  have ha := (h3 a).1 (by simp)
  have hb := (h3 b).1 (by simp)
  rw [List.pairwise_cons] at h1
  have := h1.1 b (by simp)
  omega
theorem own_do_is {B N : Nat} {w1 : World} {m m' : MD} {x : Cx} {core er fd io : Int} {d : ByteArray} (hx : x.Fits) (hk : KindsAt w1) (hB0 : 0 < B) (hN : N ≤ 50000) (hd : doM m core x = (⟨er, fd, io, stat0, none, d⟩, m')) {P Pt Pf : Nat} {L : List (Nat × Obj)} (w : World) (h : MOwn B w1 P Pt Pf N m L w) :
  Calls Tryz.prog 12 #[.pointer (some ⟨P, 0, none⟩), .int .i64 core, callV x] w fun e w' => e = .returned (.agg #[.int .i64 er, .int .i64 fd, .int .u32 io, .int .u32 0, .int .u8 0, .int .i64 0, .int .u32 0, .slice none 0 0, .string d]) ∧ MOwn B w1 P Pt Pf (N + 2) m' L w' :=
 (own_do x hx core h hk hB0 hN).mono fun e w' ⟨⟨v, he, hv⟩, ho⟩ => by
  rw [hd] at hv ho
  exact ⟨by rw [he, resV_plain hv rfl], ho⟩
set_option maxRecDepth 100000 in
set_option maxHeartbeats 8000000 in
theorem t_alive21 (w : World) (hk : KindsAt w) : Calls Tryz.prog 9 #[] w fun e w' => e = .returned (.bool true) ∧ Below w.heap.size w w' := by
 obtain ⟨m0, hm0⟩ : ∃ m0, m0 = (⟨newT 8, fun _ => 0, 2⟩ : MD) := ⟨_, rfl⟩
 obtain ⟨m1, m2, m3, e1, e2, e3, e4, e5, e6⟩ := alive_plain
 rw [← hm0] at e1 e6
 obtain ⟨xd, yb, t2, -, -, e7⟩ := new_create (r := 8) (n := 1) (by decide) (by decide) (by decide) (by decide) (core := 0) (by decide) (by decide) split_b names_b check_cb
 have hB0 := hk.pos
 have HN1 := zz (show Calls Tryz.prog 10 #[.int .i64 8, .int .i64 2] w fun e w' => ∃ P Pt Pf, e = .returned (.tuple #[.pointer (some ⟨P, 0, none⟩), .int .i64 0]) ∧ MOwn w.heap.size w P Pt Pf 1 m0 [] w' from (t_newM 8 2 w (by decide) (by decide) (by decide) (by decide)).mono fun e w' ⟨P, Pt, Pf, he, y, F, hM, hO, hF, hs, hB⟩ => ⟨P, Pt, Pf, he, by rw [hm0]; exact ⟨y, F, hM, hO, hF, hs, hB, KeptL.nil⟩⟩)
 have HN2 := zz (fun W => t_newMNo 8 0 W (by decide) (by decide) (by decide))
 have HD1 := zz (show ∀ (P Pt Pf : Nat) L W, MOwn w.heap.size w P Pt Pf 1 m0 L W → Calls Tryz.prog 12 #[.pointer (some ⟨P, 0, none⟩), .int .i64 1, .agg #[.int .u8 2, .string ⟨#[47, 97]⟩, .string ⟨#[]⟩, .int .i64 0, .int .i64 0, .int .u32 0, .string ⟨#[]⟩]] W fun e w' => e = .returned (.agg #[.int .i64 0, .int .i64 0, .int .u32 2, .int .u32 0, .int .u8 0, .int .i64 0, .int .u32 0, .slice none 0 0, .string ⟨#[]⟩]) ∧ MOwn w.heap.size w P Pt Pf 3 m1 L w' from fun P Pt Pf L W h => own_do_is (x := callP 2 sla) (fitsC 2 rfl (by decide) (by decide) (by decide) (by decide) (by decide)) hk hB0 (by decide) e1 W h)
 have HD2 := zz (show ∀ (P Pt Pf : Nat) L W, MOwn w.heap.size w P Pt Pf 3 m1 L W → Calls Tryz.prog 12 #[.pointer (some ⟨P, 0, none⟩), .int .i64 1, .agg #[.int .u8 4, .string ⟨#[]⟩, .string ⟨#[]⟩, .int .i64 0, .int .i64 0, .int .u32 0, .string ⟨#[104, 105]⟩]] W fun e w' => e = .returned (.agg #[.int .i64 0, .int .i64 0, .int .u32 0, .int .u32 0, .int .u8 0, .int .i64 0, .int .u32 0, .slice none 0 0, .string ⟨#[]⟩]) ∧ MOwn w.heap.size w P Pt Pf 5 m2 L w' from fun P Pt Pf L W h => own_do_is (x := writeC 0 shi) (fitsC 4 rfl (by decide) (by decide) (by decide) (by decide) (by decide)) hk hB0 (by decide) e2 W h)
 have HD3 := zz (show ∀ (P Pt Pf : Nat) L W, MOwn w.heap.size w P Pt Pf 5 m2 L W → Calls Tryz.prog 12 #[.pointer (some ⟨P, 0, none⟩), .int .i64 0, .agg #[.int .u8 7, .string ⟨#[47, 97]⟩, .string ⟨#[]⟩, .int .i64 0, .int .i64 0, .int .u32 0, .string ⟨#[]⟩]] W fun e w' => e = .returned (.agg #[.int .i64 0, .int .i64 0, .int .u32 0, .int .u32 0, .int .u8 0, .int .i64 0, .int .u32 0, .slice none 0 0, .string ⟨#[]⟩]) ∧ MOwn w.heap.size w P Pt Pf 7 m3 L w' from fun P Pt Pf L W h => own_do_is (x := callP 7 sla) (fitsC 7 rfl (by decide) (by decide) (by decide) (by decide) (by decide)) hk hB0 (by decide) e3 W h)
 have HD4 := zz (show ∀ (P Pt Pf : Nat) L W, MOwn w.heap.size w P Pt Pf 7 m3 L W → Calls Tryz.prog 12 #[.pointer (some ⟨P, 0, none⟩), .int .i64 1, .agg #[.int .u8 3, .string ⟨#[]⟩, .string ⟨#[]⟩, .int .i64 0, .int .i64 0, .int .u32 0, .string ⟨#[]⟩]] W fun e w' => e = .returned (.agg #[.int .i64 0, .int .i64 0, .int .u32 0, .int .u32 0, .int .u8 0, .int .i64 0, .int .u32 0, .slice none 0 0, .string ⟨#[104, 105]⟩]) ∧ MOwn w.heap.size w P Pt Pf 9 m3 L w' from fun P Pt Pf L W h => own_do_is (x := readC 0 0) (fitsC 3 rfl (by decide) (by decide) (by decide) (by decide) (by decide)) hk hB0 (by decide) e4 W h)
 have HD5 := zz (show ∀ (P Pt Pf : Nat) L W, MOwn w.heap.size w P Pt Pf 9 m3 L W → Calls Tryz.prog 12 #[.pointer (some ⟨P, 0, none⟩), .int .i64 0, .agg #[.int .u8 12, .string ⟨#[47, 97]⟩, .string ⟨#[]⟩, .int .i64 0, .int .i64 0, .int .u32 0, .string ⟨#[]⟩]] W fun e w' => e = .returned (.agg #[.int .i64 3, .int .i64 0, .int .u32 0, .int .u32 0, .int .u8 0, .int .i64 0, .int .u32 0, .slice none 0 0, .string ⟨#[]⟩]) ∧ MOwn w.heap.size w P Pt Pf 11 m3 L w' from fun P Pt Pf L W h => own_do_is (x := callP 12 sla) (fitsC 12 rfl (by decide) (by decide) (by decide) (by decide) (by decide)) hk hB0 (by decide) e5 W h)
 have HD6 := zz (show ∀ (P Pt Pf : Nat) L W, MOwn w.heap.size w P Pt Pf 11 m3 L W → Calls Tryz.prog 12 #[.pointer (some ⟨P, 0, none⟩), .int .i64 1, .agg #[.int .u8 13, .string ⟨#[]⟩, .string ⟨#[]⟩, .int .i64 0, .int .i64 0, .int .u32 0, .string ⟨#[]⟩]] W fun e w' => e = .returned (.agg #[.int .i64 0, .int .i64 0, .int .u32 0, .int .u32 0, .int .u8 0, .int .i64 0, .int .u32 0, .slice none 0 0, .string ⟨#[]⟩]) ∧ MOwn w.heap.size w P Pt Pf 13 m0 L w' from fun P Pt Pf L W h => own_do_is (x := closeC 0) (fitsC 13 rfl (by decide) (by decide) (by decide) (by decide) (by decide)) hk hB0 (by decide) e6 W h)
 have HTR := zz (show ∀ (P Pt Pf : Nat) L W, MOwn w.heap.size w P Pt Pf 13 m0 L W → Calls Tryz.prog 14 #[.pointer (some ⟨P, 0, none⟩)] W (CopyP 13 (newT 8) W) from fun P Pt Pf L W h => by
  obtain ⟨y, F, hM⟩ := h.mod
  rw [hm0] at hM
  exact t_treeOf W hM (by decide))
 have HON := zz (show ∀ (W : World) F P2 y, TreeM W F P2 13 y (newT 8) → Calls Tryz.prog 38 #[.pointer (some ⟨P2, 0, none⟩), .int .i64 1] W fun e w' => ∃ P Pt' Pf, e = .returned (.tuple #[.pointer (some ⟨P, 0, none⟩), .int .i64 0]) ∧ MOwn W.heap.size W P Pt' Pf 13 ⟨newT 8, fun _ => 0, 1⟩ [] w' from fun W F P2 y hT => (t_onM 1 W hT (by decide) (by decide) (by decide)).mono fun e w' ⟨P, Pt', Pf, y', F', h1, h2, h3, h4⟩ => ⟨P, Pt', Pf, h1, y', F', h2, HoldOk.new 8 (by decide) (by decide) (by decide) (by decide), h3, h4.size, h4, KeptL.nil⟩)
 have HAL := zz (show ∀ (W : World) F P2 y, TreeM W F P2 13 y (newT 8) → Calls Tryz.prog 16 #[.pointer (some ⟨P2, 0, none⟩)] W fun e w' => ∃ B c, e = .returned (.slice (some ⟨B, 0, none⟩) 1 c) ∧ Below W.heap.size W w' from fun W F P2 y hT => (t_allP W hT (by decide) ⟨1, by rw [new_n, if_pos rfl]; rfl⟩).mono fun e w' ⟨B, c, l, h1, h2, h3, h4, h5, h6⟩ => ⟨B, c, by rw [h1, all_one h2 h3], h6⟩)
 have HDN := zz (show ∀ (W0 : World) (P Pt Pf : Nat) L W, MOwn W0.heap.size W0 P Pt Pf 13 ⟨newT 8, fun _ => 0, 1⟩ L W → KindsAt W0 → 0 < W0.heap.size → Calls Tryz.prog 12 #[.pointer (some ⟨P, 0, none⟩), .int .i64 0, .agg #[.int .u8 2, .string ⟨#[47, 98]⟩, .string ⟨#[]⟩, .int .i64 0, .int .i64 0, .int .u32 0, .string ⟨#[]⟩]] W fun e w' => e = .returned (.agg #[.int .i64 0, .int .i64 0, .int .u32 2, .int .u32 0, .int .u8 0, .int .i64 0, .int .u32 0, .slice none 0 0, .string ⟨#[]⟩]) ∧ ∃ m9, MOwn W0.heap.size W0 P Pt Pf 15 m9 L w' from fun W0 P Pt Pf L W h hk0 h0 => (own_do_is (x := callP 2 slb) (fitsC 2 rfl (by decide) (by decide) (by decide) (by decide) (by decide)) hk0 h0 (by decide) e7 W h).mono fun e w' ⟨h1, h2⟩ => ⟨h1, _, h2⟩)
 have HKW := zz hk
 have hfl := res_field2
 have HE7 := zz e7
 clear hk hB0 hm0 e1 e2 e3 e4 e5 e6 e7
 go_enter Tryz.func9, Tryz.ntmps9
 go_wp2_with (first
  | (go_at_call 10; (with_reducible refine HN1.out.mono ?_); rintro e w2 ⟨P, Pt, Pf, rfl, hM⟩; have HM0 := zz hM; clear hM)
  | (go_at_call 10; (with_reducible refine (HN2.out _).mono ?_); rintro e w3 ⟨rfl, hb⟩; have HM1 := zz (HM0.out.below hb); clear hb)
  | (go_at_call 12; (with_reducible refine (HD1.out _ _ _ _ _ HM1.out).mono ?_); rintro e v1 ⟨rfl, hM⟩; have HM2 := zz (hM.alloc (.cells #[.int .i64 0, .int .i64 0, .int .u32 2, .int .u32 0, .int .u8 0, .int .i64 0, .int .u32 0, .slice none 0 0, .string ⟨#[]⟩] 39)); clear hM)
  | (go_at_call 12; (with_reducible refine (HD2.out _ _ _ _ _ HM2.out).mono ?_); rintro e v2 ⟨rfl, hM⟩; have HM3 := zz (hM.alloc (.cells #[.int .i64 0, .int .i64 0, .int .u32 0, .int .u32 0, .int .u8 0, .int .i64 0, .int .u32 0, .slice none 0 0, .string ⟨#[]⟩] 39)); clear hM)
  | (go_at_call 12; (with_reducible refine (HD3.out _ _ _ _ _ HM3.out).mono ?_); rintro e v3 ⟨rfl, hM⟩; have HM4 := zz (hM.alloc (.cells #[.int .i64 0, .int .i64 0, .int .u32 0, .int .u32 0, .int .u8 0, .int .i64 0, .int .u32 0, .slice none 0 0, .string ⟨#[]⟩] 39)); clear hM)
  | (go_at_call 12; (with_reducible refine (HD4.out _ _ _ _ _ HM4.out).mono ?_); rintro e v4 ⟨rfl, hM⟩; have HM5 := zz (hM.alloc (.cells #[.int .i64 0, .int .i64 0, .int .u32 0, .int .u32 0, .int .u8 0, .int .i64 0, .int .u32 0, .slice none 0 0, .string ⟨#[104, 105]⟩] 39)); clear hM)
  | (go_at_call 12; (with_reducible refine (HD5.out _ _ _ _ _ HM5.out).mono ?_); rintro e v5 ⟨rfl, hM⟩; have HM6 := zz (hM.alloc (.cells #[.int .i64 3, .int .i64 0, .int .u32 0, .int .u32 0, .int .u8 0, .int .i64 0, .int .u32 0, .slice none 0 0, .string ⟨#[]⟩] 39)); clear hM)
  | (go_at_call 12; (with_reducible refine (HD6.out _ _ _ _ _ HM6.out).mono ?_); rintro e v6 ⟨rfl, hM⟩; have HM7 := zz (hM.alloc (.cells #[.int .i64 0, .int .i64 0, .int .u32 0, .int .u32 0, .int .u8 0, .int .i64 0, .int .u32 0, .slice none 0 0, .string ⟨#[]⟩] 39)); clear hM)
  | (go_at_call 14; (with_reducible refine (HTR.out _ _ _ _ _ HM7.out).mono ?_); rintro e u1 ⟨P2, y2, F2, rfl, hT, hF, hb⟩
     have HM8 := zz (HM7.out.below hb)
     have HT1 := zz hT
     clear hT hF hb)
  | (go_at_call 38; (with_reducible refine (HON.out _ _ _ _ HT1.out).mono ?_); rintro e u2 ⟨P3, Pt3, Pf3, rfl, hM⟩
     have HMN := zz hM
     clear hM)
  | (go_at_call 38; (with_reducible refine (t_onNil 1 _).mono ?_); rintro e u3 ⟨rfl, rfl⟩)
  | (go_at_call 12; (with_reducible refine (HDN.out _ _ _ _ _ _ HMN.out (HKW.out.below HM8.out.mem HKW.out.pos) (Nat.lt_of_lt_of_le HKW.out.pos HM8.out.base)).mono ?_); rintro e u4 ⟨rfl, m9, hm9⟩
     have hb4 := hm9.mem
     have hB9 := HM8.out.below hb4
     have HT9 := zz (HT1.out.below hb4)
     have HM9 := zz hB9
     have k1 := hB9.at_ (b := v1.heap.size) (o := .cells #[.int .i64 0, .int .i64 0, .int .u32 2, .int .u32 0, .int .u8 0, .int .i64 0, .int .u32 0, .slice none 0 0, .string ⟨#[]⟩] 39 (0, 0)) (by simp)
     have k2 := hB9.at_ (b := v2.heap.size) (o := .cells #[.int .i64 0, .int .i64 0, .int .u32 0, .int .u32 0, .int .u8 0, .int .i64 0, .int .u32 0, .slice none 0 0, .string ⟨#[]⟩] 39 (0, 0)) (by simp)
     have k3 := hB9.at_ (b := v3.heap.size) (o := .cells #[.int .i64 0, .int .i64 0, .int .u32 0, .int .u32 0, .int .u8 0, .int .i64 0, .int .u32 0, .slice none 0 0, .string ⟨#[]⟩] 39 (0, 0)) (by simp)
     have k4 := hB9.at_ (b := v4.heap.size) (o := .cells #[.int .i64 0, .int .i64 0, .int .u32 0, .int .u32 0, .int .u8 0, .int .i64 0, .int .u32 0, .slice none 0 0, .string ⟨#[104, 105]⟩] 39 (0, 0)) (by simp)
     have k5 := hB9.at_ (b := v5.heap.size) (o := .cells #[.int .i64 3, .int .i64 0, .int .u32 0, .int .u32 0, .int .u8 0, .int .i64 0, .int .u32 0, .slice none 0 0, .string ⟨#[]⟩] 39 (0, 0)) (by simp)
     have k6 := hB9.at_ (b := v6.heap.size) (o := .cells #[.int .i64 0, .int .i64 0, .int .u32 0, .int .u32 0, .int .u8 0, .int .i64 0, .int .u32 0, .slice none 0 0, .string ⟨#[]⟩] 39 (0, 0)) (by simp)
     have q10 : u4.cell? ⟨v1.heap.size, 0, none⟩ = some (.int .i64 0) := by simp [World.cell?, k1]
     have q11 : u4.cell? ⟨v1.heap.size, 1, none⟩ = some (.int .i64 0) := by simp [World.cell?, k1]
     have q12 : u4.cell? ⟨v1.heap.size, 2, none⟩ = some (.int .u32 2) := by simp [World.cell?, k1]
     have q20 : u4.cell? ⟨v2.heap.size, 0, none⟩ = some (.int .i64 0) := by simp [World.cell?, k2]
     have q30 : u4.cell? ⟨v3.heap.size, 0, none⟩ = some (.int .i64 0) := by simp [World.cell?, k3]
     have q48 : u4.cell? ⟨v4.heap.size, 8, none⟩ = some (.string ⟨#[104, 105]⟩) := by simp [World.cell?, k4]
     have q50 : u4.cell? ⟨v5.heap.size, 0, none⟩ = some (.int .i64 3) := by simp [World.cell?, k5]
     have q60 : u4.cell? ⟨v6.heap.size, 0, none⟩ = some (.int .i64 0) := by simp [World.cell?, k6]
     clear hm9 hb4 hB9 k1 k2 k3 k4 k5 k6)
  | (go_at_call 16; refine (HAL.out _ _ _ _ HT9.out).mono ?_; rintro e u5 ⟨B9, c9, rfl, hb5⟩; have HM10 := zz (HM9.out.below hb5); clear hb5))
 go_ret
 exact ⟨rfl, HM10.out.mem⟩
end

section
open Go.RowKit Go.Maps
def S21At (w : World) (A : Option Addr) (l : List (Int × Cx)) : Prop := l ≠ [] → ∃ b o, A = some ⟨b, o, none⟩ ∧ b < w.heap.size ∧ ∀ (k : Nat) (s : Int × Cx), l[k]? = some s → w.cell? ⟨b, o + k * 10, none⟩ = some (.int .i64 s.1) ∧ ∀ (j : Nat) (v : Value), (callCells s.2)[j]? = some v → w.cell? ⟨b, o + k * 10 + 1 + j, none⟩ = some v
theorem S21At.below {w w' : World} {A : Option Addr} {l : List (Int × Cx)} (h : S21At w A l) (hb : Below w.heap.size w w') : S21At w' A l := fun hn => by
 obtain ⟨b, o, h1, h2, h3⟩ := h hn
 have hc : ∀ q, w'.cell? ⟨b, q, none⟩ = w.cell? ⟨b, q, none⟩ := fun q => World.cell?_of_block (a := ⟨b, q, none⟩) (hb.block b h2)
 refine ⟨b, o, h1, Nat.lt_of_lt_of_le h2 hb.size, fun k s hk => ?_⟩
 obtain ⟨a1, a2⟩ := h3 k s hk
 exact ⟨(hc _).trans a1, fun j v hv => (hc _).trans (a2 j v hv)⟩
def LongM (n : Nat) (w : World) (e : Ending) (w' : World) : Prop := ∃ b : Bool, e = .returned (.bool b) ∧ (b = false → n ≤ 120) ∧ Below w.heap.size w w'
theorem LongM.get {n : Nat} {w w' : World} {e : Ending} (h : LongM n w e w') : ∃ b : Bool, e = .returned (.bool b) ∧ (b = false → n ≤ 120) ∧ Below w.heap.size w w' := h
theorem LongM.of {n : Nat} {w w' : World} {b : Bool} (h : b = false → n ≤ 120) (hb : Below w.heap.size w w') : LongM n w (.returned (.bool b)) w' := ⟨b, rfl, h, hb⟩
set_option maxRecDepth 100000 in
theorem t_long20 (x : Cx) (w : World) : Calls Tryz.prog 37 #[callV x] w fun e w' => (∃ b : Bool, e = .returned (.bool b)) ∧ Below w.heap.size w w' := by
 obtain ⟨act, p1, p2, fd, pg, sz, dt⟩ := x
 show Calls Tryz.prog 37 #[.agg #[.int .u8 act, .string p1, .string p2, .int .i64 fd, .int .i64 pg, .int .u32 sz, .string dt]] w _
 go_enter Tryz.func37, Tryz.ntmps37
 go_wp2
 go_ret
 exact ⟨⟨_, rfl⟩, (Below.refl _ _).alloc (Nat.le_refl _) _⟩
theorem s21_get {l : List (Int × Cx)} {k : Nat} (h : k < l.length) : ∃ s, l[k]? = some s := ⟨_, List.getElem?_eq_getElem h⟩
def isI : Ph := fun v _ => ∃ x : Int, v = .int .i64 x
set_option maxRecDepth 100000 in
set_option maxHeartbeats 4000000 in
theorem t_long21 (A : Option Addr) (n c : Nat) (l : List (Int × Cx)) (w : World) (hl : S21At w A l) (hn : l.length = n) (hn2 : n ≤ maxLen) :
  Calls Tryz.prog 8 #[.slice A n c] w (LongM n w) := by
 have HL := zz hl
 have HN := zz hn
 unfold maxLen at hn2
 clear hl hn
 go_enter Tryz.func8, Tryz.ntmps8
 go_wp2
 go_loopw [3, 4] (fun v3 v4 wr => ∃ (i : Nat) (x : Int), v3 = .int .i64 x ∧ v4 = .int .i64 (i : Int) ∧ i ≤ n ∧ i ≤ 300 ∧ Hid (Below w.heap.size w wr)) (fun _ v4 _ => n - (intOf v4).toNat)
 case atStart => exact ⟨0, 0, rfl, rfl, Nat.zero_le _, Nat.zero_le _, Below.refl _ _⟩
 case round =>
  obtain ⟨k, x, rfl, rfl, hk, hk2, HW⟩ := hrel
  by_cases he : k < n ∧ k < 300
  · obtain ⟨he, he2⟩ := he
    obtain ⟨s, hs⟩ := s21_get (l := l) (k := k) (by rw [HN.out]; exact he)
    obtain ⟨core, act, p1, p2, fd, pg, sz, dt⟩ := s
    obtain ⟨b, o, rfl, hb, hc⟩ := (HL.out.below HW.out) (fun e => by rw [e] at hs; simp at hs)
    obtain ⟨g0, g1⟩ := hc k _ hs
    have f0 := g1 0 _ rfl
    rw [Nat.add_zero] at f0
    have f1 := g1 1 _ rfl
    have f2 := g1 2 _ rfl
    have f3 := g1 3 _ rfl
    have f4 := g1 4 _ rfl
    have f5 := g1 5 _ rfl
    have f6 := g1 6 _ rfl
    dsimp only at g0 f0 f1 f2 f3 f4 f5 f6
    clear hc hs g1
    have hT := fun W => t_long20 ⟨act, p1, p2, fd, pg, sz, dt⟩ W
    go_wp2_with (go_at_call 37; (with_reducible refine (hT _).mono ?_); rintro e w2 ⟨⟨bb, rfl⟩, hb2⟩
                 have H2 := zz (ptrans HW.out hb2)
                 have q1 := (World.cell?_of_block (a := ⟨b, o + k * 10 + 1 + 1, none⟩) (hb2.block b hb)).trans f1
                 have q2 := (World.cell?_of_block (a := ⟨b, o + k * 10 + 1 + 2, none⟩) (hb2.block b hb)).trans f2
                 have q6 := (World.cell?_of_block (a := ⟨b, o + k * 10 + 1 + 6, none⟩) (hb2.block b hb)).trans f6
                 have hbl2 := Nat.lt_of_lt_of_le hb hb2.size
                 clear hb2
                 cases bb)
    · have HBL := zz (show b < w2.heap.size from hbl2)
      refine wp_region_st (fun _ W => Below w2.heap.size w2 W) (fun W W2 => Below W.heap.size W W2) (fun _ _ => True) [] (phi [isV (.int .i64 x), isV (.slice (some ⟨b, o, none⟩) n c), isV (.int .i64 (k : Int)), isV (.pointer (some ⟨b, o + k * 10, none⟩)), isV (.pointer (some ⟨b, o + k * 10 + 1, none⟩)), isV (.pointer (some ⟨b, o + k * 10 + 1 + 1, none⟩)), isV (.string p1), isV (.int .i64 (p1.size : Int)), isI, isV (.slice (some ⟨b, o, none⟩) n c), isV (.int .i64 (k : Int)), isV (.pointer (some ⟨b, o + k * 10, none⟩)), isV (.pointer (some ⟨b, o + k * 10 + 1, none⟩)), isV (.pointer (some ⟨b, o + k * 10 + 1 + 2, none⟩)), isV (.string p2), isV (.int .i64 (p2.size : Int)), isI, isV (.slice (some ⟨b, o, none⟩) n c), isV (.int .i64 (k : Int)), isV (.pointer (some ⟨b, o + k * 10, none⟩)), isV (.pointer (some ⟨b, o + k * 10 + 1, none⟩)), isV (.pointer (some ⟨b, o + k * 10 + 1 + 6, none⟩)), isV (.string dt), isV (.int .i64 (dt.size : Int)), isI, isI]) (by kernel_rfl) (by kernel_rfl) (by kernel_rfl) (by kernel_rfl) (by kernel_rfl) (below_drew _) (fun _ _ _ h hb => ptrans h hb) (fun _ _ _ => trivial) ?_ ?_ ?_
      · refine stays_phiR ?_
        simp only [List.forall_mem_cons]
        exact ⟨kv, kv, kv, kv, kv, kv, kv, kv, fun _ _ _ hh _ => hh, kv, kv, kv, kv, kv, kv, kv, fun _ _ _ hh _ => hh, kv, kv, kv, kv, kv, kv, kv, fun _ _ _ hh _ => hh, fun _ _ _ hh _ => hh, fun _ h => absurd h (by simp)⟩
      · refine ⟨?_, ?_, ?_, ?_, ?_, ?_, ?_, ?_, ?_, ?_, ?_, ?_, ?_, ?_, ?_, ?_, ?_, ?_, ?_, ?_, ?_, ?_, ?_, ?_, ?_, ?_, trivial⟩
        · refine opS_mk rfl rfl fun aa W2 nJ hJ hp hq K hK => ?_
          have e3 : aa.tmps[3]?.getD undef = .int .i64 x := hp 3 (by kernel_rfl)
          clear hp hq
          go_simp
          exact hK _ _ (Below.refl _ _) rfl
        · refine opS_mk rfl rfl fun aa W2 nJ hJ hp hq K hK => ?_
          have e0 : aa.tmps[0]?.getD undef = .slice (some ⟨b, o, none⟩) n c := hp 0 (by kernel_rfl)
          clear hp hq
          go_simp
          exact hK _ _ (Below.refl _ _) rfl
        · refine opS_mk rfl rfl fun aa W2 nJ hJ hp hq K hK => ?_
          have e4 : aa.tmps[4]?.getD undef = .int .i64 (k : Int) := hp 4 (by kernel_rfl)
          clear hp hq
          go_simp
          exact hK _ _ (Below.refl _ _) rfl
        · refine opS_mk rfl rfl fun aa W2 nJ hJ hp hq K hK => ?_
          have e22 : aa.tmps[22]?.getD undef = .slice (some ⟨b, o, none⟩) n c := hq 1 _ (by kernel_rfl) rfl
          have e23 : aa.tmps[23]?.getD undef = .int .i64 (k : Int) := hq 2 _ (by kernel_rfl) rfl
          clear hp hq
          go_simp
          exact hK _ _ (Below.refl _ _) rfl
        · refine opS_mk rfl rfl fun aa W2 nJ hJ hp hq K hK => ?_
          have e24 : aa.tmps[24]?.getD undef = .pointer (some ⟨b, o + k * 10, none⟩) := hq 3 _ (by kernel_rfl) rfl
          clear hp hq
          go_simp
          exact hK _ _ (Below.refl _ _) rfl
        · refine opS_mk rfl rfl fun aa W2 nJ hJ hp hq K hK => ?_
          have e25 : aa.tmps[25]?.getD undef = .pointer (some ⟨b, o + k * 10 + 1, none⟩) := hq 4 _ (by kernel_rfl) rfl
          clear hp hq
          go_simp
          exact hK _ _ (Below.refl _ _) rfl
        · refine opS_mk rfl rfl fun aa W2 nJ hJ hp hq K hK => ?_
          have e26 : aa.tmps[26]?.getD undef = .pointer (some ⟨b, o + k * 10 + 1 + 1, none⟩) := hq 5 _ (by kernel_rfl) rfl
          have hB : Below w2.heap.size w2 W2 := hJ
          have cc := (World.cell?_of_block (a := ⟨b, o + k * 10 + 1 + 1, none⟩) (hB.block b HBL.out)).trans q1
          clear hp hq
          go_simp
          exact hK _ _ (Below.refl _ _) rfl
        · refine opS_mk rfl rfl fun aa W2 nJ hJ hp hq K hK => ?_
          have e27 : aa.tmps[27]?.getD undef = .string p1 := hq 6 _ (by kernel_rfl) rfl
          clear hp hq
          go_simp
          exact hK _ _ (Below.refl _ _) rfl
        · refine opS_mk rfl rfl fun aa W2 nJ hJ hp hq K hK => ?_
          have e21 : aa.tmps[21]?.getD undef = .int .i64 x := hq 0 _ (by kernel_rfl) rfl
          have e28 : aa.tmps[28]?.getD undef = .int .i64 (p1.size : Int) := hq 7 _ (by kernel_rfl) rfl
          clear hp hq
          go_simp
          exact hK _ _ (Below.refl _ _) ⟨_, rfl⟩
        · refine opS_mk rfl rfl fun aa W2 nJ hJ hp hq K hK => ?_
          have e0 : aa.tmps[0]?.getD undef = .slice (some ⟨b, o, none⟩) n c := hp 0 (by kernel_rfl)
          clear hp hq
          go_simp
          exact hK _ _ (Below.refl _ _) rfl
        · refine opS_mk rfl rfl fun aa W2 nJ hJ hp hq K hK => ?_
          have e4 : aa.tmps[4]?.getD undef = .int .i64 (k : Int) := hp 4 (by kernel_rfl)
          clear hp hq
          go_simp
          exact hK _ _ (Below.refl _ _) rfl
        · refine opS_mk rfl rfl fun aa W2 nJ hJ hp hq K hK => ?_
          have e30 : aa.tmps[30]?.getD undef = .slice (some ⟨b, o, none⟩) n c := hq 9 _ (by kernel_rfl) rfl
          have e31 : aa.tmps[31]?.getD undef = .int .i64 (k : Int) := hq 10 _ (by kernel_rfl) rfl
          clear hp hq
          go_simp
          exact hK _ _ (Below.refl _ _) rfl
        · refine opS_mk rfl rfl fun aa W2 nJ hJ hp hq K hK => ?_
          have e32 : aa.tmps[32]?.getD undef = .pointer (some ⟨b, o + k * 10, none⟩) := hq 11 _ (by kernel_rfl) rfl
          clear hp hq
          go_simp
          exact hK _ _ (Below.refl _ _) rfl
        · refine opS_mk rfl rfl fun aa W2 nJ hJ hp hq K hK => ?_
          have e33 : aa.tmps[33]?.getD undef = .pointer (some ⟨b, o + k * 10 + 1, none⟩) := hq 12 _ (by kernel_rfl) rfl
          clear hp hq
          go_simp
          exact hK _ _ (Below.refl _ _) rfl
        · refine opS_mk rfl rfl fun aa W2 nJ hJ hp hq K hK => ?_
          have e34 : aa.tmps[34]?.getD undef = .pointer (some ⟨b, o + k * 10 + 1 + 2, none⟩) := hq 13 _ (by kernel_rfl) rfl
          have hB : Below w2.heap.size w2 W2 := hJ
          have cc := (World.cell?_of_block (a := ⟨b, o + k * 10 + 1 + 2, none⟩) (hB.block b HBL.out)).trans q2
          clear hp hq
          go_simp
          exact hK _ _ (Below.refl _ _) rfl
        · refine opS_mk rfl rfl fun aa W2 nJ hJ hp hq K hK => ?_
          have e35 : aa.tmps[35]?.getD undef = .string p2 := hq 14 _ (by kernel_rfl) rfl
          clear hp hq
          go_simp
          exact hK _ _ (Below.refl _ _) rfl
        · refine opS_mk rfl rfl fun aa W2 nJ hJ hp hq K hK => ?_
          obtain ⟨y29, e29⟩ : isI (aa.tmps[29]?.getD undef) W2 := hq 8 _ (by kernel_rfl) rfl
          have e36 : aa.tmps[36]?.getD undef = .int .i64 (p2.size : Int) := hq 15 _ (by kernel_rfl) rfl
          clear hp hq
          go_simp
          exact hK _ _ (Below.refl _ _) ⟨_, rfl⟩
        · refine opS_mk rfl rfl fun aa W2 nJ hJ hp hq K hK => ?_
          have e0 : aa.tmps[0]?.getD undef = .slice (some ⟨b, o, none⟩) n c := hp 0 (by kernel_rfl)
          clear hp hq
          go_simp
          exact hK _ _ (Below.refl _ _) rfl
        · refine opS_mk rfl rfl fun aa W2 nJ hJ hp hq K hK => ?_
          have e4 : aa.tmps[4]?.getD undef = .int .i64 (k : Int) := hp 4 (by kernel_rfl)
          clear hp hq
          go_simp
          exact hK _ _ (Below.refl _ _) rfl
        · refine opS_mk rfl rfl fun aa W2 nJ hJ hp hq K hK => ?_
          have e38 : aa.tmps[38]?.getD undef = .slice (some ⟨b, o, none⟩) n c := hq 17 _ (by kernel_rfl) rfl
          have e39 : aa.tmps[39]?.getD undef = .int .i64 (k : Int) := hq 18 _ (by kernel_rfl) rfl
          clear hp hq
          go_simp
          exact hK _ _ (Below.refl _ _) rfl
        · refine opS_mk rfl rfl fun aa W2 nJ hJ hp hq K hK => ?_
          have e40 : aa.tmps[40]?.getD undef = .pointer (some ⟨b, o + k * 10, none⟩) := hq 19 _ (by kernel_rfl) rfl
          clear hp hq
          go_simp
          exact hK _ _ (Below.refl _ _) rfl
        · refine opS_mk rfl rfl fun aa W2 nJ hJ hp hq K hK => ?_
          have e41 : aa.tmps[41]?.getD undef = .pointer (some ⟨b, o + k * 10 + 1, none⟩) := hq 20 _ (by kernel_rfl) rfl
          clear hp hq
          go_simp
          exact hK _ _ (Below.refl _ _) rfl
        · refine opS_mk rfl rfl fun aa W2 nJ hJ hp hq K hK => ?_
          have e42 : aa.tmps[42]?.getD undef = .pointer (some ⟨b, o + k * 10 + 1 + 6, none⟩) := hq 21 _ (by kernel_rfl) rfl
          have hB : Below w2.heap.size w2 W2 := hJ
          have cc := (World.cell?_of_block (a := ⟨b, o + k * 10 + 1 + 6, none⟩) (hB.block b HBL.out)).trans q6
          clear hp hq
          go_simp
          exact hK _ _ (Below.refl _ _) rfl
        · refine opS_mk rfl rfl fun aa W2 nJ hJ hp hq K hK => ?_
          have e43 : aa.tmps[43]?.getD undef = .string dt := hq 22 _ (by kernel_rfl) rfl
          clear hp hq
          go_simp
          exact hK _ _ (Below.refl _ _) rfl
        · refine opS_mk rfl rfl fun aa W2 nJ hJ hp hq K hK => ?_
          obtain ⟨y37, e37⟩ : isI (aa.tmps[37]?.getD undef) W2 := hq 16 _ (by kernel_rfl) rfl
          have e44 : aa.tmps[44]?.getD undef = .int .i64 (dt.size : Int) := hq 23 _ (by kernel_rfl) rfl
          clear hp hq
          go_simp
          exact hK _ _ (Below.refl _ _) ⟨_, rfl⟩
        · refine opS_mk rfl rfl fun aa W2 nJ hJ hp hq K hK => ?_
          obtain ⟨y45, e45⟩ : isI (aa.tmps[45]?.getD undef) W2 := hq 24 _ (by kernel_rfl) rfl
          clear hp hq
          go_simp
          exact hK _ _ (Below.refl _ _) ⟨_, rfl⟩
      · intro vs W9 hJ9 hv9 _
        obtain ⟨z, v25⟩ : isI (vs 25) W9 := hv9 25 _ rfl rfl
        have H3 := zz (ptrans H2.out hJ9)
        clear hJ9 hv9
        simp only [putAll, Act.put, List.setIfInBounds_toArray, List.set_cons_succ, List.set_cons_zero, Nat.zero_add, Nat.reduceAdd, v25]
        go_wp2
        go_roundw
        case rel => exact ⟨k + 1, z, rfl, by go_num, he, he2, H3⟩
        case measure => simp only [intOf]; omega
    · go_ret
      exact LongM.of (fun h => by cases h) H2.out
  · by_cases hin : k < n
    · have h300 : ¬ k < 300 := fun e => he ⟨hin, e⟩
      have h120 : (120 : Int) < n := by omega
      go_wp2
      go_ret
      exact LongM.of (fun h => by first | cases h | (simp at h; omega)) HW.out
    · by_cases h120 : (120 : Int) < n
      · go_wp2
        go_ret
        exact LongM.of (fun h => by first | cases h | (simp at h; omega)) HW.out
      · go_wp2
        go_ret
        exact LongM.of (fun _ => by omega) HW.out
end

section
open Go.RowKit Go.Maps
section
variable {m : MD} {x : Cx} {core : Int}
theorem do_n (h : m.Ok) (hx : x.Fits) : (doM m core x).2.n = m.n := (deed_do h core x hx.size).2.1
end
theorem S21At.get {w : World} {A : Option Addr} {l : List (Int × Cx)} {k : Nat} {core act fd pg sz : Int} {p1 p2 dt : ByteArray} (h : S21At w A l) (hs : l[k]? = some (core, ⟨act, p1, p2, fd, pg, sz, dt⟩)) : ∃ b o, A = some ⟨b, o, none⟩ ∧ ∀ W, Below w.heap.size w W → b < W.heap.size ∧ W.cell? ⟨b, o + k * 10, none⟩ = some (.int .i64 core) ∧ W.cell? ⟨b, o + k * 10 + 1, none⟩ = some (.int .u8 act) ∧ W.cell? ⟨b, o + k * 10 + 1 + 1, none⟩ = some (.string p1) ∧ W.cell? ⟨b, o + k * 10 + 1 + 2, none⟩ = some (.string p2) ∧ W.cell? ⟨b, o + k * 10 + 1 + 3, none⟩ = some (.int .i64 fd) ∧ W.cell? ⟨b, o + k * 10 + 1 + 4, none⟩ = some (.int .i64 pg) ∧ W.cell? ⟨b, o + k * 10 + 1 + 5, none⟩ = some (.int .u32 sz) ∧ W.cell? ⟨b, o + k * 10 + 1 + 6, none⟩ = some (.string dt) := by
 obtain ⟨b, o, rfl, h1, h2⟩ := h (fun e => by rw [e] at hs; simp at hs)
 refine ⟨b, o, rfl, fun W hb => ?_⟩
 have hc : ∀ q, W.cell? ⟨b, q, none⟩ = w.cell? ⟨b, q, none⟩ := fun q => World.cell?_of_block (a := ⟨b, q, none⟩) (hb.block b h1)
 obtain ⟨a1, a2⟩ := h2 k _ hs
 exact ⟨Nat.lt_of_lt_of_le h1 hb.size, (hc _).trans a1, (hc _).trans (a2 0 _ rfl), (hc _).trans (a2 1 _ rfl), (hc _).trans (a2 2 _ rfl), (hc _).trans (a2 3 _ rfl), (hc _).trans (a2 4 _ rfl), (hc _).trans (a2 5 _ rfl), (hc _).trans (a2 6 _ rfl)⟩
end

section
open Go.ChangeShapes Go.WideShapes Go.ChangeAt Go.RowKit
abbrev laidK : List (String × DataW Unit) := [("lunette/call.kinds", Rows.laid_lunette_call_kinds)]
theorem cells_kind : Tryz.prog.cellsOf 190 = 2 := by kernel_rfl
theorem cells7_u8 : Tryz.prog.cellsOf 5 = 1 := by kernel_rfl
theorem cells7_u32 : Tryz.prog.cellsOf 29 = 1 := by kernel_rfl
theorem cells7_int : Tryz.prog.cellsOf 3 = 1 := by kernel_rfl
theorem cells7_s : Tryz.prog.cellsOf 9 = 1 := by kernel_rfl
theorem cells_call : Tryz.prog.cellsOf 31 = 7 := by kernel_rfl
theorem cells_step21 : Tryz.prog.cellsOf 33 = 10 := by kernel_rfl
theorem at_cell7 {H : Type} {enc : TypeId × Value → H} {w : World} {base n q : Nat} {spare : Nat → Bool} {held : Bool} {T : TypeId} {xs : List (DataW H × List MemPlace)} {cs : List Value} (hc : Tryz.prog.cellsOf T = 1)
  (h : DataW.trod enc Tryz.prog w base spare held n T ((cs.drop q).take (Tryz.prog.cellsOf T)) = xs[q]?) (c : Value) (hq : cs[q]? = some c) (hx : q < xs.length) : ∃ y, DataW.trod enc Tryz.prog w base spare held n T [c] = some y := by
 obtain ⟨h1, rfl⟩ := List.getElem?_eq_some_iff.1 hq
 rw [hc, List.drop_eq_getElem_cons h1, List.take_succ_cons, List.take_zero, List.getElem?_eq_getElem hx] at h
 exact ⟨_, h⟩
theorem at_cell_in {H : Type} {enc : TypeId × Value → H} {w : World} {base n q p : Nat} {spare : Nat → Bool} {held : Bool} {T : TypeId} {xs : List (DataW H × List MemPlace)} {cs : List Value} (hc : Tryz.prog.cellsOf T = 1)
  (h : DataW.trod enc Tryz.prog w base spare held n T ((cs.drop p).take (Tryz.prog.cellsOf T)) = xs[q]?) (c : Value) (hq : cs[p]? = some c) (hx : q < xs.length) : DataW.trod enc Tryz.prog w base spare held n T [c] = some xs[q] := by
 obtain ⟨h1, rfl⟩ := List.getElem?_eq_some_iff.1 hq
 rw [hc, List.drop_eq_getElem_cons h1, List.take_succ_cons, List.take_zero, List.getElem?_eq_getElem hx] at h
 exact h
def kindData : List (DataW Unit) := match (Rows.laid_lunette_call_kinds : DataW Unit) with | .agg l => l | _ => []
theorem kind_at (k : Nat) (hk : k < 16) : ∃ s, kindData[k]? = some (.agg [s, .lit (.int .i64 (hasN k))]) := by
 match k, hk with
 | 0, _ => exact ⟨_, rfl⟩
 | 1, _ => exact ⟨_, rfl⟩
 | 2, _ => exact ⟨_, rfl⟩
 | 3, _ => exact ⟨_, rfl⟩
 | 4, _ => exact ⟨_, rfl⟩
 | 5, _ => exact ⟨_, rfl⟩
 | 6, _ => exact ⟨_, rfl⟩
 | 7, _ => exact ⟨_, rfl⟩
 | 8, _ => exact ⟨_, rfl⟩
 | 9, _ => exact ⟨_, rfl⟩
 | 10, _ => exact ⟨_, rfl⟩
 | 11, _ => exact ⟨_, rfl⟩
 | 12, _ => exact ⟨_, rfl⟩
 | 13, _ => exact ⟨_, rfl⟩
 | 14, _ => exact ⟨_, rfl⟩
 | 15, _ => exact ⟨_, rfl⟩
 | k + 16, h => omega
theorem kind_data : (Rows.laid_lunette_call_kinds : DataW Unit) = .agg kindData := rfl
set_option maxRecDepth 100000 in
theorem kinds_of_laid {W : World} (h : laidMetH Tryz.prog laidK W) : KindsAt W := by
 rw [Go.MakeChecks.laidMetH_plain _ _ _ (by kernel_rfl)] at h
 obtain ⟨ps, ⟨g, t, cs, fuel, p, q, hg, ht, hvar, hd, _, _⟩, _⟩ := h
 obtain rfl : g = 0 := (Option.some.inj ((show Tryz.prog.globalNamed "lunette/call.kinds" = some 0 by kernel_rfl).symm.trans hg)).symm
 obtain rfl : t = 191 := (Option.some.inj ((show (Tryz.prog.globals[0]?).map (·.type) = some 191 by kernel_rfl).symm.trans ht)).symm
 obtain ⟨xs, m, _, hx, hl, hlen, hk⟩ := DataW.trod_array Tryz.underlying191 hd
 rw [cells_kind] at hk
 have hx1 : kindData = xs.map (·.1) := by
  have := congrArg Prod.fst hx
  rw [kind_data] at this
  injection this
 have hcell : ∀ off, W.cell? ⟨0, off, none⟩ = cs[off]? := fun off => by
  unfold World.var? at hvar
  rw [show Tryz.prog.globalNamed "lunette/call.kinds" = some 0 by kernel_rfl] at hvar
  simp only [Option.bind_some] at hvar
  split at hvar
  · rename_i cs' t' fr' hh
    simp only [Option.some.injEq] at hvar
    subst hvar
    simp [World.cell?, hh]
  · cases hvar
 intro k hk16
 obtain ⟨s, hs⟩ := kind_at k hk16
 rw [hx1, List.getElem?_map] at hs
 have hkl : k < xs.length := by rw [hlen]; exact hk16
 rw [List.getElem?_eq_getElem hkl] at hs
 simp only [Option.map_some, Option.some.injEq] at hs
 have hi := hk k hk16
 rw [List.getElem?_eq_getElem hkl] at hi
 obtain ⟨ys, m2, _, hy, hl2, hlen2, hk2⟩ := DataW.trod_struct Tryz.underlying190 hi
 rw [cells_kind] at hl2
 have hy1 : [s, .lit (.int .i64 (hasN k))] = ys.map (·.1) := by
  have := congrArg Prod.fst hy
  rw [hs] at this
  injection this
 have hl3 : ((cs.toList.drop (k * 2)).take 2)[1]? = cs[k * 2 + 1]? := by
  rw [List.getElem?_take_of_lt (by omega), List.getElem?_drop, Array.getElem?_toList]
 have h1 : 1 < ((cs.toList.drop (k * 2)).take 2).length := by rw [hl2]; omega
 rw [List.getElem?_eq_getElem h1] at hl3
 have hf := hk2 1 _ rfl
 have ht := at_cell_in cells7_int hf _ (List.getElem?_eq_getElem h1) (by rw [hlen2]; decide)
 obtain ⟨n, e1, e2, _⟩ := DataW.trod_int Tryz.underlying3 ht
 have e3 : (ys.map (·.1))[1]? = some (.lit (.int .i64 (hasN k))) := by rw [← hy1]; rfl
 rw [List.getElem?_map, List.getElem?_eq_getElem (by rw [hlen2]; decide), e2] at e3
 simp only [Option.map_some, Option.some.injEq, DataW.lit.injEq, Lit.int.injEq, true_and] at e3
 simp only [List.cons.injEq, and_true] at e1
 rw [hcell, ← hl3, e1, e3]
set_option maxRecDepth 100000 in
theorem call_trod {H : Type} {enc : TypeId × Value → H} {w : World} {base n : Nat} {spare : Nat → Bool} {held : Bool} {cs : List Value} {x : DataW H × List MemPlace} (hf : DataW.trod enc Tryz.prog w base spare held n 31 cs = some x) :
  ∃ r : Cx, cs = callCells r ∧ r.Fits := by
 obtain ⟨xs, m, _, _, hl, hlen, hk⟩ := DataW.trod_struct Tryz.underlying31 hf
 rw [cells_call] at hl
 match cs, hl with
 | [c0, c1, c2, c3, c4, c5, c6], _ =>
  obtain ⟨y0, t0⟩ := at_cell7 (cs := [c0, c1, c2, c3, c4, c5, c6]) cells7_u8 (hk 0 _ rfl) c0 rfl (by rw [hlen]; decide)
  obtain ⟨y1, t1⟩ := at_cell7 (cs := [c0, c1, c2, c3, c4, c5, c6]) cells7_s (hk 1 _ rfl) c1 rfl (by rw [hlen]; decide)
  obtain ⟨y2, t2⟩ := at_cell7 (cs := [c0, c1, c2, c3, c4, c5, c6]) cells7_s (hk 2 _ rfl) c2 rfl (by rw [hlen]; decide)
  obtain ⟨y3, t3⟩ := at_cell7 (cs := [c0, c1, c2, c3, c4, c5, c6]) cells7_int (hk 3 _ rfl) c3 rfl (by rw [hlen]; decide)
  obtain ⟨y4, t4⟩ := at_cell7 (cs := [c0, c1, c2, c3, c4, c5, c6]) cells7_int (hk 4 _ rfl) c4 rfl (by rw [hlen]; decide)
  obtain ⟨y5, t5⟩ := at_cell7 (cs := [c0, c1, c2, c3, c4, c5, c6]) cells7_u32 (hk 5 _ rfl) c5 rfl (by rw [hlen]; decide)
  obtain ⟨y6, t6⟩ := at_cell7 (cs := [c0, c1, c2, c3, c4, c5, c6]) cells7_s (hk 6 _ rfl) c6 rfl (by rw [hlen]; decide)
  obtain ⟨x0, e0, _, w0⟩ := DataW.trod_int Tryz.underlying5 t0
  obtain ⟨x1, e1, _, w1⟩ := DataW.trod_string Tryz.underlying9 t1
  obtain ⟨x2, e2, _, w2⟩ := DataW.trod_string Tryz.underlying9 t2
  obtain ⟨x3, e3, _, w3⟩ := DataW.trod_int Tryz.underlying3 t3
  obtain ⟨x4, e4, _, w4⟩ := DataW.trod_int Tryz.underlying3 t4
  obtain ⟨x5, e5, _, w5⟩ := DataW.trod_int Tryz.underlying29 t5
  obtain ⟨x6, e6, _, w6⟩ := DataW.trod_string Tryz.underlying9 t6
  simp only [List.cons.injEq, and_true] at e0 e1 e2 e3 e4 e5 e6
  subst e0; subst e1; subst e2; subst e3; subst e4; subst e5; subst e6
  have r0 : 0 ≤ x0 ∧ x0 ≤ 255 := by simpa [Lit.wf, IntKind.min, IntKind.max, IntKind.signed, IntKind.bits] using w0
  have r5 : 0 ≤ x5 ∧ x5 ≤ 4294967295 := by simpa [Lit.wf, IntKind.min, IntKind.max, IntKind.signed, IntKind.bits] using w5
  exact ⟨⟨x0, x1, x2, x3, x4, x5, x6⟩, rfl, ⟨⟨x0.toNat, by show x0 = _; omega, by omega⟩, w1, w2, w6, r5.1⟩⟩
set_option maxRecDepth 100000 in
theorem step21_trod {H : Type} {enc : TypeId × Value → H} {w : World} {base n : Nat} {spare : Nat → Bool} {held : Bool} {cs : List Value} {x : DataW H × List MemPlace} (hf : DataW.trod enc Tryz.prog w base spare held n 33 cs = some x) :
  ∃ (s : Int × Cx) (u v : Value), cs = .int .i64 s.1 :: (callCells s.2 ++ [u, v]) ∧ s.2.Fits := by
 obtain ⟨xs, m, _, _, hl, hlen, hk⟩ := DataW.trod_struct Tryz.underlying33 hf
 rw [cells_step21] at hl
 match cs, hl with
 | [a0, c0, c1, c2, c3, c4, c5, c6, a1, a2], _ =>
  obtain ⟨y0, t0⟩ := at_cell7 (cs := [a0, c0, c1, c2, c3, c4, c5, c6, a1, a2]) cells7_int (hk 0 _ rfl) a0 rfl (by rw [hlen]; decide)
  have h1 := hk 1 _ rfl
  have h1' : DataW.trod enc Tryz.prog w base spare held m 31 [c0, c1, c2, c3, c4, c5, c6] = xs[1]? := by
   rw [← h1]
   show _ = DataW.trod enc Tryz.prog w base spare held m 31 (([a0, c0, c1, c2, c3, c4, c5, c6, a1, a2].drop 1).take (Tryz.prog.cellsOf 31))
   rw [cells_call]
   rfl
  rw [List.getElem?_eq_getElem (by rw [hlen]; decide)] at h1'
  obtain ⟨r, hr, rok⟩ := call_trod h1'
  obtain ⟨x0, e0, _, w0⟩ := DataW.trod_int Tryz.underlying3 t0
  simp only [List.cons.injEq, and_true] at e0
  subst e0
  refine ⟨(x0, r), a1, a2, ?_, rok⟩
  show _ = Value.int .i64 x0 :: (callCells r ++ [a1, a2])
  rw [← hr]
  rfl
set_option maxRecDepth 100000 in
theorem steps21_of {H : Type} {enc : TypeId × Value → H} {W : World} {sp : Nat → Bool} {held : Bool} {v : Value} {d : DataW H} {p : List MemPlace} (hv : ∃ a len cap, v = .slice a len cap) (h : DataW.Trod enc Tryz.prog W 0 sp held 22 v d p) :
  ∃ (A : Option Addr) (n c : Nat) (l : List (Int × Cx)), v = .slice A n c ∧ n ≤ maxLen ∧ l.length = n ∧ S21At W A l ∧ ∀ s ∈ l, Cx.Fits s.2 := by
 obtain ⟨a0, len, cap, rfl⟩ := hv
 obtain ⟨fuel, hf⟩ := h
 rcases Go.Deep.open_slice Tryz.underlying22 hf with ⟨h0, _⟩ | ⟨a, len', cap', m, n, D, Pl, h0, _, hl, hm, hmm, _, hi⟩
 · simp [Value.cells] at h0
   obtain ⟨rfl, rfl, rfl⟩ := h0
   exact ⟨none, 0, 0, [], rfl, Nat.zero_le _, rfl, fun h => absurd rfl h, fun s hs => by simp at hs⟩
 · simp [Value.cells] at h0
   obtain ⟨rfl, rfl, rfl⟩ := h0
   have hall : ∀ i, i < len → ∃ s : Int × Cx, (W.cell? (a.add (i * 10)) = some (.int .i64 s.1) ∧ ∀ j v, (callCells s.2)[j]? = some v → W.cell? (a.add (i * 10 + (1 + j))) = some v) ∧ s.2.Fits := by
    intro i hlt
    obtain ⟨cs', hc, ht'⟩ := hi i (by rw [hmm]; split <;> omega)
    rw [cells_step21] at hc
    obtain ⟨s, u, v, hs, h1⟩ := step21_trod ht'
    obtain ⟨_, hlen, hat⟩ := World.cells?_some hc
    have hcell : ∀ j, j < 10 → W.cell? (a.add (i * 10 + j)) = cs'[j]? := fun j hj => by
     have := hat j hj
     rw [Go.Deep.add_add] at this
     exact this
    refine ⟨s, ⟨?_, fun j v hv => ?_⟩, h1⟩
    · have := hcell 0 (by omega)
      rw [Nat.add_zero] at this
      rw [this, hs]
      rfl
    · have hj : j < 7 := (List.getElem?_eq_some_iff.1 hv).1
      rw [hcell (1 + j) (by omega), hs, Nat.add_comm 1 j, List.getElem?_cons_succ, List.getElem?_append_left (by show j < 7; omega), hv]
   let f : Nat → Int × Cx := fun i => if h : i < len then Classical.choose (hall i h) else (0, ⟨0, .empty, .empty, 0, 0, 0, .empty⟩)
   have hspec : ∀ i, (h : i < len) → (W.cell? (a.add (i * 10)) = some (.int .i64 (f i).1) ∧ ∀ j v, (callCells (f i).2)[j]? = some v → W.cell? (a.add (i * 10 + (1 + j))) = some v) ∧ (f i).2.Fits := by
    intro i h
    have := Classical.choose_spec (hall i h)
    simp only [f, dif_pos h]
    exact this
   refine ⟨_, _, _, (List.range len).map f, rfl, Nat.le_trans hl hm, by simp, fun hpos => ?_, fun s hs => ?_⟩
   · have hlen : 0 < len := by
      rcases Nat.eq_zero_or_pos len with h | h
      · subst h
        exact absurd rfl hpos
      · exact h
     have h0 := (hspec 0 hlen).1.1
     obtain ⟨ab, ao, asp⟩ := a
     have hsn : asp = none := by
      cases asp with
      | none => rfl
      | some s =>
       exfalso
       simp [World.cell?, Addr.add] at h0
       split at h0 <;> cases h0
     subst hsn
     refine ⟨ab, ao, rfl, ?_, fun k s hk => ?_⟩
     · simp only [add_flat] at h0
       exact World.block_lt_of_cell? W _ h0
     · rw [List.getElem?_map] at hk
       have hkl : k < len := by
        by_cases h : k < len
        · exact h
        · rw [List.getElem?_eq_none (by simpa using h)] at hk; cases hk
       rw [List.getElem?_range hkl] at hk
       simp only [Option.map_some, Option.some.injEq] at hk
       subst hk
       have := (hspec k hkl).1
       simp only [add_flat, ← Nat.add_assoc] at this
       exact this
   · obtain ⟨i, hi, rfl⟩ := List.mem_map.1 hs
     exact (hspec i (by simpa using hi)).2
end

section
open Go Go.ChangeShapes Go.WideShapes Go.ChangeAt Go.RowKit
theorem door_met (os : Os) (args : Array Value) : laidMetH Tryz.prog laidK ((World.doorLaid Tryz.prog 400 os).forCall (fun _ _ => 0) ⟨#[], args, []⟩).memory :=
 laidMetH_of_parts3 (fuel := 8) (laidMet_of_run' 8 (by kernel_rfl) (by kernel_rfl)) (by kernel_rfl) (by kernel_rfl)
end

section
open Go.RowKit Go.Maps
theorem pair_open1 {B : Nat} {w1 W : World} {P Pt Pf P2 Pt2 Pf2 N : Nat} {m m2 : MD} {L : List (Nat × Obj)} (h : MPair B w1 P Pt Pf P2 Pt2 Pf2 N m m2 L W) (hn : m.n ≤ 8) (c fd : Int) :
  Calls Tryz.prog 13 #[.pointer (some ⟨P, 0, none⟩), .int .i64 c, .int .i64 fd] W fun e w' => e = .returned (.tuple #[.int .u32 (ofT m.T m.n c fd), .bool (ofT m.T m.n c fd != 0)]) ∧ W = w' := by
 obtain ⟨y, F, hM⟩ := (MPair.fst h).mod
 exact t_openFd W hM hn c fd
theorem pair_open2 {B : Nat} {w1 W : World} {P Pt Pf P2 Pt2 Pf2 N : Nat} {m m2 : MD} {L : List (Nat × Obj)} (h : MPair B w1 P Pt Pf P2 Pt2 Pf2 N m m2 L W) (hn : m2.n ≤ 8) (c fd : Int) :
  Calls Tryz.prog 13 #[.pointer (some ⟨P2, 0, none⟩), .int .i64 c, .int .i64 fd] W fun e w' => e = .returned (.tuple #[.int .u32 (ofT m2.T m2.n c fd), .bool (ofT m2.T m2.n c fd != 0)]) ∧ W = w' := by
 obtain ⟨y, F, hM⟩ := (MPair.snd h).mod
 exact t_openFd W hM hn c fd
set_option maxRecDepth 100000 in
set_option maxHeartbeats 4000000 in
theorem t_alike21 {B : Nat} {w1 : World} {P Pt Pf P2 Pt2 Pf2 N : Nat} {m : MD} {L : List (Nat × Obj)} (w : World) (h : MPair B w1 P Pt Pf P2 Pt2 Pf2 N m m L w) (hN : N ≤ 50000) (hn : m.n ≤ 8) :
  Calls Tryz.prog 20 #[.pointer (some ⟨P, 0, none⟩), .pointer (some ⟨P2, 0, none⟩), .int .i64 2] w fun e w' => e = .returned (.bool true) ∧ Below w.heap.size w w' := by
 have HM := zz h
 have HT1 := zz (show Calls Tryz.prog 14 #[.pointer (some ⟨P, 0, none⟩)] w (CopyP N m.t w) from by
  obtain ⟨y, F, hM⟩ := h.fst.mod
  exact t_treeOf w hM (by omega))
 have HT2 := zz (show ∀ W, Below w.heap.size w W → Calls Tryz.prog 14 #[.pointer (some ⟨P2, 0, none⟩)] W (CopyP N m.t W) from fun W hb => by
  obtain ⟨y, F, hM⟩ := (h.below hb).snd.mod
  exact t_treeOf W hM (by omega))
 have HO1 := zz (show ∀ W, Below w.heap.size w W → ∀ c fd, Calls Tryz.prog 13 #[.pointer (some ⟨P, 0, none⟩), .int .i64 c, .int .i64 fd] W fun e w' => e = .returned (.tuple #[.int .u32 (ofT m.T m.n c fd), .bool (ofT m.T m.n c fd != 0)]) ∧ W = w' from fun W hb => pair_open1 (h.below hb) hn)
 have HO2 := zz (show ∀ W, Below w.heap.size w W → ∀ c fd, Calls Tryz.prog 13 #[.pointer (some ⟨P2, 0, none⟩), .int .i64 c, .int .i64 fd] W fun e w' => e = .returned (.tuple #[.int .u32 (ofT m.T m.n c fd), .bool (ofT m.T m.n c fd != 0)]) ∧ W = w' from fun W hb => pair_open2 (h.below hb) hn)
 have HW : Hid (WellP m.t) := h.fst.ok.well
 have HN := zz hN
 clear h hN hn
 go_enter Tryz.func20, Tryz.ntmps20
 go_wp2_with (first
  | (go_at_call 14; (with_reducible refine HT1.out.mono ?_); rintro e w2 ⟨P3, y3, F3, rfl, hT, hF, hb⟩
     have HA := zz hT
     have HB := zz hb
     clear hT hF hb)
  | (go_at_call 14; (with_reducible refine (HT2.out _ HB.out).mono ?_); rintro e w3 ⟨P4, y4, F4, rfl, hT, hF, hb⟩
     have HA2 := zz (HA.out.below hb)
     have HC := zz hT
     have HB2 := zz (ptrans HB.out hb)
     clear hT hF hb)
  | (go_at_call 18; (with_reducible refine (t_alike _ HA2.out HC.out HW.out (by have := HN.out; omega)).mono ?_); rintro e w4 ⟨rfl, hb⟩
     have HB3 := zz (ptrans HB2.out hb)
     clear hb))
 clear HT1 HT2 HA HB HA2 HC HB2 HW HN
 go_loopw [7] (fun v W => ∃ c : Nat, v = .int .i64 (c : Int) ∧ c ≤ 2 ∧ Hid (Below w.heap.size w W)) (fun v _ => 2 - (intOf v).toNat)
 case atStart => exact ⟨0, rfl, by omega, HB3⟩
 case round =>
  clear HB3
  obtain ⟨c, rfl, hc, HB⟩ := hrel
  by_cases he : c = 2
  · subst he
    go_wp2
    go_ret
    exact ⟨rfl, HB.out⟩
  · have hc2 : c < 2 := by omega
    have hc3 : (c : Int) < 2 := by omega
    go_wp2
    go_loopw [8] (fun v W => ∃ k : Nat, v = .int .i64 (k : Int) ∧ k ≤ 16 ∧ Hid (Below w.heap.size w W)) (fun v _ => 16 - (intOf v).toNat)
    case atStart => exact ⟨0, rfl, by omega, HB⟩
    case round =>
     clear HB
     obtain ⟨k, rfl, hk, HB⟩ := hrel
     by_cases he2 : k = 16
     · subst he2
       go_wp2
       exact ⟨⟨c + 1, by go_num, by omega, HB⟩, by simp [intOf]; omega⟩
     · have hk2 : k < 16 := by omega
       obtain ⟨z, hz⟩ : ∃ z, z = ofT m.T m.n c k := ⟨_, rfl⟩
       have HO3 := zz (HO1.out _ HB.out c k)
       have HO4 := zz (HO2.out _ HB.out c k)
       rw [← hz] at HO3 HO4
       clear hz
       go_wp2_with (first
        | (go_at_call 13; (with_reducible refine HO3.out.mono ?_); rintro e w5 ⟨rfl, rfl⟩)
        | (go_at_call 13; (with_reducible refine HO4.out.mono ?_); rintro e w5 ⟨rfl, rfl⟩))
       go_roundw
       case rel => exact ⟨k + 1, by go_num, by omega, HB⟩
       case measure => simp [intOf]; omega
end
end Go.Proofs.YtpcnolkdnmolgaaGreatDoor
