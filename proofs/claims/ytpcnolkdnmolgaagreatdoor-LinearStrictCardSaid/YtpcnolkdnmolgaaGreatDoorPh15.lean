/- What a model finds of a path. -/
import Derived.Test.YtpcnolkdnmolgaaGreatDoorPh00
import Derived.Test.YtpcnolkdnmolgaaGreatDoorPh02
import Derived.Test.YtpcnolkdnmolgaaGreatDoorPh13
import Derived.Test.YtpcnolkdnmolgaaGreatDoorPh14
import Derived.Laws.StructEq
import Derived.Handy
import Derived.Laws.Rows
namespace Go.Proofs.YtpcnolkdnmolgaaGreatDoor
section
open Go.RowKit Go.Maps
theorem walkGo_snoc (t : PT) : ∀ (l : List ByteArray) (s : ByteArray) (a : Int × Int), walkGo t (l ++ [s]) a = if (walkGo t l a).2 = 0 then lookP t (walkGo t l a).1 s else walkGo t l a
 | [], _s, _a => rfl
 | _x :: r, s, _a => walkGo_snoc t r s _
theorem look_u32 {t : PT} (hW : WellP t) (d : Int) (s : ByteArray) : U32 (lookP t d s).1 := by
 have h0 : U32 0 := ⟨by decide, by decide⟩
 unfold lookP
 split
 · exact h0
 · split
   · rename_i x hx
     cases hl : x.l s.data.toList with
     | none => exact h0
     | some v =>
      show U32 v
      obtain ⟨_, _, _, y, hy, _⟩ := hW.ent d x _ v hx hl
      have h1 := hW.range v y hy
      have h2 := hW.room
      exact ⟨by omega, by omega⟩
   · exact h0
structure WalkS (w : World) (P : Nat) (a : Int × Int) (W : World) : Prop where
 b0 : W.heap[w.heap.size]? = some (.cells #[.pointer (some ⟨P, 0, none⟩)] 25 (0, 0))
 b1 : W.heap[w.heap.size + 1]? = some (.cells #[.int .u32 a.1] 29 (0, 0))
 b2 : W.heap[w.heap.size + 1 + 1]? = some (.cells #[.int .i64 a.2] 26 (0, 0))
 mem : Below w.heap.size w W
 sz : w.heap.size + 3 ≤ W.heap.size
theorem WalkS.below {w W W' : World} {P : Nat} {a : Int × Int} (h : WalkS w P a W) (hb : Below W.heap.size W W') : WalkS w P a W' :=
 ⟨(hb.block _ (Array.getElem?_eq_some_iff.1 h.b0).1).trans h.b0, (hb.block _ (Array.getElem?_eq_some_iff.1 h.b1).1).trans h.b1, (hb.block _ (Array.getElem?_eq_some_iff.1 h.b2).1).trans h.b2, h.mem.trans (hb.mono h.mem.size), Nat.le_trans h.sz hb.size⟩
theorem WalkS.setA {w W : World} {P : Nat} {a e v : Int} (h : WalkS w P (a, e) W) : WalkS w P (v, e) (W.setCell ⟨w.heap.size + 1, 0, none⟩ (.int .u32 v)) := by
 have far : ∀ j, j ≠ w.heap.size + 1 → (W.setCell ⟨w.heap.size + 1, 0, none⟩ (.int .u32 v)).heap[j]? = W.heap[j]? := fun j hj => Below.heap_setCell _ _ _ j hj
 exact ⟨(far _ (by omega)).trans h.b0, oheap_set _ _ _ _ _ h.b1, (far _ (by omega)).trans h.b2, h.mem.setCell (p := ⟨w.heap.size + 1, 0, none⟩) (by show w.heap.size ≤ w.heap.size + 1; omega) _, by simpa [World.setCell] using h.sz⟩
theorem WalkS.setE {w W : World} {P : Nat} {a e v : Int} (h : WalkS w P (a, e) W) : WalkS w P (a, v) (W.setCell ⟨w.heap.size + 1 + 1, 0, none⟩ (.int .i64 v)) := by
 have far : ∀ j, j ≠ w.heap.size + 1 + 1 → (W.setCell ⟨w.heap.size + 1 + 1, 0, none⟩ (.int .i64 v)).heap[j]? = W.heap[j]? := fun j hj => Below.heap_setCell _ _ _ j hj
 exact ⟨(far _ (by omega)).trans h.b0, (far _ (by omega)).trans h.b1, oheap_set _ _ _ _ _ h.b2, h.mem.setCell (p := ⟨w.heap.size + 1 + 1, 0, none⟩) (by show w.heap.size ≤ w.heap.size + 1 + 1; omega) _, by simpa [World.setCell] using h.sz⟩
theorem WalkS.cells {w W : World} {P : Nat} {a e : Int} (h : WalkS w P (a, e) W) : W.cell? ⟨w.heap.size, 0, none⟩ = some (.pointer (some ⟨P, 0, none⟩)) ∧ W.cell? ⟨w.heap.size + 1, 0, none⟩ = some (.int .u32 a) ∧ W.cell? ⟨w.heap.size + 1 + 1, 0, none⟩ = some (.int .i64 e) ∧ W.frozen? ⟨w.heap.size + 1, 0, none⟩ = false ∧ W.frozen? ⟨w.heap.size + 1 + 1, 0, none⟩ = false := by
 simp [World.cell?, World.frozen?, h.b0, h.b1, h.b2]
set_option maxRecDepth 100000 in
set_option maxHeartbeats 1000000 in
theorem t_walk1 {F : Nat → Prop} {P Pt Pf N : Nat} {y : Lay} {m : MD} (w W : World) (h : ModM w F P Pt Pf N y m) (_hW : WellP m.t) (a : Int × Int) (hu : U32 a.1) (s : ByteArray) (hs : s.size ≤ maxLen) (hS : WalkS w P a W) (b : Int × Int) (hb : (if a.2 = 0 then lookP m.t a.1 s else a) = b) :
  Calls Tryz.prog 239 #[.string s, .pointer (some ⟨w.heap.size + 1 + 1, 0, none⟩), .pointer (some ⟨w.heap.size, 0, none⟩), .pointer (some ⟨w.heap.size + 1, 0, none⟩)] W fun e W' => e = .returned (.tuple #[]) ∧ WalkS w P b W' := by
 obtain ⟨at_, e⟩ := a
 obtain ⟨v, r⟩ := b
 obtain ⟨c0, c1, c2, f1, f2⟩ := hS.cells
 have hM : ModM W F P Pt Pf N y m := h.same (fun b hF => hS.mem.block b (h.lt b hF)) hS.mem.size
 have c3 := hM.c0
 have HS := zz hS
 by_cases c : e = 0
 · subst c
   rw [if_pos rfl] at hb
   have HM := zz (show ∀ W2, Below W.heap.size W W2 → ModM W2 F P Pt Pf N y m from fun W2 hb2 => hM.below hb2)
   have HT := zz (show ∀ W2, ModM W2 F P Pt Pf N y m → Calls Tryz.prog 145 #[.pointer (some ⟨Pt, 0, none⟩), .int .u32 at_, .string s] W2 fun e w' => e = .returned (.tuple #[.int .u32 v, .int .i64 r]) ∧ Below W2.heap.size W2 w' from fun W2 h2 => t_look at_ s v r hb W2 h2.tree hu hs)
   have HN := zz (show ∀ b, Fm F P Pf b → b < w.heap.size from h.lt)
   clear hS hM h hb hu
   go_enter Tryz.func239, Tryz.ntmps239
   go_wp2
   refine wp_region_st (fun n W => WalkS w P ([at_, v, v].getD n v, [0, 0, r].getD n r) W ∧ ModM W F P Pt Pf N y m) (fun W W2 => Below W.heap.size W W2) (fun _ _ => True) [11, 12] (phi [isV (.pointer (some ⟨P, 0, none⟩)), isV (.pointer (some ⟨P, 0, none⟩)), isV (.pointer (some ⟨P, 0, none⟩)), isV (.pointer (some ⟨P, 0, none⟩)), isV (.pointer (some ⟨Pt, 0, none⟩)), isV (.int .u32 at_), isV (.string s), isV (.tuple #[.int .u32 v, .int .i64 r]), isV (.tuple #[.int .u32 v, .int .i64 r]), isV (.int .u32 v), isV (.int .i64 r), (fun _ _ => True), (fun _ _ => True)]) (by kernel_rfl) (by kernel_rfl) (by kernel_rfl) (by kernel_rfl) (by kernel_rfl) ⟨HS.out.below (below_drew _), HM.out _ (below_drew _)⟩ (fun _ _ _ h hb => ⟨h.1.below hb, h.2.below hb⟩) (fun _ _ _ => trivial) ?_ ?_ ?_
   · refine stays_phiR ?_
     simp only [List.forall_mem_cons]
     exact ⟨kv, kv, kv, kv, kv, kv, kv, kv, kv, kv, kv, fun _ _ _ _ _ => trivial, fun _ _ _ _ _ => trivial, fun _ h => absurd h (by simp)⟩
   · refine ⟨?_, ?_, ?_, ?_, ?_, ?_, ?_, ?_, ?_, ?_, ?_, ?_, ?_, trivial⟩
     · refine opS_mk rfl rfl fun aa W2 nJ hJ hp hq K hK => ?_
       have e2 : aa.tmps[2]?.getD undef = .pointer (some ⟨w.heap.size, 0, none⟩) := hp 2 (by kernel_rfl)
       have c0 := hJ.1.cells.1
       clear hp hq
       go_simp
       exact hK _ _ (RelB.refl _) rfl
     · refine opS_mk rfl rfl fun aa W2 nJ hJ hp hq K hK => ?_
       have e8 : aa.tmps[8]?.getD undef = .pointer (some ⟨P, 0, none⟩) := hq 0 _ (by kernel_rfl) rfl
       clear hp hq
       go_simp
       exact hK _ _ (RelB.refl _) rfl
     · refine opS_mk rfl rfl fun aa W2 nJ hJ hp hq K hK => ?_
       have e9 : aa.tmps[9]?.getD undef = .pointer (some ⟨P, 0, none⟩) := hq 1 _ (by kernel_rfl) rfl
       clear hp hq
       go_simp
       exact hK _ _ (RelB.refl _) rfl
     · refine opS_mk rfl rfl fun aa W2 nJ hJ hp hq K hK => ?_
       have e10 : aa.tmps[10]?.getD undef = .pointer (some ⟨P, 0, none⟩) := hq 2 _ (by kernel_rfl) rfl
       clear hp hq
       go_simp
       exact hK _ _ (RelB.refl _) rfl
     · refine opS_mk rfl rfl fun aa W2 nJ hJ hp hq K hK => ?_
       have e11 : aa.tmps[11]?.getD undef = .pointer (some ⟨P, 0, none⟩) := hq 3 _ (by kernel_rfl) rfl
       have c1 := hJ.2.c0
       clear hp hq
       go_simp
       exact hK _ _ (RelB.refl _) rfl
     · refine opS_ahead (m := 0) (k := 11) rfl rfl rfl rfl (by kernel_rfl) fun aa W2 nJ hnJ hJ hp hq K hK => ?_
       have e3 : aa.tmps[3]?.getD undef = .pointer (some ⟨w.heap.size + 1, 0, none⟩) := hp 3 (by kernel_rfl)
       obtain rfl : nJ = 0 := by omega
       have c1 := hJ.1.cells.2.1
       clear hp hq
       go_simp
       exact hK _ _ (Below.refl _ _) rfl
     · refine opS_mk rfl rfl fun aa W2 nJ hJ hp hq K hK => ?_
       have e0 : aa.tmps[0]?.getD undef = .string s := hp 0 (by kernel_rfl)
       clear hp hq
       go_simp
       exact hK _ _ (RelB.refl _) rfl
     · refine opS_mk rfl rfl fun aa W2 nJ hJ hp hq K hK => ?_
       have e12 : aa.tmps[12]?.getD undef = .pointer (some ⟨Pt, 0, none⟩) := hq 4 _ (by kernel_rfl) rfl
       have e13 : aa.tmps[13]?.getD undef = .int .u32 at_ := hq 5 _ (by kernel_rfl) rfl
       have e14 : aa.tmps[14]?.getD undef = .string s := hq 6 _ (by kernel_rfl) rfl
       have hA := HT.out _ hJ.2
       clear hp hq
       go_simp
       go_at_call 145
       (with_reducible refine hA.mono ?_)
       rintro e z8 ⟨rfl, hb8⟩
       exact hK _ _ hb8 rfl
     · refine opS_mk rfl rfl fun aa W2 nJ hJ hp hq K hK => ?_
       have e15 : aa.tmps[15]?.getD undef = .tuple #[.int .u32 v, .int .i64 r] := hq 7 _ (by kernel_rfl) rfl
       clear hp hq
       go_simp
       exact hK _ _ (RelB.refl _) rfl
     · refine opS_mk rfl rfl fun aa W2 nJ hJ hp hq K hK => ?_
       have e7 : aa.tmps[7]?.getD undef = .tuple #[.int .u32 v, .int .i64 r] := hq 8 _ (by kernel_rfl) rfl
       clear hp hq
       go_simp
       exact hK _ _ (RelB.refl _) rfl
     · refine opS_mk rfl rfl fun aa W2 nJ hJ hp hq K hK => ?_
       have e7 : aa.tmps[7]?.getD undef = .tuple #[.int .u32 v, .int .i64 r] := hq 8 _ (by kernel_rfl) rfl
       clear hp hq
       go_simp
       exact hK _ _ (RelB.refl _) rfl
     · refine opS_at (m := 0) rfl rfl fun aa W2 hJ hp hq K hK => ?_
       have e16 : aa.tmps[16]?.getD undef = .int .u32 v := hq 9 _ (by kernel_rfl) rfl
       have e3 : aa.tmps[3]?.getD undef = .pointer (some ⟨w.heap.size + 1, 0, none⟩) := hp 3 (by kernel_rfl)
       have hj := hJ
       obtain ⟨-, c1, -, f1, -⟩ := hJ.1.cells
       clear hp hq
       go_simp
       refine hK undef _ trivial ⟨hj.1.setA, hj.2.same (fun b hF => Below.heap_setCell _ _ _ b (by have := HN.out b hF; show b ≠ w.heap.size + 1; omega)) (by simp [World.setCell])⟩ trivial
     · refine opS_at (m := 1) rfl rfl fun aa W2 hJ hp hq K hK => ?_
       have e17 : aa.tmps[17]?.getD undef = .int .i64 r := hq 10 _ (by kernel_rfl) rfl
       have e1 : aa.tmps[1]?.getD undef = .pointer (some ⟨w.heap.size + 1 + 1, 0, none⟩) := hp 1 (by kernel_rfl)
       have hj := hJ
       obtain ⟨-, -, c2, -, f2⟩ := hJ.1.cells
       clear hp hq
       go_simp
       refine hK undef _ trivial ⟨hj.1.setE, hj.2.same (fun b hF => Below.heap_setCell _ _ _ b (by have := HN.out b hF; show b ≠ w.heap.size + 1 + 1; omega)) (by simp [World.setCell])⟩ trivial
   · intro vs W9 hJ9 hv9 _
     have HJ9 := zz hJ9.1
     clear hJ9 hv9
     simp only [putAll, Act.put, List.setIfInBounds_toArray, List.set_cons_succ, List.set_cons_zero, Nat.zero_add, Nat.reduceAdd]
     go_wp2
     go_end0
     exact ⟨rfl, HJ9.out⟩
 · have hz : (e == 0) = false := by simpa using c
   rw [if_neg c] at hb
   have HB := zz hb
   clear hS hM h hb hu
   go_enter Tryz.func239, Tryz.ntmps239
   go_wp2
   go_end0
   exact ⟨rfl, by rw [← HB.out]; exact HS.out⟩
theorem walkGo_u32 {t : PT} (hW : WellP t) : ∀ (l : List ByteArray) (a : Int × Int), U32 a.1 → U32 (walkGo t l a).1
 | [], a, h => h
 | s :: r, a, h => walkGo_u32 hW r _ (by
   split
   · exact look_u32 hW _ _
   · exact h)
theorem walkGo_take (t : PT) (l : List ByteArray) (k : Nat) (s : ByteArray) (a : Int × Int) (h : l[k]? = some s) : walkGo t (l.take (k + 1)) a = if (walkGo t (l.take k) a).2 = 0 then lookP t (walkGo t (l.take k) a).1 s else walkGo t (l.take k) a := by
 rw [List.take_add_one, h]
 exact walkGo_snoc t _ s a
theorem enters_walk1 (args : Array Value) (W : World) : (callFunc 239 args).run Tryz.prog W = .ok (.enter 239 args) W := enters_of Tryz.func239 (by kernel_rfl) rfl args W
set_option maxRecDepth 100000 in
set_option maxHeartbeats 1000000 in
theorem t_walkP {F : Nat → Prop} {P Pt Pf N : Nat} {y : Lay} {m : MD} (w : World) (h : ModM w F P Pt Pf N y m) (hW : WellP m.t) (A : Option Addr) (n c : Nat) (l : List ByteArray) (hl : StrsAt w A l) (hn : l.length = n) (hn2 : n ≤ 100000) (hs : ∀ s ∈ l, s.size ≤ maxLen) :
  Calls Tryz.prog 177 #[.pointer (some ⟨P, 0, none⟩), .slice A n c] w fun e w' => e = .returned (.tuple #[.int .u32 (walkP m.t l).1, .int .i64 (walkP m.t l).2]) ∧ Below w.heap.size w w' := by
 have HL := zz hl
 have HN := zz hn
 have HS := zz hs
 have HM := zz h
 have HWW := zz hW
 clear hl hn hs h hW
 go_enter Tryz.func177, Tryz.ntmps177
 go_wp2
 obtain ⟨w0, hw0⟩ : ∃ w0, w0 = (((w.alloc (.cells #[.pointer (some ⟨P, 0, none⟩)] 25)).alloc (.cells #[.int .u32 1] 29)).alloc (.cells #[.int .i64 0] 26)) := ⟨_, rfl⟩
 have S0 : WalkS w P (1, 0) w0 := by
  rw [hw0]
  have z1 := World.alloc_heap_new w (.cells #[.pointer (some ⟨P, 0, none⟩)] 25)
  have z2 := World.alloc_heap_new (w.alloc (.cells #[.pointer (some ⟨P, 0, none⟩)] 25)) (.cells #[.int .u32 1] 29)
  have z3 := World.alloc_heap_new ((w.alloc (.cells #[.pointer (some ⟨P, 0, none⟩)] 25)).alloc (.cells #[.int .u32 1] 29)) (.cells #[.int .i64 0] 26)
  simp only [World.size_alloc] at z1 z2 z3
  exact ⟨heap_up _ (heap_up _ z1), heap_up _ z2, z3, (((Below.refl _ w).alloc (Nat.le_refl _) _).alloc (by simp) _).alloc (by simp; omega) _, by simp⟩
 have HS0 := zz S0
 rw [← hw0]
 clear hw0 S0
 go_loopw [14] (fun i wr => ∃ k : Nat, k ≤ n ∧ i = .int .i64 k ∧ Hid (WalkS w P (walkGo m.t (l.take k) (1, 0)) wr)) (fun i _ => n + 1 - (intOf i).toNat)
 case atStart => exact ⟨0, Nat.zero_le _, rfl, HS0.out⟩
 case round =>
  obtain ⟨k, hk, rfl, HK⟩ := hrel
  by_cases hkn : k < n
  · have hlk : l[k]? = some (l[k]'(by rw [HN.out]; exact hkn)) := List.getElem?_eq_getElem _
    obtain ⟨s, hs⟩ : ∃ s, l[k]'(by rw [HN.out]; exact hkn) = s := ⟨_, rfl⟩
    rw [hs] at hlk
    have hsz := HS.out s (List.mem_of_getElem? hlk)
    obtain ⟨b, o, rfl, hbl, hcell⟩ := (HL.out : SliceAt w A (l.map .string)) (by rw [List.length_map, HN.out]; omega)
    have hck := hcell k (.string s) (by rw [List.getElem?_map, hlk]; rfl)
    have hc1 := (World.cell?_of_block (a := ⟨b, o + k, none⟩) (HK.out.mem.block b hbl)).trans hck
    have hnx := walkGo_take m.t l k s (1, 0) hlk
    have HC := zz (t_walk1 w wr HM.out HWW.out (walkGo m.t (l.take k) (1, 0)) (walkGo_u32 HWW.out _ _ ⟨by decide, by decide⟩) s hsz HK.out _ hnx.symm)
    have ew := enters_walk1
    clear hcell hck hnx hlk hs
    go_wp2_with (go_at_fn 239; refine HC.out.mono ?_; rintro e W3 ⟨rfl, hS3⟩; have H3 := zz hS3; clear hS3)
    go_roundw
    case rel => exact ⟨k + 1, by omega, by go_num, H3⟩
    case measure => simp [intOf]; omega
  · have hkn' : k = n := by omega
    subst hkn'
    have hfull : l.take k = l := by rw [← HN.out]; exact List.take_length
    have HKK : Hid (WalkS w P (walkGo m.t l (1, 0)) wr) := by rw [← hfull]; exact HK.out
    obtain ⟨⟨a1, e1⟩, hq⟩ : ∃ q, walkGo m.t l (1, 0) = q := ⟨_, rfl⟩
    rw [hq] at HKK
    obtain ⟨c0, c1, c2, f1, f2⟩ := HKK.out.cells
    have HP : Hid (walkP m.t l = if e1 ≠ 0 then (0, e1) else (a1, e1)) := by
     show _ = _
     unfold walkP
     rw [hq]
    clear hfull hq HK
    by_cases he : e1 = 0
    · have he2 : (e1 != 0) = false := by simp [he]
      have HQ : Hid (walkP m.t l = (a1, 0)) := by
       show _ = _
       rw [HP.out, if_neg (fun e => e he), he]
      go_wp2
      go_ret2
      exact ⟨by rw [HQ.out]; rfl, HKK.out.mem⟩
    · have he2 : (e1 != 0) = true := by simpa using he
      have HQ : Hid (walkP m.t l = (0, e1)) := by
       show _ = _
       rw [HP.out, if_pos he]
      have mixed : Tryz.prog.follows Departure.mixedOrders = true := by kernel_rfl
      go_wp2
      go_region_o
      go_wp2
      go_ret2
      exact ⟨by rw [HQ.out]; rfl, ⟨HKK.out.mem.os, HKK.out.mem.tape, HKK.out.mem.output, HKK.out.mem.size, HKK.out.mem.block⟩⟩
set_option maxRecDepth 100000 in
set_option maxHeartbeats 1000000 in
theorem t_findM {F : Nat → Prop} {P Pt Pf N : Nat} {y : Lay} {m : MD} (w : World) (h : ModM w F P Pt Pf N y m) (hW : WellP m.t) (s : ByteArray) (hs : s.size ≤ maxLen) (v r : Int) (hr : findP m.t s = (v, r)) :
  Calls Tryz.prog 107 #[.pointer (some ⟨P, 0, none⟩), .string s] w fun e w' => e = .returned (.tuple #[.int .u32 v, .int .i64 r]) ∧ Below w.heap.size w w' := by
 have T := t_splitA s w hs
 obtain ⟨⟨l, q⟩, hl⟩ : ∃ q, splitE s = q := ⟨_, rfl⟩
 have hnm := splitE_names s
 rw [hl] at hnm
 obtain ⟨n, hn⟩ : ∃ n, l.length = n := ⟨_, rfl⟩
 have HT : Hid (Calls Tryz.prog 70 #[.string s] w fun e W' => ∃ A c, e = .returned (.tuple #[.slice A n c, .int .i64 q]) ∧ Hid (Below w.heap.size w W') ∧ Hid (StrsAt W' A l) ∧ n ≤ c) := T.mono fun e W' h => by
  obtain ⟨v, he, hb, ho⟩ := h.get
  rw [hl] at he ho
  obtain ⟨A, c, hv, hst, hc⟩ := strs_of_own ho rfl
  rw [hv] at he
  rw [hn] at hc he
  exact ⟨A, c, he, hb, hst, hc⟩
 have hF : findP m.t s = if q ≠ 0 then (0, q) else walkP m.t l := by unfold findP; rw [hl]
 rw [hr] at hF
 have HW1 : Hid (∀ W A c, Below w.heap.size w W → StrsAt W A l → n ≤ c → Calls Tryz.prog 177 #[.pointer (some ⟨P, 0, none⟩), .slice A n c] W fun e w' => e = .returned (.tuple #[.int .u32 (walkP m.t l).1, .int .i64 (walkP m.t l).2]) ∧ Below W.heap.size W w') := fun W A c hb hst hc =>
  t_walkP W (h.below hb) hW A n c l hst hn (by have h8 : l.length ≤ 8 := hnm.1; omega) (fun s2 h2 => by have := (pname_size (hnm.2 s2 h2)).2; unfold maxLen; omega)
 by_cases c : q = 0
 · have c2 : (q != 0) = false := by simp [c]
   rw [if_neg (fun e => e c)] at hF
   rw [← hF] at HW1
   clear T hl hnm hF h hW hn
   go_enter Tryz.func107, Tryz.ntmps107
   go_wp2_with (first
    | (go_at_call 70; refine HT.out.mono ?_; rintro e W1 ⟨A, c, rfl, hb, hst, hc⟩)
    | (go_at_call 177; refine (HW1.out _ _ _ hb.out hst.out hc).mono ?_; rintro e W2 ⟨rfl, hb2⟩; have HB2 := zz (ptrans hb.out hb2); clear hb2))
   go_ret2
   exact ⟨rfl, HB2.out⟩
 · have c2 : (q != 0) = true := by simpa using c
   rw [if_pos c] at hF
   have HF := zz hF
   clear T hl hnm hF h hW hn HW1
   go_enter Tryz.func107, Tryz.ntmps107
   go_wp2_with (go_at_call 70; refine HT.out.mono ?_; rintro e W1 ⟨A, c, rfl, hb, hst, hc⟩)
   go_ret2
   have := HF.out
   injection this with e1 e2
   exact ⟨by rw [e1, e2]; rfl, hb.out⟩
theorem parent_names (s : ByteArray) : (parentE s).1.1.length ≤ 8 ∧ (∀ n ∈ (parentE s).1.1, n.size ≤ maxLen) ∧ (parentE s).1.2.size ≤ maxLen := by
 have h := splitE_names s
 have hsz : ∀ n ∈ (splitE s).1, n.size ≤ maxLen := fun n hn => by
  have := (pname_size (h.2 n hn)).2
  unfold maxLen
  omega
 unfold parentE
 split
 · simp [maxLen]
 · split
   · simp [maxLen]
   · rename_i hne
     refine ⟨?_, fun n hn => hsz n (List.dropLast_subset _ hn), ?_⟩
     · show (splitE s).1.dropLast.length ≤ 8
       rw [List.length_dropLast]
       have := h.1
       omega
     · show ((splitE s).1.getLastD ByteArray.empty).size ≤ maxLen
       apply hsz
       rw [List.getLastD_eq_getLast?]
       rw [List.getLast?_eq_some_getLast hne]
       exact List.getLast_mem hne
set_option maxRecDepth 100000 in
set_option maxHeartbeats 1000000 in
theorem t_entryM {F : Nat → Prop} {P Pt Pf N : Nat} {y : Lay} {m : MD} (w : World) (h : ModM w F P Pt Pf N y m) (hW : WellP m.t) (s : ByteArray) (hs : s.size ≤ maxLen) (d : Int) (nm : ByteArray) (r : Int) (hr : entryP m.t s = ((d, nm), r)) :
  Calls Tryz.prog 109 #[.pointer (some ⟨P, 0, none⟩), .string s] w fun e w' => e = .returned (.tuple #[.int .u32 d, .string nm, .int .i64 r]) ∧ Below w.heap.size w w' := by
 have T := t_parent s w hs
 have hnm := parent_names s
 obtain ⟨⟨⟨l, pn⟩, q⟩, hl⟩ : ∃ q, parentE s = q := ⟨_, rfl⟩
 rw [hl] at hnm
 obtain ⟨n, hn⟩ : ∃ n, l.length = n := ⟨_, rfl⟩
 have HT : Hid (Calls Tryz.prog 180 #[.string s] w fun e W' => ∃ A c, e = .returned (.tuple #[.slice A n c, .string pn, .int .i64 q]) ∧ Hid (Below w.heap.size w W') ∧ Hid (StrsAt W' A l)) := T.mono fun e W' h => by
  obtain ⟨A, c, he, hb, hst⟩ := h.get
  rw [hl] at he hst
  rw [← hn]
  exact ⟨A, c, he, hb, hst⟩
 have hF : entryP m.t s = if q ≠ 0 then ((0, ByteArray.empty), q) else if (walkP m.t l).2 ≠ 0 then ((0, ByteArray.empty), (walkP m.t l).2) else (((walkP m.t l).1, pn), 0) := by unfold entryP; rw [hl]
 rw [hr] at hF
 obtain ⟨⟨wv, we⟩, hwk⟩ : ∃ q, walkP m.t l = q := ⟨_, rfl⟩
 have HW1 : Hid (∀ W A c, Below w.heap.size w W → StrsAt W A l → Calls Tryz.prog 177 #[.pointer (some ⟨P, 0, none⟩), .slice A n c] W fun e w' => e = .returned (.tuple #[.int .u32 wv, .int .i64 we]) ∧ Below W.heap.size W w') := fun W A c hb hst =>
  (t_walkP W (h.below hb) hW A n c l hst hn (by have h8 : l.length ≤ 8 := hnm.1; omega) (fun s2 h2 => hnm.2.1 s2 h2)).mono fun e w' ⟨h1, h2⟩ => ⟨by rw [hwk] at h1; exact h1, h2⟩
 rw [hwk] at hF
 by_cases c : q = 0
 · have c2 : (q != 0) = false := by simp [c]
   rw [if_neg (fun e => e c)] at hF
   by_cases k : we = 0
   · have k2 : (we != 0) = false := by simp [k]
     rw [if_neg (fun e => e k)] at hF
     have HF := zz hF
     clear T hl hnm hF h hW hn hwk
     go_enter Tryz.func109, Tryz.ntmps109
     go_wp2_with (first
      | (go_at_call 180; refine HT.out.mono ?_; rintro e W1 ⟨A, c, rfl, hb, hst⟩)
      | (go_at_call 177; refine (HW1.out _ _ _ hb.out hst.out).mono ?_; rintro e W2 ⟨rfl, hb2⟩; have HB2 := zz (ptrans hb.out hb2); clear hb2))
     go_ret3
     have := HF.out
     injection this with e1 e2
     injection e1 with e1 e3
     exact ⟨by rw [e1, e2, e3]; rfl, HB2.out⟩
   · have k2 : (we != 0) = true := by simpa using k
     rw [if_pos k] at hF
     have HF := zz hF
     clear T hl hnm hF h hW hn hwk
     go_enter Tryz.func109, Tryz.ntmps109
     go_wp2_with (first
      | (go_at_call 180; refine HT.out.mono ?_; rintro e W1 ⟨A, c, rfl, hb, hst⟩)
      | (go_at_call 177; refine (HW1.out _ _ _ hb.out hst.out).mono ?_; rintro e W2 ⟨rfl, hb2⟩; have HB2 := zz (ptrans hb.out hb2); clear hb2))
     go_ret3
     have := HF.out
     injection this with e1 e2
     injection e1 with e1 e3
     exact ⟨by rw [e1, e2, e3]; rfl, HB2.out⟩
 · have c2 : (q != 0) = true := by simpa using c
   rw [if_pos c] at hF
   have HF := zz hF
   clear T hl hnm hF h hW hn HW1 hwk
   go_enter Tryz.func109, Tryz.ntmps109
   go_wp2_with (go_at_call 180; refine HT.out.mono ?_; rintro e W1 ⟨A, c, rfl, hb, hst⟩)
   go_ret3
   have := HF.out
   injection this with e1 e2
   injection e1 with e1 e3
   exact ⟨by rw [e1, e2, e3]; rfl, hb.out⟩
end

section
open Go.RowKit Go.Maps
abbrev deedV (f : Nat) : Value := .agg #[.func (.func f) #[] #[]]
def deedO (a : Int) : Option Value := if a = 12 then some (deedV 78) else if a = 11 then some (deedV 77) else if a = 8 then some (deedV 76) else if a = 9 then some (deedV 75) else if a = 10 then some (deedV 75) else if a = 7 then some (deedV 75) else if a = 6 then some (deedV 74) else if a = 14 then some (deedV 73) else if a = 13 then some (deedV 73) else if a = 5 then some (deedV 73) else if a = 4 then some (deedV 73) else if a = 3 then some (deedV 73) else if a = 2 then some (deedV 72) else if a = 1 then some (deedV 71) else none
def deedsM : Lit → Option Value
 | .int .u8 a => deedO a
 | _ => none
theorem dkey8 {i : Int} (h : 0 ≤ i ∧ i ≤ 255) : keyOf Tryz.prog 5 (.int .u8 i) = some (.int .u8 i) :=
 keyOf_int_mk Tryz.underlying5 (by simp [Lit.wf, IntKind.min, IntKind.max, IntKind.signed, IntKind.bits]; omega)
theorem dlaw8 : Keyed Tryz.prog 5 := int_keyed Tryz.underlying5
set_option maxRecDepth 100000 in
set_option maxHeartbeats 2000000 in
theorem t_deeds (w : World) : Calls Tryz.prog 45 #[] w fun e w' => ∃ b, e = .returned (.map (some b)) ∧ MapAt w' Tryz.prog 5 b 14 deedsM ∧ Below w.heap.size w w' ∧ w.heap.size ≤ b := by
 have hmm := @run_makeMap Tryz.prog
 have m0 := MapAt.made w Tryz.prog 5
 obtain ⟨w1, r1, m1, t1⟩ := m0.update dlaw8 Tryz.underlying93 (by unfold maxLen; omega) (val := deedV 71) (dkey8 (i := 1) (by omega))
 obtain ⟨w2, r2, m2, t2⟩ := m1.update dlaw8 Tryz.underlying93 (by unfold maxLen; omega) (val := deedV 72) (dkey8 (i := 2) (by omega))
 obtain ⟨w3, r3, m3, t3⟩ := m2.update dlaw8 Tryz.underlying93 (by unfold maxLen; omega) (val := deedV 73) (dkey8 (i := 3) (by omega))
 obtain ⟨w4, r4, m4, t4⟩ := m3.update dlaw8 Tryz.underlying93 (by unfold maxLen; omega) (val := deedV 73) (dkey8 (i := 4) (by omega))
 obtain ⟨w5, r5, m5, t5⟩ := m4.update dlaw8 Tryz.underlying93 (by unfold maxLen; omega) (val := deedV 73) (dkey8 (i := 5) (by omega))
 obtain ⟨w6, r6, m6, t6⟩ := m5.update dlaw8 Tryz.underlying93 (by unfold maxLen; omega) (val := deedV 73) (dkey8 (i := 13) (by omega))
 obtain ⟨w7, r7, m7, t7⟩ := m6.update dlaw8 Tryz.underlying93 (by unfold maxLen; omega) (val := deedV 73) (dkey8 (i := 14) (by omega))
 obtain ⟨w8, r8, m8, t8⟩ := m7.update dlaw8 Tryz.underlying93 (by unfold maxLen; omega) (val := deedV 74) (dkey8 (i := 6) (by omega))
 obtain ⟨w9, r9, m9, t9⟩ := m8.update dlaw8 Tryz.underlying93 (by unfold maxLen; omega) (val := deedV 75) (dkey8 (i := 7) (by omega))
 obtain ⟨w10, r10, m10, t10⟩ := m9.update dlaw8 Tryz.underlying93 (by unfold maxLen; omega) (val := deedV 75) (dkey8 (i := 10) (by omega))
 obtain ⟨w11, r11, m11, t11⟩ := m10.update dlaw8 Tryz.underlying93 (by unfold maxLen; omega) (val := deedV 75) (dkey8 (i := 9) (by omega))
 obtain ⟨w12, r12, m12, t12⟩ := m11.update dlaw8 Tryz.underlying93 (by unfold maxLen; omega) (val := deedV 76) (dkey8 (i := 8) (by omega))
 obtain ⟨w13, r13, m13, t13⟩ := m12.update dlaw8 Tryz.underlying93 (by unfold maxLen; omega) (val := deedV 77) (dkey8 (i := 11) (by omega))
 obtain ⟨w14, r14, m14, t14⟩ := m13.update dlaw8 Tryz.underlying93 (by unfold maxLen; omega) (val := deedV 78) (dkey8 (i := 12) (by omega))
 have HM : Hid (MapAt w14 Tryz.prog 5 w.heap.size 14 deedsM) := m14.congr fun kl _ => by
  cases kl with
  | int q a =>
   cases q <;> try (unfold updM; simp [deedsM, Lit.sameKey]; done)
   show updM _ _ _ _ = deedO a
   unfold updM deedO
   by_cases h12 : a = 12
   · simp [h12, Lit.sameKey]
   by_cases h11 : a = 11
   · simp [h11, Lit.sameKey]
   by_cases h8 : a = 8
   · simp [h8, Lit.sameKey]
   by_cases h9 : a = 9
   · simp [h9, Lit.sameKey]
   by_cases h10 : a = 10
   · simp [h10, Lit.sameKey]
   by_cases h7 : a = 7
   · simp [h7, Lit.sameKey]
   by_cases h6 : a = 6
   · simp [h6, Lit.sameKey]
   by_cases h14 : a = 14
   · simp [h14, Lit.sameKey]
   by_cases h13 : a = 13
   · simp [h13, Lit.sameKey]
   by_cases h5 : a = 5
   · simp [h5, Lit.sameKey]
   by_cases h4 : a = 4
   · simp [h4, Lit.sameKey]
   by_cases h3 : a = 3
   · simp [h3, Lit.sameKey]
   by_cases h2 : a = 2
   · simp [h2, Lit.sameKey]
   by_cases h1 : a = 1
   · simp [h1, Lit.sameKey]
   simp [h1, h2, h3, h4, h5, h13, h14, h6, h7, h10, h9, h8, h11, h12, Lit.sameKey]
  | _ => unfold updM; simp [deedsM, Lit.sameKey]
 have HB : Hid (Below w.heap.size w w14) := by
  have hg := (((((((((((((t1.grown.trans t2.grown).trans t3.grown).trans t4.grown).trans t5.grown).trans t6.grown).trans t7.grown).trans t8.grown).trans t9.grown).trans t10.grown).trans t11.grown).trans t12.grown).trans t13.grown).trans t14.grown)
  have ha : Below w.heap.size w (w.alloc (.map #[] 0)) := (Below.refl _ _).alloc (Nat.le_refl _) _
  refine ⟨hg.os.trans ha.os, hg.tape.trans ha.tape, hg.output.trans ha.output, Nat.le_trans ha.size hg.size, fun b hb => (hg.block b (Nat.lt_of_lt_of_le hb ha.size) fun e => ?_).trans (ha.block b hb)⟩
  injection e with e
  omega
 clear m0 m1 m2 m3 m4 m5 m6 m7 m8 m9 m10 m11 m12 m13 m14 t1 t2 t3 t4 t5 t6 t7 t8 t9 t10 t11 t12 t13 t14
 go_enter Tryz.func45, Tryz.ntmps45
 go_wp2
 go_ret
 exact ⟨_, rfl, HM.out, HB.out, Nat.le_refl _⟩
end

section
open Go.RowKit Go.Maps
def hasL : List Int := [0, 1, 65, 12, 44, 20, 131, 65, 195, 65, 65, 1, 1, 4, 4, 0]
def hasN (a : Nat) : Int := hasL.getD a 0
def KindsAt (w : World) : Prop := ∀ k, k < 16 → w.cell? ⟨0, k * 2 + 1, none⟩ = some (.int .i64 (hasN k))
theorem KindsAt.pos {w : World} (h : KindsAt w) : 0 < w.heap.size := by
 have := h 0 (by decide)
 cases hh : w.heap[0]? with
 | none => simp [World.cell?, hh] at this
 | some o => exact (Array.getElem?_eq_some_iff.1 hh).1
theorem KindsAt.below {B : Nat} {w w' : World} (h : KindsAt w) (hb : Below B w w') (hB : 0 < B) : KindsAt w' := fun k hk => by
 rw [← h k hk]
 simp only [World.cell?, hb.block 0 hB]
set_option maxRecDepth 100000 in
theorem t_of (a : Nat) (ha : a ≤ 255) (w : World) (h : KindsAt w) : Calls Tryz.prog 67 #[.int .u8 a] w fun e w' => e = .returned (.int .i64 (hasN a)) ∧ w = w' := by
 by_cases c : a < 16
 · have hk := h a c
   have c1 : ¬ (15 : Int) < a := by omega
   go_enter Tryz.func67, Tryz.ntmps67
   go_wp2
   go_ret
   exact ⟨rfl, rfl⟩
 · have c1 : (15 : Int) < a := by omega
   have e : hasN a = 0 := by
    unfold hasN
    rw [List.getD_eq_getElem?_getD, List.getElem?_eq_none (by show 16 ≤ a; omega)]
    rfl
   rw [e]
   go_enter Tryz.func67, Tryz.ntmps67
   go_wp2
   go_ret
   exact ⟨rfl, rfl⟩
abbrev fieldsV : Array Value := #[.int .i64 1, .func (.func 149) #[] #[], .func (.func 150) #[] #[], .func (.func 152) #[] #[], .int .i64 2, .func (.func 154) #[] #[], .func (.func 155) #[] #[], .func (.func 156) #[] #[], .int .i64 4, .func (.func 157) #[] #[], .func (.func 158) #[] #[], .func (.func 159) #[] #[], .int .i64 8, .func (.func 161) #[] #[], .func (.func 162) #[] #[], .func (.func 163) #[] #[], .int .i64 16, .func (.func 164) #[] #[], .func (.func 165) #[] #[], .func (.func 167) #[] #[], .int .i64 32, .func (.func 169) #[] #[], .func (.func 170) #[] #[], .func (.func 171) #[] #[]]
set_option maxRecDepth 100000 in
theorem t_fields (w : World) : Calls Tryz.prog 102 #[] w fun e w' => e = .returned (.slice (some ⟨w.heap.size, 0, none⟩) 6 6) ∧ w' = w.alloc (.cells fieldsV 198) := by
 go_enter Tryz.func102, Tryz.ntmps102
 go_wp2
 go_ret
 exact ⟨rfl, rfl⟩
abbrev callCells (x : Cx) : List Value := [.int .u8 x.act, .string x.path, .string x.path2, .int .i64 x.fd, .int .i64 x.page, .int .u32 x.size, .string x.data]
abbrev callV (x : Cx) : Value := .agg (callCells x).toArray
def dropF (k : Nat) (x : Cx) : Cx :=
 match k with
 | 0 => { x with path := ByteArray.empty }
 | 1 => { x with path2 := ByteArray.empty }
 | 2 => { x with fd := 0 }
 | 3 => { x with page := 0 }
 | 4 => { x with size := 0 }
 | _ => { x with data := ByteArray.empty }
def bareTo (x : Cx) : Nat → Cx
 | 0 => x
 | k + 1 => if hasB x.act k = true then dropF k (bareTo x k) else bareTo x k
abbrev zeroC : List Value := [.int .u8 0, .string ⟨#[]⟩, .string ⟨#[]⟩, .int .i64 0, .int .i64 0, .int .u32 0, .string ⟨#[]⟩]
theorem cset {w : World} {B j : Nat} {cs : Array Value} {T : TypeId} {fr : Nat × Nat} (v : Value) (h : w.heap[B]? = some (.cells cs T fr)) : (w.setCell ⟨B, j, none⟩ v).heap[B]? = some (.cells (cs.setIfInBounds j v) T fr) := by
 simp [World.setCell, Array.getElem?_modify, h]
def bitN (k : Nat) : Int := [1, 2, 4, 8, 16, 32, 64, 128].getD k 0
theorem has_small : ∀ a, a < 16 → ∀ k, k < 8 → (bits BinOp.and IntKind.i64 (hasN a) (bitN k) != 0) = hasB a k := by decide +kernel
theorem hasN_big {a : Nat} (h : 16 ≤ a) : hasN a = 0 := by
 unfold hasN
 rw [List.getD_eq_getElem?_getD, List.getElem?_eq_none (by show 16 ≤ a; omega)]
 rfl
theorem hasB_big {a : Nat} (h : 16 ≤ a) (k : Nat) : hasB a k = false := by
 unfold hasB
 split <;> (apply decide_eq_false; omega)
theorem bit_zero : ∀ k, k < 8 → (bits BinOp.and IntKind.i64 0 (bitN k) != 0) = false := by decide +kernel
theorem has_bit {a k : Nat} (hk : k < 8) : (bits BinOp.and IntKind.i64 (hasN a) (bitN k) != 0) = hasB a k := by
 by_cases h : a < 16
 · exact has_small a h k hk
 · rw [hasN_big (by omega), hasB_big (by omega)]
   exact bit_zero k hk
structure BareS (w : World) (x : Cx) (k : Nat) (W : World) : Prop where
 b0 : W.heap[w.heap.size]? = some (.cells (callCells (bareTo x k)).toArray 31 (0, 0))
 b1 : W.heap[w.heap.size + 1]? = some (.cells zeroC.toArray 31 (0, 0))
 b2 : W.heap[w.heap.size + 1 + 1]? = some (.cells fieldsV 198 (0, 0))
 mem : Below w.heap.size w W
 sz : w.heap.size + 3 ≤ W.heap.size
theorem BareS.cell {w W : World} {x : Cx} {k : Nat} (h : BareS w x k W) (j : Nat) : W.cell? ⟨w.heap.size, j, none⟩ = (callCells (bareTo x k))[j]? := by
 simp [World.cell?, h.b0]
def gDrop (k : Nat) : FuncId := [149, 154, 157, 161, 164, 169].getD k 0
def gPut (k : Nat) : FuncId := [150, 155, 158, 162, 165, 170].getD k 0
def gGet (k : Nat) : FuncId := [152, 156, 159, 163, 167, 171].getD k 0
theorem six {p : Nat → Prop} (h0 : p 0) (h1 : p 1) (h2 : p 2) (h3 : p 3) (h4 : p 4) (h5 : p 5) : ∀ k, k < 6 → p k
 | 0, _ => h0
 | 1, _ => h1
 | 2, _ => h2
 | 3, _ => h3
 | 4, _ => h4
 | 5, _ => h5
 | k + 6, h => by omega
theorem BareS.fcell {w W : World} {x : Cx} {k j : Nat} (h : BareS w x k W) (hj : j < 6) : W.cell? ⟨w.heap.size + 1 + 1, j * 4, none⟩ = some (.int .i64 (bitN j)) ∧ W.cell? ⟨w.heap.size + 1 + 1, j * 4 + 1, none⟩ = some (.func (.func (gDrop j)) #[] #[]) ∧ W.cell? ⟨w.heap.size + 1 + 1, j * 4 + 2, none⟩ = some (.func (.func (gPut j)) #[] #[]) ∧ W.cell? ⟨w.heap.size + 1 + 1, j * 4 + 3, none⟩ = some (.func (.func (gGet j)) #[] #[]) := by
 simp only [World.cell?, h.b2]
 match j, hj with
 | 0, _ => exact ⟨rfl, rfl, rfl, rfl⟩
 | 1, _ => exact ⟨rfl, rfl, rfl, rfl⟩
 | 2, _ => exact ⟨rfl, rfl, rfl, rfl⟩
 | 3, _ => exact ⟨rfl, rfl, rfl, rfl⟩
 | 4, _ => exact ⟨rfl, rfl, rfl, rfl⟩
 | 5, _ => exact ⟨rfl, rfl, rfl, rfl⟩
 | j + 6, h => omega
def zeroF (k : Nat) : Value := [Value.string ⟨#[]⟩, .string ⟨#[]⟩, .int .i64 0, .int .i64 0, .int .u32 0, .string ⟨#[]⟩].getD k undef
theorem dropF_cells {k : Nat} (hk : k < 6) (y : Cx) : (callCells y).toArray.setIfInBounds (k + 1) (zeroF k) = (callCells (dropF k y)).toArray :=
 match k, hk with
 | 0, _ => rfl
 | 1, _ => rfl
 | 2, _ => rfl
 | 3, _ => rfl
 | 4, _ => rfl
 | 5, _ => rfl
 | k + 6, h => by omega
theorem BareS.step {w W : World} {x : Cx} {k : Nat} (h : BareS w x k W) (hk : k < 6) (b : Bool) (hb : hasB x.act k = b) (o : Obj) :
  BareS w x (k + 1) (if b = true then (W.alloc o).setCell ⟨w.heap.size, k + 1, none⟩ (zeroF k) else W.alloc o) := by
 have up : ∀ {j : Nat} {p : Obj}, W.heap[j]? = some p → (W.alloc o).heap[j]? = some p := fun {j p} hp => (Below.heap_alloc _ _ _ (Array.getElem?_eq_some_iff.1 hp).1).trans hp
 have hm : Below w.heap.size w (W.alloc o) := h.mem.alloc (by have := h.sz; omega) o
 cases b with
 | false =>
  rw [if_neg (by simp)]
  refine ⟨?_, up h.b1, up h.b2, hm, by have := h.sz; simp; omega⟩
  show _ = some (Obj.cells (callCells (if hasB x.act k = true then dropF k (bareTo x k) else bareTo x k)).toArray _ _)
  rw [if_neg (by rw [hb]; simp)]
  exact up h.b0
 | true =>
  rw [if_pos rfl]
  have far : ∀ j, j ≠ w.heap.size → ((W.alloc o).setCell ⟨w.heap.size, k + 1, none⟩ (zeroF k)).heap[j]? = (W.alloc o).heap[j]? := fun j hj => Below.heap_setCell _ _ _ j hj
  refine ⟨?_, (far _ (by omega)).trans (up h.b1), (far _ (by omega)).trans (up h.b2), hm.setCell (p := ⟨w.heap.size, k + 1, none⟩) (Nat.le_refl _) _, by have := h.sz; simp [World.setCell]; omega⟩
  show _ = some (Obj.cells (callCells (if hasB x.act k = true then dropF k (bareTo x k) else bareTo x k)).toArray _ _)
  rw [if_pos hb, ← dropF_cells hk]
  exact cset _ (up h.b0)
set_option maxRecDepth 100000 in
theorem t_drop (k : Nat) (hk : k < 6) (B : Nat) (W : World) (x : Cx) (h : W.heap[B]? = some (.cells (callCells x).toArray 31 (0, 0))) : Calls Tryz.prog (gDrop k) #[.pointer (some ⟨B, 0, none⟩)] W fun e W' => e = .returned (.tuple #[]) ∧ W' = W.setCell ⟨B, k + 1, none⟩ (zeroF k) := by
 have c1 : W.cell? ⟨B, 1, none⟩ = some (.string x.path) := by simp [World.cell?, h]
 have c2 : W.cell? ⟨B, 2, none⟩ = some (.string x.path2) := by simp [World.cell?, h]
 have c3 : W.cell? ⟨B, 3, none⟩ = some (.int .i64 x.fd) := by simp [World.cell?, h]
 have c4 : W.cell? ⟨B, 4, none⟩ = some (.int .i64 x.page) := by simp [World.cell?, h]
 have c5 : W.cell? ⟨B, 5, none⟩ = some (.int .u32 x.size) := by simp [World.cell?, h]
 have c6 : W.cell? ⟨B, 6, none⟩ = some (.string x.data) := by simp [World.cell?, h]
 have f1 : W.frozen? ⟨B, 1, none⟩ = false := by simp [World.frozen?, h]
 have f2 : W.frozen? ⟨B, 2, none⟩ = false := by simp [World.frozen?, h]
 have f3 : W.frozen? ⟨B, 3, none⟩ = false := by simp [World.frozen?, h]
 have f4 : W.frozen? ⟨B, 4, none⟩ = false := by simp [World.frozen?, h]
 have f5 : W.frozen? ⟨B, 5, none⟩ = false := by simp [World.frozen?, h]
 have f6 : W.frozen? ⟨B, 6, none⟩ = false := by simp [World.frozen?, h]
 clear h
 refine six (p := fun k => Calls Tryz.prog (gDrop k) #[.pointer (some ⟨B, 0, none⟩)] W fun e W' => e = .returned (.tuple #[]) ∧ W' = W.setCell ⟨B, k + 1, none⟩ (zeroF k)) ?_ ?_ ?_ ?_ ?_ ?_ k hk
 · show Calls Tryz.prog 149 _ W _
   go_enter Tryz.func149, Tryz.ntmps149
   go_wp2
   go_end0
   exact ⟨rfl, rfl⟩
 · show Calls Tryz.prog 154 _ W _
   go_enter Tryz.func154, Tryz.ntmps154
   go_wp2
   go_end0
   exact ⟨rfl, rfl⟩
 · show Calls Tryz.prog 157 _ W _
   go_enter Tryz.func157, Tryz.ntmps157
   go_wp2
   go_end0
   exact ⟨rfl, rfl⟩
 · show Calls Tryz.prog 161 _ W _
   go_enter Tryz.func161, Tryz.ntmps161
   go_wp2
   go_end0
   exact ⟨rfl, rfl⟩
 · show Calls Tryz.prog 164 _ W _
   go_enter Tryz.func164, Tryz.ntmps164
   go_wp2
   go_end0
   exact ⟨rfl, rfl⟩
 · show Calls Tryz.prog 169 _ W _
   go_enter Tryz.func169, Tryz.ntmps169
   go_wp2
   go_end0
   exact ⟨rfl, rfl⟩
set_option maxRecDepth 100000 in
set_option maxHeartbeats 2000000 in
theorem t_bare (x : Cx) (a : Nat) (hx : x.act = a) (ha : a ≤ 255) (w : World) (h : KindsAt w) : Calls Tryz.prog 68 #[callV x] w fun e w' => e = .returned (callV (bareTo x 6)) ∧ Below w.heap.size w w' := by
 obtain ⟨act, p1, p2, fd, pg, sz, dt⟩ := x
 cases hx
 have T1 := fun W (hW : KindsAt W) => t_of a ha W hW
 have hK := zz h
 have K1 := fun o p => (h.below (w' := w.alloc o) (Below.refl _ _ |>.alloc (Nat.le_refl _) o) h.pos).below (w' := (w.alloc o).alloc p) (Below.refl _ _ |>.alloc (Nat.le_refl _) p) (by simp)
 have HK1 := zz K1
 clear K1 h
 show Calls Tryz.prog 68 #[.agg #[.int .u8 (a : Int), .string p1, .string p2, .int .i64 fd, .int .i64 pg, .int .u32 sz, .string dt]] w _
 go_enter Tryz.func68, Tryz.ntmps68
 go_wp2_with (first
  | (go_at_call 67; (with_reducible refine (T1 _ (HK1.out _ _)).mono ?_); rintro e w1 ⟨rfl, rfl⟩)
  | (go_at_call 102; (with_reducible refine (t_fields _).mono ?_); rintro e w1 ⟨rfl, rfl⟩))
 obtain ⟨w0, hw0⟩ : ∃ w0, w0 = ((w.alloc (.cells #[.int .u8 (a : Int), .string p1, .string p2, .int .i64 fd, .int .i64 pg, .int .u32 sz, .string dt] 31)).alloc (.cells #[.int .u8 0, .string ⟨#[]⟩, .string ⟨#[]⟩, .int .i64 0, .int .i64 0, .int .u32 0, .string ⟨#[]⟩] 31)).alloc (.cells fieldsV 198) := ⟨_, rfl⟩
 have S0 : BareS w ⟨a, p1, p2, fd, pg, sz, dt⟩ 0 w0 := by
  rw [hw0]
  have z1 := World.alloc_heap_new w (.cells (callCells ⟨a, p1, p2, fd, pg, sz, dt⟩).toArray 31)
  have z2 := World.alloc_heap_new (w.alloc (.cells (callCells ⟨a, p1, p2, fd, pg, sz, dt⟩).toArray 31)) (.cells zeroC.toArray 31)
  have z3 := World.alloc_heap_new ((w.alloc (.cells (callCells ⟨a, p1, p2, fd, pg, sz, dt⟩).toArray 31)).alloc (.cells zeroC.toArray 31)) (.cells fieldsV 198)
  simp only [World.size_alloc] at z1 z2 z3
  exact ⟨heap_up _ (heap_up _ z1), heap_up _ z2, z3, (((Below.refl _ w).alloc (Nat.le_refl _) _).alloc (by simp) _).alloc (by simp; omega) _, by simp⟩
 rw [← hw0]
 clear hw0
 go_loopw [11] (fun i wr => ∃ k : Nat, k ≤ 6 ∧ i = .int .i64 k ∧ BareS w ⟨a, p1, p2, fd, pg, sz, dt⟩ k wr) (fun i _ => 7 - (intOf i).toNat)
 case atStart => exact ⟨0, Nat.zero_le _, rfl, S0⟩
 case round =>
  obtain ⟨k, hk, rfl, hS⟩ := hrel
  by_cases h6 : k = 6
  · subst h6
    have y0 := hS.cell 0
    have y1 := hS.cell 1
    have y2 := hS.cell 2
    have y3 := hS.cell 3
    have y4 := hS.cell 4
    have y5 := hS.cell 5
    have y6 := hS.cell 6
    simp only [callCells, List.getElem?_cons_succ, List.getElem?_cons_zero] at y0 y1 y2 y3 y4 y5 y6
    have c0 : wr.cell? ⟨w.heap.size + 1, 0, none⟩ = some (.int .u8 0) := by simp [World.cell?, hS.b1]
    have f0 : wr.frozen? ⟨w.heap.size + 1, 0, none⟩ = false := by simp [World.frozen?, hS.b1]
    have c1 : wr.cell? ⟨w.heap.size + 1, 1, none⟩ = some (.string ⟨#[]⟩) := by simp [World.cell?, hS.b1]
    have f1 : wr.frozen? ⟨w.heap.size + 1, 1, none⟩ = false := by simp [World.frozen?, hS.b1]
    have c2 : wr.cell? ⟨w.heap.size + 1, 2, none⟩ = some (.string ⟨#[]⟩) := by simp [World.cell?, hS.b1]
    have f2 : wr.frozen? ⟨w.heap.size + 1, 2, none⟩ = false := by simp [World.frozen?, hS.b1]
    have c3 : wr.cell? ⟨w.heap.size + 1, 3, none⟩ = some (.int .i64 0) := by simp [World.cell?, hS.b1]
    have f3 : wr.frozen? ⟨w.heap.size + 1, 3, none⟩ = false := by simp [World.frozen?, hS.b1]
    have c4 : wr.cell? ⟨w.heap.size + 1, 4, none⟩ = some (.int .i64 0) := by simp [World.cell?, hS.b1]
    have f4 : wr.frozen? ⟨w.heap.size + 1, 4, none⟩ = false := by simp [World.frozen?, hS.b1]
    have c5 : wr.cell? ⟨w.heap.size + 1, 5, none⟩ = some (.int .u32 0) := by simp [World.cell?, hS.b1]
    have f5 : wr.frozen? ⟨w.heap.size + 1, 5, none⟩ = false := by simp [World.frozen?, hS.b1]
    have c6 : wr.cell? ⟨w.heap.size + 1, 6, none⟩ = some (.string ⟨#[]⟩) := by simp [World.cell?, hS.b1]
    have f6 : wr.frozen? ⟨w.heap.size + 1, 6, none⟩ = false := by simp [World.frozen?, hS.b1]
    have HS := zz hS
    clear hS T1
    go_wp2
    have hS := HS.out
    obtain ⟨y, hy⟩ : ∃ y, bareTo ⟨a, p1, p2, fd, pg, sz, dt⟩ 6 = y := ⟨_, rfl⟩
    rw [hy]
    have e := cset (j := 6) (.string y.data) (cset (j := 5) (.int .u32 y.size) (cset (j := 4) (.int .i64 y.page) (cset (j := 3) (.int .i64 y.fd) (cset (j := 2) (.string y.path2) (cset (j := 1) (.string y.path) (cset (j := 0) (.int .u8 y.act) hS.b1))))))
    refine bodyPost_ret (results_cell_row rfl _ _ (w.heap.size + 1) 31 _ (0, 0) _ rfl e Tryz.underlying31 rfl (by kernel_rfl)) rfl ?_
    refine ⟨by rw [show (⟨Int.ofNat a, p1, p2, fd, pg, sz, dt⟩ : Cx) = ⟨a, p1, p2, fd, pg, sz, dt⟩ from rfl, hy]; rfl, ?_⟩
    have l : ∀ {A : World} (j : Nat) (v : Value), Below w.heap.size w A → Below w.heap.size w (A.setCell ⟨w.heap.size + 1, j, none⟩ v) := fun j v h => h.setCell (p := ⟨w.heap.size + 1, j, none⟩) (by show w.heap.size ≤ w.heap.size + 1; omega) v
    exact l _ _ (l _ _ (l _ _ (l _ _ (l _ _ (l _ _ (l _ _ hS.mem))))))
  · have hk6 : k < 6 := by omega
    obtain ⟨y0, y1, y2, y3⟩ := hS.fcell hk6
    obtain ⟨g, hg⟩ : ∃ g, gDrop k = g := ⟨_, rfl⟩
    have eg : ∀ args W, (callFunc g args).run Tryz.prog W = .ok (.enter g args) W := by
     rw [← hg]
     exact six (p := fun k => ∀ args W, (callFunc (gDrop k) args).run Tryz.prog W = .ok (.enter (gDrop k) args) W) (enters_of Tryz.func149 (by kernel_rfl) rfl) (enters_of Tryz.func154 (by kernel_rfl) rfl) (enters_of Tryz.func157 (by kernel_rfl) rfl) (enters_of Tryz.func161 (by kernel_rfl) rfl) (enters_of Tryz.func164 (by kernel_rfl) rfl) (enters_of Tryz.func169 (by kernel_rfl) rfl) k hk6
    rw [hg] at y1
    have HD := zz (t_drop k hk6 w.heap.size)
    rw [hg] at HD
    have HN := hS.step hk6 (hasB a k) rfl (.cells #[.int .i64 (bitN k), .func (.func g) #[] #[], .func (.func (gPut k)) #[] #[], .func (.func (gGet k)) #[] #[]] 198)
    have hbit := has_bit (a := a) (k := k) (by omega)
    have hb0 : (wr.alloc (.cells #[.int .i64 (bitN k), .func (.func g) #[] #[], .func (.func (gPut k)) #[] #[], .func (.func (gGet k)) #[] #[]] 198)).heap[w.heap.size]? = _ := (Below.heap_alloc _ _ _ (Array.getElem?_eq_some_iff.1 hS.b0).1).trans hS.b0
    have HC := zz (HD.out _ _ hb0)
    have HN := zz HN
    clear hS T1 hb0 HD
    cases hh : hasB a k with
    | false =>
     rw [hh] at HN hbit
     go_wp2
     go_roundw
     case rel => exact ⟨k + 1, by omega, by go_num, HN.out⟩
     case measure => simp [intOf]; omega
    | true =>
     rw [hh] at HN hbit
     go_wp2_with (go_at_fn g; go_loud (refine HC.out.mono ?_; rintro e W3 ⟨rfl, rfl⟩))
     go_roundw
     case rel => exact ⟨k + 1, by omega, by go_num, HN.out⟩
     case measure => simp [intOf]; omega
end
end Go.Proofs.YtpcnolkdnmolgaaGreatDoor
