/- What is told of an inode, of both trees, walked. -/
import Derived.Test.YtogljgiefmfafaaGreatPb23
namespace Go.Proofs.YtogljgiefmfafaaGreat
section
open Go.RowKit Go.Maps
section
variable {k : Nat} {t : PT} {r : D.Tr} {w W : World} {P N P2 G2 : Nat} {i : Int}
theorem Mem.tree (h : Mem w W P N P2 G2 t r) : ∃ y F, TreeM W F P N y t := by
 obtain ⟨y, F, h1, _⟩ := h
 exact ⟨y, F, h1⟩
theorem Sim.list (h : Sim t r) (hw : WellP t) (i : Int) : D.listD r i = listE t i := by
 unfold D.listD listE
 rw [h.thereE1 hw]
 by_cases h1 : D.thereB r i = false
 · rw [if_pos h1, if_pos h1, firstE_ne (by decide)]
 · rw [if_neg h1, if_neg h1, firstE_eq rfl]
   obtain ⟨x, hx⟩ := h.some_ hw (by simpa using h1)
   rw [h.dirsE1 hx]
   split
   · rw [firstE_ne (by decide)]
   · rw [firstE_eq rfl]
     rfl
theorem Sim.read (h : Sim t r) (hw : WellP t) (i p : Int) : D.readD r i p = readR t i p := by
 unfold D.readD readR
 have hf := h.fileE1 hw i
 by_cases h1 : D.fileE r i ≠ 0
 · have e : firstE [thereE t [i], fileE' t i, pagedE p] = D.fileE r i := by
    rw [hf] at h1 ⊢
    by_cases z : thereE t [i] = 0
    · rw [firstE_eq z] at h1 ⊢
      rw [firstE_eq z]
      by_cases z2 : fileE' t i = 0
      · rw [firstE_eq z2] at h1
        exact absurd rfl h1
      · rw [firstE_ne z2, firstE_ne z2]
    · rw [firstE_ne z, firstE_ne z]
   rw [e, if_pos h1, if_neg h1]
 · rw [if_neg h1]
   obtain ⟨z, z2⟩ : thereE t [i] = 0 ∧ fileE' t i = 0 := by
    have h2 : firstE [thereE t [i], fileE' t i] = 0 := by rw [← hf]; omega
    obtain ⟨a, b⟩ := firstE_cons h2
    exact ⟨a, (firstE_cons b).1⟩
   obtain ⟨x, hx⟩ := Option.isSome_iff_exists.1 (there_one z)
   rw [firstE_eq z, firstE_eq z2]
   unfold pagedE
   by_cases h3 : p < 0 ∨ 36 ≤ p
   · rw [if_pos h3, if_pos h3, firstE_ne (by decide), if_neg (by decide)]
   · rw [if_neg h3, if_neg h3, firstE_eq rfl, if_pos (show firstE [] = 0 from rfl), hx]
     refine Prod.ext ?_ rfl
     show (D.ndAt r i).data.extract _ _ = (⟨(readL x p).toArray⟩ : ByteArray)
     have hr := (h.node i x hx).read (hw.pages i x hx) p.toNat (by omega)
     rw [show ((p.toNat : Nat) : Int) = p by omega] at hr
     rw [hr]
     refine Go.WideShapes.bytes_inj ?_
     rw [ba_extract]
     show _ = (((D.ndAt r i).data.data.toList.drop (p.toNat * 64)).take 64).toArray.toList
     have hl := ba_len (D.ndAt r i).data
     by_cases h5 : p.toNat * 64 ≤ (D.ndAt r i).data.size
     · rw [Nat.min_eq_left h5]
       by_cases h6 : p.toNat * 64 + 64 ≤ (D.ndAt r i).data.size
       · rw [Nat.min_eq_left h6, show p.toNat * 64 + 64 - p.toNat * 64 = 64 by omega]
       · rw [Nat.min_eq_right (by omega), List.take_of_length_le (by rw [List.length_drop, hl]; omega)]
         show _ = ((D.ndAt r i).data.data.toList.drop (p.toNat * 64)).take 64
         rw [List.take_of_length_le (by rw [List.length_drop, hl]; omega)]
     · rw [Nat.min_eq_right (by omega), Nat.min_eq_right (by omega), Nat.sub_self, List.take_zero]
       show _ = ((D.ndAt r i).data.data.toList.drop (p.toNat * 64)).take 64
       rw [List.drop_of_length_le (by rw [hl]; omega), List.take_nil]
theorem Sim.stat (h : Sim t r) (hw : WellP t) (hsl : D.Small r) (hd : (D.ndAt r i).data.size ≤ 100000) (hi : 0 ≤ i) (W : World) (hD : D.TreeAt W P2 G2 r) :
  Calls Tryz.prog 66 #[.pointer (some ⟨P2, 0, none⟩), .int .u32 i] W fun e w' => e = .returned (.tuple #[(statR t i).1, .int .i64 (statR t i).2]) ∧ Below W.heap.size W w' := by
 unfold statR
 cases hx : t.n i with
 | none => exact D.t_stat_no P2 G2 r i W hD hi (by rw [h.there hw, hx]; rfl)
 | some x =>
  have hn := h.node i x hx
  have h1 := D.t_stat_ok P2 G2 r i x.links W hD (by rw [h.there hw, hx]; rfl) (h.links hw hx) hsl hd
  rw [hn.kind, ← hn.size] at h1
  exact h1
theorem statR_form (i : Int) : ∃ a0 a1 a2 a3 e, statR t i = (.agg #[.int .u32 a0, .int .u8 a1, .int .i64 a2, .int .u32 a3], e) := by
 unfold statR
 cases t.n i with
 | none => exact ⟨0, 0, 0, 0, 3, rfl⟩
 | some x => exact ⟨i, x.kind, x.links, x.size, 0, rfl⟩
def entL (r : D.Tr) (i : Int) : List E := if D.listD r i = 0 then (D.ndAt r i).l.map eE else []
theorem Sim.entL (h : Sim t r) (hw : WellP t) (i : Int) : EntsOf (listL t i) (entL r i) := by
 unfold Proofs.YtogljgiefmfafaaGreat.entL listL
 rw [h.list hw]
 by_cases h0 : listE t i = 0
 · rw [if_pos h0, if_pos h0]
   unfold listE at h0
   obtain ⟨z, _⟩ := firstE_cons h0
   obtain ⟨x, hx⟩ := Option.isSome_iff_exists.1 (there_one z)
   rw [hx]
   exact (h.node i x hx).ents
 · rw [if_neg h0, if_neg h0]
   exact ents_nil
theorem t_listX (i : Int) (W : World) (h : Mem w W P N P2 G2 t r) (hp : Pl k t r) (hi : U32 i) (hN : N ≤ 60000) {n : Nat} (hn : (entL r i).length = n) :
  Calls Tryz.prog 37 #[.pointer (some ⟨P, 0, none⟩), .int .u32 i] W fun e w' => ∃ A c, e = .returned (.tuple #[.slice A n c, .int .i64 (listE t i)]) ∧ EntsAt w' A (entL r i) ∧ Below W.heap.size W w' := by
 obtain ⟨y, F, hT⟩ := h.tree
 refine (t_listP i W hT hi hN).mono ?_
 rintro e w' ⟨A, c, L, rfl, hL, _, ha, hb, _⟩
 obtain rfl := ents_unique hL (hp.sim.entL hp.well i)
 exact ⟨A, c, by rw [hn], ha, hb⟩
theorem t_listZ (i : Int) (W : World) (h : Mem w W P N P2 G2 t r) (hp : Pl k t r) (hk : k ≤ 100000) (hi : U32 i) {n : Nat} (hn : (entL r i).length = n) :
  Calls Tryz.prog 132 #[.pointer (some ⟨P2, 0, none⟩), .int .u32 i] W fun e w' => ∃ A c, e = .returned (.tuple #[.slice A n c, .int .i64 (listE t i)]) ∧ EntsAt w' A (entL r i) ∧ Below W.heap.size W w' := by
 refine (D.t_List P2 G2 r i W h.doc hi.1 (hp.small hk)).mono ?_
 rintro e w' ⟨A, c, l, rfl, hl, ha, hb⟩
 have he : l.map eE = entL r i := by
  unfold entL
  rw [hl]
  split <;> rfl
 have hln : l.length = n := by rw [← hn, ← he, List.length_map]
 refine ⟨A, c, by rw [hln, hp.sim.list hp.well], ⟨fun h0 => ?_⟩, hb⟩
 rw [← he, List.length_map] at h0
 obtain ⟨A', c', e1, _, _, hread⟩ := ha.get
 simp only [Value.slice.injEq] at e1
 obtain ⟨rfl, _, rfl⟩ := e1
 obtain ⟨b0, e2, c0, _⟩ := hread 0 _ (List.getElem?_eq_getElem h0)
 refine ⟨b0, e2, World.block_lt_of_cell? w' _ c0, fun j z hj => ?_⟩
 rw [← he, List.getElem?_map] at hj
 cases hlj : l[j]? with
 | none => rw [hlj] at hj; cases hj
 | some e =>
  rw [hlj] at hj
  obtain rfl := Option.some.inj hj
  obtain ⟨b1, e3, c1, c2⟩ := hread j e hlj
  rw [e2] at e3
  obtain rfl : b0 = b1 := by simpa using e3
  exact ⟨c1, c2⟩
theorem st_below {W W2 : World} {B : Nat} {o : Obj} (h : W.heap[B]? = some o) (hb : Below W.heap.size W W2) : W2.heap[B]? = some o := (hb.block B (Array.getElem?_eq_some_iff.1 h).1).trans h
theorem t_sameX (A1 A2 : Option Addr) (c1 c2 : Nat) (L : List E) (w : World) (h1 : EntsAt w A1 L) (h2 : EntsAt w A2 L) {n : Nat} (hn : L.length = n) (hn2 : n ≤ 1000) :
  Calls Tryz.prog 38 #[.slice A1 n c1, .slice A2 n c2] w fun e w' => e = .returned (.bool true) ∧ Below w.heap.size w w' := by
 subst hn
 refine (r_same A1 A2 c1 c2 L w h1 h2 (by omega)).mono ?_
 rintro e w' ⟨rfl, m, rfl⟩
 exact ⟨rfl, rfl, rfl, rfl, Nat.le_refl _, fun _ _ => rfl⟩
theorem Sim.heldR (h : Sim t r) (hw : WellP t) (i : Int) : heldR t i = if D.thereB r i = true then (D.ndAt r i).held else 0 := by
 unfold Proofs.YtogljgiefmfafaaGreat.heldR
 rw [h.there hw]
 cases hx : t.n i with
 | none => rfl
 | some x =>
  rw [if_pos (show (some x).isSome = true from rfl)]
  exact (h.node i x hx).held.symm
set_option maxRecDepth 100000 in
set_option maxHeartbeats 16000000 in
theorem t_one (i page : Int) (name : ByteArray) (W : World) (h : Mem w W P N P2 G2 t r) (hp : Pl k t r) (hk : k ≤ 1000) (hN : N ≤ 60000) (hi : U32 i) (hs : name.size ≤ maxLen) :
  Calls Tryz.prog 70 #[.pointer (some ⟨P, 0, none⟩), .pointer (some ⟨P2, 0, none⟩), .int .u32 i, .int .i64 page, .string name] W fun e w' => e = .returned (.bool true) ∧ Below W.heap.size W w' := by
 obtain ⟨a0, a1, a2, a3, e1, hst⟩ := statR_form (t := t) i
 obtain ⟨n, hn⟩ : ∃ n, (entL r i).length = n := ⟨_, rfl⟩
 have hn2 : n ≤ 1000 := by
  rw [← hn]
  unfold entL
  split
  · rw [List.length_map]
    exact Nat.le_trans (hp.wr.at_small i) hk
  · exact Nat.zero_le _
 obtain ⟨e2, he2⟩ : ∃ e2, listE t i = e2 := ⟨_, rfl⟩
 obtain ⟨⟨b, e3⟩, hrd⟩ : ∃ q, readR t i page = q := ⟨_, rfl⟩
 obtain ⟨⟨v, e4⟩, hlk⟩ : ∃ q, lookP t i name = q := ⟨_, rfl⟩
 obtain ⟨hd, hhd⟩ : ∃ hd, Proofs.YtogljgiefmfafaaGreat.heldR t i = hd := ⟨_, rfl⟩
 have C1 : Hid (∀ W2, Mem w W2 P N P2 G2 t r → Calls Tryz.prog 19 #[.pointer (some ⟨P, 0, none⟩), .int .u32 i] W2 fun e w' => e = .returned (.tuple #[.agg #[.int .u32 a0, .int .u8 a1, .int .i64 a2, .int .u32 a3], .int .i64 e1]) ∧ Below W2.heap.size W2 w') := fun W2 hM => by
  obtain ⟨y, F, hT⟩ := hM.tree
  have := t_statP i W2 hT hi
  rw [hst] at this
  exact this
 have C2 : Hid (∀ W2, Mem w W2 P N P2 G2 t r → Calls Tryz.prog 66 #[.pointer (some ⟨P2, 0, none⟩), .int .u32 i] W2 fun e w' => e = .returned (.tuple #[.agg #[.int .u32 a0, .int .u8 a1, .int .i64 a2, .int .u32 a3], .int .i64 e1]) ∧ Below W2.heap.size W2 w') := fun W2 hM => by
  have := hp.sim.stat hp.well (hp.small (by omega)) (hp.wr.at_data i) hi.1 W2 hM.doc
  rw [hst] at this
  exact this
 have C3 : Hid (∀ W2, Mem w W2 P N P2 G2 t r → Calls Tryz.prog 37 #[.pointer (some ⟨P, 0, none⟩), .int .u32 i] W2 fun e w' => ∃ A c, e = .returned (.tuple #[.slice A n c, .int .i64 e2]) ∧ EntsAt w' A (entL r i) ∧ Below W2.heap.size W2 w') := fun W2 hM => by
  have := t_listX i W2 hM hp hi hN hn
  rw [he2] at this
  exact this
 have C4 : Hid (∀ W2, Mem w W2 P N P2 G2 t r → Calls Tryz.prog 132 #[.pointer (some ⟨P2, 0, none⟩), .int .u32 i] W2 fun e w' => ∃ A c, e = .returned (.tuple #[.slice A n c, .int .i64 e2]) ∧ EntsAt w' A (entL r i) ∧ Below W2.heap.size W2 w') := fun W2 hM => by
  have := t_listZ i W2 hM hp (by omega) hi hn
  rw [he2] at this
  exact this
 have C5 : Hid (∀ W2, Mem w W2 P N P2 G2 t r → Calls Tryz.prog 20 #[.pointer (some ⟨P, 0, none⟩), .int .u32 i, .int .i64 page] W2 fun e w' => e = .returned (.tuple #[.string b, .int .i64 e3]) ∧ Below W2.heap.size W2 w') := fun W2 hM => by
  obtain ⟨y, F, hT⟩ := hM.tree
  have := t_readP i page W2 hT hi (fun x hx => hp.well.pages i x hx)
  rw [hrd] at this
  exact this
 have C6 : Hid (∀ W2, Mem w W2 P N P2 G2 t r → Calls Tryz.prog 71 #[.pointer (some ⟨P2, 0, none⟩), .int .u32 i, .int .i64 page] W2 fun e w' => e = .returned (.tuple #[.string b, .int .i64 e3]) ∧ Below W2.heap.size W2 w') := fun W2 hM =>
  D.t_Read P2 G2 r i page W2 hM.doc hi.1 (hp.wr.at_data i) b e3 (by rw [hp.sim.read hp.well, hrd])
 have C7 : Hid (∀ W2, Mem w W2 P N P2 G2 t r → Calls Tryz.prog 133 #[.pointer (some ⟨P, 0, none⟩), .int .u32 i, .string name] W2 fun e w' => e = .returned (.tuple #[.int .u32 v, .int .i64 e4]) ∧ Below W2.heap.size W2 w') := fun W2 hM => by
  obtain ⟨y, F, hT⟩ := hM.tree
  exact t_look i name v e4 hlk W2 hT hi hs
 have C8 : Hid (∀ W2, Mem w W2 P N P2 G2 t r → Calls Tryz.prog 118 #[.pointer (some ⟨P2, 0, none⟩), .int .u32 i, .string name] W2 fun e w' => e = .returned (.tuple #[.int .u32 v, .int .i64 e4]) ∧ W2 = w') := fun W2 hM =>
  D.t_look P2 G2 r i name v e4 (by rw [hp.sim.look hp.well, hlk]) W2 hM.doc hi.1 hs
 have C9 : Hid (∀ W2, Mem w W2 P N P2 G2 t r → Calls Tryz.prog 39 #[.pointer (some ⟨P, 0, none⟩), .int .u32 i] W2 fun e w' => e = .returned (.int .i64 hd) ∧ W2 = w') := fun W2 hM => by
  obtain ⟨y, F, hT⟩ := hM.tree
  have := t_heldP i W2 hT hi
  rw [hhd] at this
  exact this
 have hhr := hp.sim.heldR hp.well i
 rw [hhd] at hhr
 have HHR := zz hhr
 clear hhr
 have HL : Hid ((entL r i).length = n) := hn
 have HM := zz h
 have HB := zz (Below.refl W.heap.size W)
 have hi0 := hi.1
 have HN2 := zz hn2
 have h4096 := h.doc.small
 clear hst hn he2 hrd hlk hhd hp h hk hN hn2 hi
 cases ht : D.thereB r i with
 | false =>
  have HT := zz ht
  have hd0 : Hid (hd = 0) := by show _ = _; rw [HHR.out, ht]; rfl
  obtain rfl := hd0.out
  clear ht
  go_enter Tryz.func70, Tryz.ntmps70
  go_wp2_with (first
   | (go_at_call 19; (with_reducible refine (C1.out _ HM.out).mono ?_); rintro e w1 ⟨rfl, hb⟩; replace HM := zz (HM.out.below hb); replace HB := zz (HB.out.trans (hb.mono HB.out.size)); replace HM := zz (HM.out.below (u_alloc1 _ (.cells #[.int .u32 a0, .int .u8 a1, .int .i64 a2, .int .u32 a3] 39))); replace HB := zz (HB.out.trans ((u_alloc1 _ (.cells #[.int .u32 a0, .int .u8 a1, .int .i64 a2, .int .u32 a3] 39)).mono HB.out.size)); have HS1 : Hid ((w1.alloc (.cells #[.int .u32 a0, .int .u8 a1, .int .i64 a2, .int .u32 a3] 39)).heap[w1.heap.size]? = some (.cells #[.int .u32 a0, .int .u8 a1, .int .i64 a2, .int .u32 a3] 39 (0, 0))) := World.alloc_heap_new _ _; clear hb)
   | (go_at_call 66; (with_reducible refine (C2.out _ HM.out).mono ?_); rintro e w2 ⟨rfl, hb⟩; replace HM := zz (HM.out.below hb); replace HB := zz (HB.out.trans (hb.mono HB.out.size)); replace HS1 := zz (st_below (st_below HS1.out hb) (u_alloc1 w2 (.cells #[.int .u32 a0, .int .u8 a1, .int .i64 a2, .int .u32 a3] 39))); replace HM := zz (HM.out.below (u_alloc1 _ (.cells #[.int .u32 a0, .int .u8 a1, .int .i64 a2, .int .u32 a3] 39))); replace HB := zz (HB.out.trans ((u_alloc1 _ (.cells #[.int .u32 a0, .int .u8 a1, .int .i64 a2, .int .u32 a3] 39)).mono HB.out.size)); have HS2 : Hid ((w2.alloc (.cells #[.int .u32 a0, .int .u8 a1, .int .i64 a2, .int .u32 a3] 39)).heap[w2.heap.size]? = some (.cells #[.int .u32 a0, .int .u8 a1, .int .i64 a2, .int .u32 a3] 39 (0, 0))) := World.alloc_heap_new _ _; clear hb)
   | (go_at_call 37; (with_reducible refine (C3.out _ HM.out).mono ?_); rintro e w3 ⟨A1, c1, rfl, ha, hb⟩; have HA1 := zz ha; replace HS1 := zz (st_below HS1.out hb); replace HS2 := zz (st_below HS2.out hb); replace HM := zz (HM.out.below hb); replace HB := zz (HB.out.trans (hb.mono HB.out.size)); clear ha hb)
   | (go_at_call 132; (with_reducible refine (C4.out _ HM.out).mono ?_); rintro e w4 ⟨A2, c2, rfl, ha, hb⟩; have HA2 := zz ha; replace HA1 := zz (HA1.out.below hb); replace HS1 := zz (st_below HS1.out hb); replace HS2 := zz (st_below HS2.out hb); replace HM := zz (HM.out.below hb); replace HB := zz (HB.out.trans (hb.mono HB.out.size)); clear ha hb)
   | (go_at_call 20; (with_reducible refine (C5.out _ HM.out).mono ?_); rintro e w5 ⟨rfl, hb⟩; replace HA1 := zz (HA1.out.below hb); replace HA2 := zz (HA2.out.below hb); replace HS1 := zz (st_below HS1.out hb); replace HS2 := zz (st_below HS2.out hb); replace HM := zz (HM.out.below hb); replace HB := zz (HB.out.trans (hb.mono HB.out.size)); clear hb)
   | (go_at_call 71; (with_reducible refine (C6.out _ HM.out).mono ?_); rintro e w5 ⟨rfl, hb⟩; replace HA1 := zz (HA1.out.below hb); replace HA2 := zz (HA2.out.below hb); replace HS1 := zz (st_below HS1.out hb); replace HS2 := zz (st_below HS2.out hb); replace HM := zz (HM.out.below hb); replace HB := zz (HB.out.trans (hb.mono HB.out.size)); clear hb)
   | (go_at_call 133; (with_reducible refine (C7.out _ HM.out).mono ?_); rintro e w5 ⟨rfl, hb⟩; replace HA1 := zz (HA1.out.below hb); replace HA2 := zz (HA2.out.below hb); replace HS1 := zz (st_below HS1.out hb); replace HS2 := zz (st_below HS2.out hb); replace HM := zz (HM.out.below hb); replace HB := zz (HB.out.trans (hb.mono HB.out.size)); clear hb)
   | (go_at_call 118; (with_reducible refine (C8.out _ HM.out).mono ?_); rintro e w6 ⟨rfl, rfl⟩)
   | (go_at_call 113; (with_reducible refine (D.t_there P2 G2 r i _ HT.out _ HM.out.doc hi0).mono ?_); rintro e w7 ⟨rfl, rfl⟩; have s10 := cell_of (j := 0) (v := .int .u32 a0) HS1.out rfl; have s11 := cell_of (j := 1) (v := .int .u8 a1) HS1.out rfl; have s12 := cell_of (j := 2) (v := .int .i64 a2) HS1.out rfl; have s13 := cell_of (j := 3) (v := .int .u32 a3) HS1.out rfl; have s20 := cell_of (j := 0) (v := .int .u32 a0) HS2.out rfl; have s21 := cell_of (j := 1) (v := .int .u8 a1) HS2.out rfl; have s22 := cell_of (j := 2) (v := .int .i64 a2) HS2.out rfl; have s23 := cell_of (j := 3) (v := .int .u32 a3) HS2.out rfl; )
   | (go_at_call 38; (with_reducible refine (t_sameX A1 A2 c1 c2 (entL r i) _ HA1.out HA2.out HL.out HN2.out).mono ?_); rintro e w8 ⟨rfl, hb⟩; replace HM := zz (HM.out.below hb); replace HB := zz (HB.out.trans (hb.mono HB.out.size)); clear hb)
   | (go_at_call 39; (with_reducible refine (C9.out _ HM.out).mono ?_); rintro e w9 ⟨rfl, rfl⟩))
  go_ret
  exact ⟨rfl, HB.out⟩
 | true =>
  have HT := zz ht
  have hdh : Hid (hd = (D.ndAt r i).held) := by show _ = _; rw [HHR.out, ht]; rfl
  obtain rfl := hdh.out
  obtain ⟨b1, b2, _⟩ := D.thereB_bounds ht
  have hsm := h4096
  clear ht
  go_enter Tryz.func70, Tryz.ntmps70
  go_wp2_with (first
   | (go_at_call 19; (with_reducible refine (C1.out _ HM.out).mono ?_); rintro e w1 ⟨rfl, hb⟩; replace HM := zz (HM.out.below hb); replace HB := zz (HB.out.trans (hb.mono HB.out.size)); replace HM := zz (HM.out.below (u_alloc1 _ (.cells #[.int .u32 a0, .int .u8 a1, .int .i64 a2, .int .u32 a3] 39))); replace HB := zz (HB.out.trans ((u_alloc1 _ (.cells #[.int .u32 a0, .int .u8 a1, .int .i64 a2, .int .u32 a3] 39)).mono HB.out.size)); have HS1 : Hid ((w1.alloc (.cells #[.int .u32 a0, .int .u8 a1, .int .i64 a2, .int .u32 a3] 39)).heap[w1.heap.size]? = some (.cells #[.int .u32 a0, .int .u8 a1, .int .i64 a2, .int .u32 a3] 39 (0, 0))) := World.alloc_heap_new _ _; clear hb)
   | (go_at_call 66; (with_reducible refine (C2.out _ HM.out).mono ?_); rintro e w2 ⟨rfl, hb⟩; replace HM := zz (HM.out.below hb); replace HB := zz (HB.out.trans (hb.mono HB.out.size)); replace HS1 := zz (st_below (st_below HS1.out hb) (u_alloc1 w2 (.cells #[.int .u32 a0, .int .u8 a1, .int .i64 a2, .int .u32 a3] 39))); replace HM := zz (HM.out.below (u_alloc1 _ (.cells #[.int .u32 a0, .int .u8 a1, .int .i64 a2, .int .u32 a3] 39))); replace HB := zz (HB.out.trans ((u_alloc1 _ (.cells #[.int .u32 a0, .int .u8 a1, .int .i64 a2, .int .u32 a3] 39)).mono HB.out.size)); have HS2 : Hid ((w2.alloc (.cells #[.int .u32 a0, .int .u8 a1, .int .i64 a2, .int .u32 a3] 39)).heap[w2.heap.size]? = some (.cells #[.int .u32 a0, .int .u8 a1, .int .i64 a2, .int .u32 a3] 39 (0, 0))) := World.alloc_heap_new _ _; clear hb)
   | (go_at_call 37; (with_reducible refine (C3.out _ HM.out).mono ?_); rintro e w3 ⟨A1, c1, rfl, ha, hb⟩; have HA1 := zz ha; replace HS1 := zz (st_below HS1.out hb); replace HS2 := zz (st_below HS2.out hb); replace HM := zz (HM.out.below hb); replace HB := zz (HB.out.trans (hb.mono HB.out.size)); clear ha hb)
   | (go_at_call 132; (with_reducible refine (C4.out _ HM.out).mono ?_); rintro e w4 ⟨A2, c2, rfl, ha, hb⟩; have HA2 := zz ha; replace HA1 := zz (HA1.out.below hb); replace HS1 := zz (st_below HS1.out hb); replace HS2 := zz (st_below HS2.out hb); replace HM := zz (HM.out.below hb); replace HB := zz (HB.out.trans (hb.mono HB.out.size)); clear ha hb)
   | (go_at_call 20; (with_reducible refine (C5.out _ HM.out).mono ?_); rintro e w5 ⟨rfl, hb⟩; replace HA1 := zz (HA1.out.below hb); replace HA2 := zz (HA2.out.below hb); replace HS1 := zz (st_below HS1.out hb); replace HS2 := zz (st_below HS2.out hb); replace HM := zz (HM.out.below hb); replace HB := zz (HB.out.trans (hb.mono HB.out.size)); clear hb)
   | (go_at_call 71; (with_reducible refine (C6.out _ HM.out).mono ?_); rintro e w5 ⟨rfl, hb⟩; replace HA1 := zz (HA1.out.below hb); replace HA2 := zz (HA2.out.below hb); replace HS1 := zz (st_below HS1.out hb); replace HS2 := zz (st_below HS2.out hb); replace HM := zz (HM.out.below hb); replace HB := zz (HB.out.trans (hb.mono HB.out.size)); clear hb)
   | (go_at_call 133; (with_reducible refine (C7.out _ HM.out).mono ?_); rintro e w5 ⟨rfl, hb⟩; replace HA1 := zz (HA1.out.below hb); replace HA2 := zz (HA2.out.below hb); replace HS1 := zz (st_below HS1.out hb); replace HS2 := zz (st_below HS2.out hb); replace HM := zz (HM.out.below hb); replace HB := zz (HB.out.trans (hb.mono HB.out.size)); clear hb)
   | (go_at_call 118; (with_reducible refine (C8.out _ HM.out).mono ?_); rintro e w6 ⟨rfl, rfl⟩)
   | (go_at_call 113; (with_reducible refine (D.t_there P2 G2 r i _ HT.out _ HM.out.doc hi0).mono ?_); rintro e w7 ⟨rfl, rfl⟩; have s10 := cell_of (j := 0) (v := .int .u32 a0) HS1.out rfl; have s11 := cell_of (j := 1) (v := .int .u8 a1) HS1.out rfl; have s12 := cell_of (j := 2) (v := .int .i64 a2) HS1.out rfl; have s13 := cell_of (j := 3) (v := .int .u32 a3) HS1.out rfl; have s20 := cell_of (j := 0) (v := .int .u32 a0) HS2.out rfl; have s21 := cell_of (j := 1) (v := .int .u8 a1) HS2.out rfl; have s22 := cell_of (j := 2) (v := .int .i64 a2) HS2.out rfl; have s23 := cell_of (j := 3) (v := .int .u32 a3) HS2.out rfl; obtain ⟨c9, k1, k2, kc⟩ := HM.out.doc.cell0; obtain ⟨_, _, _, g3⟩ := HM.out.doc.get (HM.out.doc.idx b1 b2); unfold maxLen at k2; replace g3 := (show _ = some (Value.int .i64 (D.ndAt r i).held) from g3);)
   | (go_at_call 38; (with_reducible refine (t_sameX A1 A2 c1 c2 (entL r i) _ HA1.out HA2.out HL.out HN2.out).mono ?_); rintro e w8 ⟨rfl, hb⟩; replace HM := zz (HM.out.below hb); replace HB := zz (HB.out.trans (hb.mono HB.out.size)); clear hb)
   | (go_at_call 39; (with_reducible refine (C9.out _ HM.out).mono ?_); rintro e w9 ⟨rfl, rfl⟩))
  go_ret
  exact ⟨rfl, HB.out⟩
end
end
end Go.Proofs.YtogljgiefmfafaaGreat
