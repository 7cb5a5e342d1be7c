/- call.Check. -/
import Derived.Test.YtpcnolkdnmolgaaGreatDoorPh14
import Derived.Test.YtpcnolkdnmolgaaGreatDoorPh15
namespace Go.Proofs.YtpcnolkdnmolgaaGreatDoor
section
open Go.RowKit Go.Maps
theorem cell_ltM {w : World} {b j : Nat} {v : Value} (h : w.cell? ⟨b, j, none⟩ = some v) : b < w.heap.size := by
 rcases Nat.lt_or_ge b w.heap.size with hh | hh
 · exact hh
 · rw [show w.cell? ⟨b, j, none⟩ = none by simp only [World.cell?, Array.getElem?_eq_none hh]] at h
   cases h
def AtP (hb nb r0 : Bool) (s : ByteArray) (Br : Nat) (w : World) (e : Ending) (W' : World) : Prop :=
 e = .returned (.int .i64 (pathE hb s)) ∧ W'.heap[Br]? = some (.cells #[.bool (r0 || (hb && nb && ((splitE s).1.length == 0)))] 4 (0, 0)) ∧ w.grownBy W' (some Br)
set_option maxRecDepth 100000 in
set_option maxHeartbeats 1000000 in
theorem t_at (hb nb r0 : Bool) (bit named hasv : Int) (h1 : (bits BinOp.and IntKind.i64 hasv bit == 0) = !hb) (h2 : (bits BinOp.and IntKind.i64 hasv named != 0) = nb) (Bh Br : Nat) (s : ByteArray) (w : World) (hs : s.size ≤ maxLen)
  (hh : w.cell? ⟨Bh, 0, none⟩ = some (.int .i64 hasv)) (hr : w.heap[Br]? = some (.cells #[.bool r0] 4 (0, 0))) :
  Calls Tryz.prog 69 #[.string s, .int .i64 bit, .int .i64 named, .pointer (some ⟨Bh, 0, none⟩), .pointer (some ⟨Br, 0, none⟩)] w (AtP hb nb r0 s Br w) := by
 have hrc : w.cell? ⟨Br, 0, none⟩ = some (.bool r0) := by simp [World.cell?, hr]
 cases hb with
 | false =>
  have HF : Hid (AtP false nb r0 s Br w (.returned (.int .i64 0)) w) := ⟨rfl, by rw [hr]; simp, ⟨rfl, rfl, rfl, Nat.le_refl _, fun _ _ _ => rfl⟩⟩
  clear hr h2
  simp only [Bool.not_false] at h1
  go_enter Tryz.func69, Tryz.ntmps69
  go_wp2
  go_ret
  exact HF.out
 | true =>
  simp only [Bool.not_true] at h1
  have T := t_splitA s w hs
  obtain ⟨⟨l, r⟩, hl⟩ : ∃ q, splitE s = q := ⟨_, rfl⟩
  obtain ⟨n, hn⟩ : ∃ n, l.length = n := ⟨_, rfl⟩
  obtain ⟨z, hz⟩ : ∃ z, (n == 0) = z := ⟨_, rfl⟩
  have hz' : ((n : Int) == 0) = z := by rw [← hz]; cases n <;> rfl
  have HT : Hid (Calls Tryz.prog 70 #[.string s] w fun e W' => ∃ A c, e = .returned (.tuple #[.slice A n c, .int .i64 r]) ∧ Hid (Below w.heap.size w W')) := T.mono fun e W' h => by
   obtain ⟨v, he, hb, ho⟩ := h.get
   rw [hl] at he ho
   obtain ⟨A, c, hv, hst, hc⟩ := strs_of_own ho rfl
   rw [hv, hn] at he
   exact ⟨A, c, he, hb⟩
  have HF : Hid (∀ W1, Below w.heap.size w W1 → AtP true nb r0 s Br w (.returned (.int .i64 r)) (W1.setCell ⟨Br, 0, none⟩ (.bool (r0 || (nb && z))))) := fun W1 hb => by
   have hlt := (Array.getElem?_eq_some_iff.1 hr).1
   refine ⟨by unfold pathE; rw [hl]; rfl, ?_, ?_⟩
   · rw [hl]
     simp only [hn, hz, Bool.true_and]
     exact oheap_set _ _ _ _ _ ((hb.block _ hlt).trans hr)
   · exact (show w.grownBy W1 (some Br) from ⟨hb.os, hb.tape, hb.output, hb.size, fun b hbb _ => hb.block b hbb⟩).trans (grownBy_setCell' _ _ _)
  have HR := zz hr
  clear T hl hn hz hr hs
  go_enter Tryz.func69, Tryz.ntmps69
  go_wp2_with (go_at_call 70; refine HT.out.mono ?_; rintro e W1 ⟨A, c, rfl, hb⟩
               have lt := (Array.getElem?_eq_some_iff.1 HR.out).1
               have k0 : W1.cell? ⟨Br, 0, none⟩ = some (.bool r0) := (hb.out.cell (p := ⟨Br, 0, none⟩) lt).trans (by simp [World.cell?, HR.out])
               have k1 : W1.frozen? ⟨Br, 0, none⟩ = false := by simp [World.frozen?, (hb.out.block _ lt).trans HR.out]
               have k2 : W1.cell? ⟨Bh, 0, none⟩ = some (.int .i64 hasv) := (hb.out.cell (p := ⟨Bh, 0, none⟩) (cell_ltM hh)).trans hh
               have HN := zz (HF.out W1 hb.out))
  · rename_i g1
    subst g1
    go_ret
    exact HN.out
  · rename_i g1 g2
    have g1 : r0 = false := by simpa using g1
    subst g1
    subst g2
    go_ret
    exact HN.out
  · rename_i g1 g2
    have g1 : r0 = false := by simpa using g1
    have g2 : nb = false := by simpa using g2
    subst g1
    subst g2
    go_ret
    exact HN.out
theorem nest7 {α : Type} {p0 p1 p2 p3 p4 p5 p6 : Prop} [Decidable p0] [Decidable p1] [Decidable p2] [Decidable p3] [Decidable p4] [Decidable p5] [Decidable p6] (A B : α) :
  (if p0 then (if p1 then (if p2 then (if p3 then (if p4 then (if p5 then (if p6 then A else B) else B) else B) else B) else B) else B) else B) = if p0 ∧ p1 ∧ p2 ∧ p3 ∧ p4 ∧ p5 ∧ p6 then A else B := by
 by_cases h0 : p0 <;> by_cases h1 : p1 <;> by_cases h2 : p2 <;> by_cases h3 : p3 <;> by_cases h4 : p4 <;> by_cases h5 : p5 <;> by_cases h6 : p6 <;> simp [h0, h1, h2, h3, h4, h5, h6]
theorem bare_fields (x : Cx) : bareTo x 6 = ⟨x.act, if hasB x.act 0 = true then ByteArray.empty else x.path, if hasB x.act 1 = true then ByteArray.empty else x.path2, if hasB x.act 2 = true then 0 else x.fd, if hasB x.act 3 = true then 0 else x.page, if hasB x.act 4 = true then 0 else x.size, if hasB x.act 5 = true then ByteArray.empty else x.data⟩ := by
 simp only [bareTo]
 generalize hasB x.act 0 = b0
 generalize hasB x.act 1 = b1
 generalize hasB x.act 2 = b2
 generalize hasB x.act 3 = b3
 generalize hasB x.act 4 = b4
 generalize hasB x.act 5 = b5
 cases b0 <;> cases b1 <;> cases b2 <;> cases b3 <;> cases b4 <;> cases b5 <;> rfl
def fitC (x : Cx) : Bool := (hasB x.act 0 || x.path.size == 0) && (hasB x.act 1 || x.path2.size == 0) && (hasB x.act 2 || x.fd == 0) && (hasB x.act 3 || x.page == 0) && (hasB x.act 4 || x.size == 0) && (hasB x.act 5 || x.data.size == 0)
theorem toList_nil (s : ByteArray) : s.toList = [] ↔ (s.size == 0) = true := by
 rw [ByteArray.toList_eq]
 have : s.data.toList.length = s.size := by simp
 constructor
 · intro h
   rw [h] at this
   simp at this
   simp [← this]
 · intro h
   have h2 : s.data.toList.length = 0 := by rw [this]; simpa using h
   exact List.length_eq_zero_iff.1 h2
theorem bare_fit (x y : Cx) (hy : bareTo x 6 = y) : (y.act = x.act ∧ y.path.toList = [] ∧ y.path2.toList = [] ∧ y.fd = 0 ∧ y.page = 0 ∧ y.size = 0 ∧ y.data.toList = []) ↔ (!fitC x) = false := by
 rw [← hy, bare_fields]
 simp only [fitC, Bool.not_eq_false', Bool.and_eq_true, Bool.or_eq_true, toList_nil, true_and]
 have key : ∀ (b : Bool) (s : ByteArray), ((if b = true then ByteArray.empty else s).size == 0) = true ↔ (b = true ∨ (s.size == 0) = true) := by
  intro b s
  cases b <;> simp
 have keyI : ∀ (b : Bool) (i : Int), (if b = true then (0 : Int) else i) = 0 ↔ (b = true ∨ (i == 0) = true) := by
  intro b i
  cases b <;> simp
 rw [key, key, keyI, keyI, keyI, key]
 constructor
 · rintro ⟨h1, h2, h3, h4, h5, h6⟩; exact ⟨⟨⟨⟨⟨h1, h2⟩, h3⟩, h4⟩, h5⟩, h6⟩
 · rintro ⟨⟨⟨⟨⟨h1, h2⟩, h3⟩, h4⟩, h5⟩, h6⟩; exact ⟨h1, h2, h3, h4, h5, h6⟩
theorem two_blocks (w : World) (a b : Array Value) (T U : TypeId) : ∃ W, (w.alloc (.cells a T)).alloc (.cells b U) = W ∧ W.heap[w.heap.size]? = some (.cells a T (0, 0)) ∧ W.heap[w.heap.size + 1]? = some (.cells b U (0, 0)) ∧ W.heap.size = w.heap.size + 2 ∧ Below w.heap.size w W := by
 have z1 := World.alloc_heap_new w (.cells a T)
 have z2 := World.alloc_heap_new (w.alloc (.cells a T)) (.cells b U)
 simp only [World.size_alloc] at z2
 exact ⟨_, rfl, heap_up _ z1, z2, by simp, ((Below.refl _ w).alloc (Nat.le_refl _) _).alloc (by simp) _⟩
theorem has_bit0 {a k : Nat} (hk : k < 8) : (bits BinOp.and IntKind.i64 (hasN a) (bitN k) == 0) = !hasB a k := by
 rw [← has_bit hk]
 unfold bne
 rw [Bool.not_not]
def isS2 (B : Nat) (x y : Int) : Ph := fun v W => ∃ b, v = .slice (some ⟨b, 0, none⟩) 2 2 ∧ b ≠ B ∧ b < W.heap.size ∧ W.cell? ⟨b, 0, none⟩ = some (.int .i64 x) ∧ W.cell? ⟨b, 1, none⟩ = some (.int .i64 y)
theorem isS2.stay {B : Nat} {x y : Int} {v : Value} {W W' : World} (h : isS2 B x y v W) (hg : W.grownBy W' (some B)) : isS2 B x y v W' := by
 obtain ⟨b, h1, h2, h3, h4, h5⟩ := h
 have e := hg.block b h3 (fun e => h2 (by injection e))
 refine ⟨b, h1, h2, Nat.lt_of_lt_of_le h3 hg.size, ?_, ?_⟩
 · rw [← h4]; simp only [World.cell?, e]
 · rw [← h5]; simp only [World.cell?, e]
structure ChkJ (w : World) (x : Cx) (has : Int) (Br : Nat) (r : Nat → Bool) (n : Nat) (W : World) : Prop where
 hx : W.heap[w.heap.size]? = some (.cells (callCells x).toArray 31 (0, 0))
 hh : W.heap[w.heap.size + 1]? = some (.cells #[.int .i64 has] 3 (0, 0))
 hr : W.heap[Br]? = some (.cells #[.bool (r n)] 4 (0, 0))
 mem : Below w.heap.size w W
 hb : w.heap.size + 2 ≤ Br
theorem ChkJ.stay {w : World} {x : Cx} {has : Int} {Br : Nat} {r : Nat → Bool} {n : Nat} {W W' : World} (h : ChkJ w x has Br r n W) (hb : Below W.heap.size W W') : ChkJ w x has Br r n W' :=
 ⟨(hb.block _ (Array.getElem?_eq_some_iff.1 h.hx).1).trans h.hx, (hb.block _ (Array.getElem?_eq_some_iff.1 h.hh).1).trans h.hh, (hb.block _ (Array.getElem?_eq_some_iff.1 h.hr).1).trans h.hr, h.mem.trans (hb.mono h.mem.size), h.hb⟩
theorem ChkJ.turn {w : World} {x : Cx} {has : Int} {Br : Nat} {r : Nat → Bool} {n : Nat} {W W' : World} (h : ChkJ w x has Br r n W) (hg : W.grownBy W' (some Br)) (hr : W'.heap[Br]? = some (.cells #[.bool (r (n + 1))] 4 (0, 0))) : ChkJ w x has Br r (n + 1) W' := by
 have hb := h.hb
 have far : ∀ b, b < W.heap.size → b ≠ Br → W'.heap[b]? = W.heap[b]? := fun b h1 h2 => hg.block b h1 (fun e => h2 (by injection e))
 exact ⟨(far _ (Array.getElem?_eq_some_iff.1 h.hx).1 (by omega)).trans h.hx, (far _ (Array.getElem?_eq_some_iff.1 h.hh).1 (by omega)).trans h.hh, hr,
  h.mem.trans ⟨hg.os, hg.tape, hg.output, hg.size, fun b hb2 => far b (Nat.lt_of_lt_of_le hb2 h.mem.size) (by omega)⟩, h.hb⟩
set_option maxRecDepth 100000 in
set_option maxHeartbeats 2000000 in
theorem t_callCheck1 (x : Cx) (a : Nat) (hx : x.act = a) (ha : a ≤ 255) (hp : x.path.size ≤ maxLen) (hp2 : x.path2.size ≤ maxLen) (w : World) (h : KindsAt w) (ha1 : 1 ≤ a) (ha2 : a ≤ 15) : Calls Tryz.prog 44 #[callV x] w fun e w' => e = .returned (.int .i64 (checkC x)) ∧ Below w.heap.size w w' := by
 obtain ⟨act, p1, p2, fd, pg, sz, dt⟩ := x
 have hx' : act = (a : Int) := hx
 clear hx
 subst hx'
 have T1 := fun W (hW : KindsAt W) => t_of a ha W hW
 have T2 := zz (fun W (hW : KindsAt W) => t_bare ⟨a, p1, p2, fd, pg, sz, dt⟩ a rfl ha W hW)
 obtain ⟨y, hy⟩ : ∃ y, bareTo ⟨a, p1, p2, fd, pg, sz, dt⟩ 6 = y := ⟨_, rfl⟩
 rw [hy] at T2
 obtain ⟨ne, hne⟩ : ∃ ne, (!fitC ⟨a, p1, p2, fd, pg, sz, dt⟩) = ne := ⟨_, rfl⟩
 have hfit := bare_fit ⟨a, p1, p2, fd, pg, sz, dt⟩ y hy
 rw [hne] at hfit
 dsimp only at hfit
 obtain ⟨yact, yp1, yp2, yfd, ypg, ysz, ydt⟩ := y
 have HK := zz (fun W (hb : Below w.heap.size w W) => h.below hb h.pos)
 show Calls Tryz.prog 44 #[.agg #[.int .u8 (a : Int), .string p1, .string p2, .int .i64 fd, .int .i64 pg, .int .u32 sz, .string dt]] w _
 go_enter Tryz.func44, Tryz.ntmps44
 go_wp2_with (first
  | (go_at_call 67; go_loud (refine (T1 _ (HK.out _ (by first | exact (Below.refl _ _).alloc (Nat.le_refl _) _ | exact ((Below.refl _ _).alloc (Nat.le_refl _) _).alloc (by simp) _))).mono ?_; rintro e w1 ⟨rfl, rfl⟩)))
 obtain ⟨W1, hW1, hX, hH, hsz, hB1⟩ := two_blocks w #[.int .u8 (a : Int), .string p1, .string p2, .int .i64 fd, .int .i64 pg, .int .u32 sz, .string dt] #[.int .i64 (hasN a)] 31 3
 rw [hW1]
 have HXH := zz (show ∀ W, Below W1.heap.size W1 W → W.heap[w.heap.size + 1]? = some (.cells #[.int .i64 (hasN a)] 3 (0, 0)) from fun W hb => (hb.block _ (Array.getElem?_eq_some_iff.1 hH).1).trans hH)
 have HSZ := zz hsz
 have HX := zz (fun W (hb : Below W1.heap.size W1 W) => (hb.block _ (Array.getElem?_eq_some_iff.1 hX).1).trans hX)
 have HB1 := zz hB1
 have HNE := zz hne
 have HFIT := zz hfit
 clear hX hH hsz hB1 hW1 T1 h hne hfit hy
 refine wp_region_rel RelB (phi [isV (.pointer (some ⟨w.heap.size, 0, none⟩)), isV (.int .u8 (a : Int)), isV (.bool false), isV (.bool false), isV (.pointer (some ⟨w.heap.size, 0, none⟩)), isV (.int .u8 (a : Int)), isV (.bool false), isV (.bool false), isV (.bool false), isV (.agg #[.int .u8 (a : Int), .string p1, .string p2, .int .i64 fd, .int .i64 pg, .int .u32 sz, .string dt]), isV (.agg #[.int .u8 yact, .string yp1, .string yp2, .int .i64 yfd, .int .i64 ypg, .int .u32 ysz, .string ydt]), isV (.pointer (some ⟨w.heap.size, 0, none⟩)), isV (.int .u8 (a : Int)), isV (.agg #[.int .u8 (a : Int), .string ⟨#[]⟩, .string ⟨#[]⟩, .int .i64 0, .int .i64 0, .int .u32 0, .string ⟨#[]⟩]), isV (.bool ne), isV (.bool ne)]) (by kernel_rfl) (by kernel_rfl) (by kernel_rfl) (RelB.of (below_drew _)) (fun _ _ _ a b => a.trans b) ?_ ?_ ?_
 · refine stays_phiR ?_
   simp only [List.forall_mem_cons]
   exact ⟨kv, kv, kv, kv, kv, kv, kv, kv, kv, kv, kv, kv, kv, kv, kv, kv, fun _ h => absurd h (by simp)⟩
 · refine ⟨?_, ?_, ?_, ?_, ?_, ?_, ?_, ?_, ?_, ?_, ?_, ?_, ?_, ?_, ?_, ?_, trivial⟩
   · refine opR_mk rfl fun aa W2 hB hp hq K hK => ?_
     have e1 : aa.tmps[1]?.getD undef = .pointer (some ⟨w.heap.size, 0, none⟩) := hp 1 (by kernel_rfl)
     clear hp hq
     go_simp
     exact hK _ _ (RelB.refl _) rfl
   · refine opR_mk rfl fun aa W2 hB hp hq K hK => ?_
     have e11 : aa.tmps[11]?.getD undef = .pointer (some ⟨w.heap.size, 0, none⟩) := hq 0 _ (by kernel_rfl) rfl
     have hx2 := HX.out _ hB
     have c0 : W2.cell? ⟨w.heap.size, 0, none⟩ = some (.int .u8 (a : Int)) := by simp [World.cell?, hx2]
     clear hp hq
     go_simp
     exact hK _ _ (RelB.refl _) rfl
   · refine opR_mk rfl fun aa W2 hB hp hq K hK => ?_
     have e12 : aa.tmps[12]?.getD undef = .int .u8 (a : Int) := hq 1 _ (by kernel_rfl) rfl
     have hd : decide ((a : Int) < 1) = false := decide_eq_false (by omega)
     clear hp hq
     go_simp
     try rw [hd]
     exact hK _ _ (RelB.refl _) rfl
   · refine opR_mk rfl fun aa W2 hB hp hq K hK => ?_
     have e13 : aa.tmps[13]?.getD undef = .bool false := hq 2 _ (by kernel_rfl) rfl
     clear hp hq
     go_simp
     exact hK _ _ (RelB.refl _) rfl
   · refine opR_guard (j := 3) (d := 14) (c := false) rfl rfl (by kernel_rfl) rfl rfl (fun v W h => h) (fun _ => RelB.refl _) (fun hne => absurd rfl hne) fun hc aa W2 hB hp hq K hK => ?_
     have e1 : aa.tmps[1]?.getD undef = .pointer (some ⟨w.heap.size, 0, none⟩) := hp 1 (by kernel_rfl)
     clear hp hq
     go_simp
     exact hK _ _ (RelB.refl _) rfl
   · refine opR_guard (j := 3) (d := 14) (c := false) rfl rfl (by kernel_rfl) rfl rfl (fun v W h => h) (fun _ => RelB.refl _) (fun hne => absurd rfl hne) fun hc aa W2 hB hp hq K hK => ?_
     have e15 : aa.tmps[15]?.getD undef = .pointer (some ⟨w.heap.size, 0, none⟩) := hq 4 _ (by kernel_rfl) rfl
     have hx2 := HX.out _ hB
     have c0 : W2.cell? ⟨w.heap.size, 0, none⟩ = some (.int .u8 (a : Int)) := by simp [World.cell?, hx2]
     clear hp hq
     go_simp
     exact hK _ _ (RelB.refl _) rfl
   · refine opR_guard (j := 3) (d := 14) (c := false) rfl rfl (by kernel_rfl) rfl rfl (fun v W h => h) (fun _ => RelB.refl _) (fun hne => absurd rfl hne) fun hc aa W2 hB hp hq K hK => ?_
     have e16 : aa.tmps[16]?.getD undef = .int .u8 (a : Int) := hq 5 _ (by kernel_rfl) rfl
     have hd : decide ((15 : Int) < a) = false := decide_eq_false (by omega)
     clear hp hq
     go_simp
     try rw [hd]
     exact hK _ _ (RelB.refl _) rfl
   · refine opR_mk rfl fun aa W2 hB hp hq K hK => ?_
     have e14 : aa.tmps[14]?.getD undef = .bool false := hq 3 _ (by kernel_rfl) rfl
     have e17 : aa.tmps[17]?.getD undef = .bool false := hq 6 _ (by kernel_rfl) rfl
     clear hp hq
     go_simp
     exact hK _ _ (RelB.refl _) rfl
   · refine opR_mk rfl fun aa W2 hB hp hq K hK => ?_
     have e18 : aa.tmps[18]?.getD undef = .bool false := hq 7 _ (by kernel_rfl) rfl
     clear hp hq
     go_simp
     exact hK _ _ (RelB.refl _) rfl
   · refine opR_guard (j := 8) (d := 19) (c := false) rfl rfl (by kernel_rfl) rfl rfl (fun v W h => h) (fun _ => RelB.refl _) (fun hne => absurd rfl hne) fun hc aa W2 hB hp hq K hK => ?_
     have e1 : aa.tmps[1]?.getD undef = .pointer (some ⟨w.heap.size, 0, none⟩) := hp 1 (by kernel_rfl)
     have hx2 := HX.out _ hB
     have c0 : W2.cell? ⟨w.heap.size, 0, none⟩ = some (.int .u8 (a : Int)) := by simp [World.cell?, hx2]
     have c1 : W2.cell? ⟨w.heap.size, 1, none⟩ = some (.string p1) := by simp [World.cell?, hx2]
     have c2 : W2.cell? ⟨w.heap.size, 2, none⟩ = some (.string p2) := by simp [World.cell?, hx2]
     have c3 : W2.cell? ⟨w.heap.size, 3, none⟩ = some (.int .i64 fd) := by simp [World.cell?, hx2]
     have c4 : W2.cell? ⟨w.heap.size, 4, none⟩ = some (.int .i64 pg) := by simp [World.cell?, hx2]
     have c5 : W2.cell? ⟨w.heap.size, 5, none⟩ = some (.int .u32 sz) := by simp [World.cell?, hx2]
     have c6 : W2.cell? ⟨w.heap.size, 6, none⟩ = some (.string dt) := by simp [World.cell?, hx2]
     clear hp hq
     go_simp
     exact hK _ _ (RelB.refl _) rfl
   · refine opR_guard (j := 8) (d := 19) (c := false) rfl rfl (by kernel_rfl) rfl rfl (fun v W h => h) (fun _ => RelB.refl _) (fun hne => absurd rfl hne) fun hc aa W2 hB hp hq K hK => ?_
     have e20 : aa.tmps[20]?.getD undef = .agg #[.int .u8 (a : Int), .string p1, .string p2, .int .i64 fd, .int .i64 pg, .int .u32 sz, .string dt] := hq 9 _ (by kernel_rfl) rfl
     have hkw := HK.out _ (ptrans HB1.out hB)
     clear hp hq
     go_simp
     go_at_call 68
     (with_reducible refine (T2.out _ hkw).mono ?_)
     rintro e z8 ⟨rfl, hb8⟩
     exact hK _ _ (RelB.of hb8) rfl
   · refine opR_guard (j := 8) (d := 19) (c := false) rfl rfl (by kernel_rfl) rfl rfl (fun v W h => h) (fun _ => RelB.refl _) (fun hne => absurd rfl hne) fun hc aa W2 hB hp hq K hK => ?_
     have e1 : aa.tmps[1]?.getD undef = .pointer (some ⟨w.heap.size, 0, none⟩) := hp 1 (by kernel_rfl)
     clear hp hq
     go_simp
     exact hK _ _ (RelB.refl _) rfl
   · refine opR_guard (j := 8) (d := 19) (c := false) rfl rfl (by kernel_rfl) rfl rfl (fun v W h => h) (fun _ => RelB.refl _) (fun hne => absurd rfl hne) fun hc aa W2 hB hp hq K hK => ?_
     have e22 : aa.tmps[22]?.getD undef = .pointer (some ⟨w.heap.size, 0, none⟩) := hq 11 _ (by kernel_rfl) rfl
     have hx2 := HX.out _ hB
     have c0 : W2.cell? ⟨w.heap.size, 0, none⟩ = some (.int .u8 (a : Int)) := by simp [World.cell?, hx2]
     clear hp hq
     go_simp
     exact hK _ _ (RelB.refl _) rfl
   · refine opR_guard (j := 8) (d := 19) (c := false) rfl rfl (by kernel_rfl) rfl rfl (fun v W h => h) (fun _ => RelB.refl _) (fun hne => absurd rfl hne) fun hc aa W2 hB hp hq K hK => ?_
     have e23 : aa.tmps[23]?.getD undef = .int .u8 (a : Int) := hq 12 _ (by kernel_rfl) rfl
     clear hp hq
     go_simp
     exact hK _ _ (RelB.refl _) rfl
   · refine opR_guard (j := 8) (d := 19) (c := false) rfl rfl (by kernel_rfl) rfl rfl (fun v W h => h) (fun _ => RelB.refl _) (fun hne => absurd rfl hne) fun hc aa W2 hB hp hq K hK => ?_
     have e21 : aa.tmps[21]?.getD undef = .agg #[.int .u8 yact, .string yp1, .string yp2, .int .i64 yfd, .int .i64 ypg, .int .u32 ysz, .string ydt] := hq 10 _ (by kernel_rfl) rfl
     have e24 : aa.tmps[24]?.getD undef = .agg #[.int .u8 (a : Int), .string ⟨#[]⟩, .string ⟨#[]⟩, .int .i64 0, .int .i64 0, .int .u32 0, .string ⟨#[]⟩] := hq 13 _ (by kernel_rfl) rfl
     clear hp hq
     go_simp
     rw [nest7]
     by_cases g7 : yact = (a : Int) ∧ yp1.toList = [] ∧ yp2.toList = [] ∧ yfd = 0 ∧ ypg = 0 ∧ ysz = 0 ∧ ydt.toList = []
     · rw [if_pos g7]
       have g8 := HFIT.out.1 g7
       go_simp
       exact hK _ _ (RelB.refl _) (show Value.bool _ = Value.bool _ by rw [g8])
     · rw [if_neg g7]
       have g8 : ne = true := by cases ne with | true => rfl | false => exact absurd (HFIT.out.2 rfl) g7
       go_simp
       exact hK _ _ (RelB.refl _) (show Value.bool _ = Value.bool _ by rw [g8])
   · refine opR_mk rfl fun aa W2 hB hp hq K hK => ?_
     have e19 : aa.tmps[19]?.getD undef = .bool false := hq 8 _ (by kernel_rfl) rfl
     have e25 : aa.tmps[25]?.getD undef = .bool ne := hq 14 _ (by kernel_rfl) rfl
     clear hp hq
     go_simp
     exact hK _ _ (RelB.refl _) rfl
 · intro vs W3 hB3 hv3 _
   have v26 : vs 15 = .bool ne := hv3 15 _ rfl rfl
   have B3 := zz (ptrans HB1.out hB3)
   have HX3 := zz (HX.out _ hB3)
   have HH3 := zz (HXH.out _ hB3)
   have HZ3 := zz (show w.heap.size + 2 ≤ W3.heap.size by have := hB3.size; have := HSZ.out; omega)
   clear hB3 hv3 HX HXH HSZ HFIT T2 HK
   simp only [putAll, Act.put, List.setIfInBounds_toArray, List.set_cons_succ, List.set_cons_zero, Nat.zero_add, Nat.reduceAdd, v26]
   cases ne with
   | true =>
    go_wp2
    go_ret
    refine ⟨?_, B3.out⟩
    have hc : checkC ⟨a, p1, p2, fd, pg, sz, dt⟩ = 2 := by
     unfold checkC
     rw [if_neg (by show ¬ ((a : Int) < 1 ∨ 15 < (a : Int)); omega), if_neg]
     intro hh
     have h2 : fitC ⟨a, p1, p2, fd, pg, sz, dt⟩ = true := hh
     have := HNE.out
     rw [h2] at this
     cases this
    rw [hc]
    rfl
   | false =>
    go_wp2
    obtain ⟨Br, hBr⟩ : ∃ Br, Br = W3.heap.size := ⟨_, rfl⟩
    obtain ⟨q0, hq0⟩ : ∃ q0, q0 = (hasB a 0 && hasB a 6 && ((splitE p1).1.length == 0)) := ⟨_, rfl⟩
    obtain ⟨q1, hq1⟩ : ∃ q1, q1 = (hasB a 1 && hasB a 7 && ((splitE p2).1.length == 0)) := ⟨_, rfl⟩
    obtain ⟨E1, hE1⟩ : ∃ E1, E1 = pathE (hasB a 0) p1 := ⟨_, rfl⟩
    obtain ⟨E2, hE2⟩ : ∃ E2, E2 = pathE (hasB a 1) p2 := ⟨_, rfl⟩
    have J0 : ChkJ w ⟨a, p1, p2, fd, pg, sz, dt⟩ (hasN a) Br (fun n => [false, q0, q0 || q1].getD n false) 0 (W3.alloc (.cells #[.bool false] 4)).drew := ⟨heap_up _ HX3.out, heap_up _ HH3.out, by rw [hBr]; exact World.alloc_heap_new W3 _, (fun h => ⟨h.os, h.tape, h.output, h.size, h.block⟩ : Below w.heap.size w (W3.alloc (.cells #[.bool false] 4)) → Below w.heap.size w (W3.alloc (.cells #[.bool false] 4)).drew) (B3.out.alloc (by have := HZ3.out; omega) _), by rw [hBr]; exact HZ3.out⟩
    have HJ0 := zz J0
    have A1 : Hid (∀ W, ChkJ w ⟨a, p1, p2, fd, pg, sz, dt⟩ (hasN a) Br (fun n => [false, q0, q0 || q1].getD n false) 0 W → Calls Tryz.prog 69 #[.string p1, .int .i64 1, .int .i64 64, .pointer (some ⟨w.heap.size + 1, 0, none⟩), .pointer (some ⟨Br, 0, none⟩)] W fun e W2 => e = .returned (.int .i64 E1) ∧ W.grownBy W2 (some Br) ∧ ChkJ w ⟨a, p1, p2, fd, pg, sz, dt⟩ (hasN a) Br (fun n => [false, q0, q0 || q1].getD n false) 1 W2) := fun W hJ => (t_at (hasB a 0) (hasB a 6) false 1 64 (hasN a) (has_bit0 (k := 0) (by omega)) (has_bit (k := 6) (by omega)) (w.heap.size + 1) Br p1 W hp (by simp [World.cell?, hJ.hh]) hJ.hr).mono fun e W2 ⟨h1, h2, h3⟩ => ⟨by rw [hE1]; exact h1, h3, hJ.turn h3 (by rw [h2]; show _ = some (Obj.cells #[.bool q0] _ _); rw [hq0, Bool.false_or])⟩
    have A2 : Hid (∀ W, ChkJ w ⟨a, p1, p2, fd, pg, sz, dt⟩ (hasN a) Br (fun n => [false, q0, q0 || q1].getD n false) 1 W → Calls Tryz.prog 69 #[.string p2, .int .i64 2, .int .i64 128, .pointer (some ⟨w.heap.size + 1, 0, none⟩), .pointer (some ⟨Br, 0, none⟩)] W fun e W2 => e = .returned (.int .i64 E2) ∧ W.grownBy W2 (some Br) ∧ ChkJ w ⟨a, p1, p2, fd, pg, sz, dt⟩ (hasN a) Br (fun n => [false, q0, q0 || q1].getD n false) 2 W2) := fun W hJ => (t_at (hasB a 1) (hasB a 7) q0 2 128 (hasN a) (has_bit0 (k := 1) (by omega)) (has_bit (k := 7) (by omega)) (w.heap.size + 1) Br p2 W hp2 (by simp [World.cell?, hJ.hh]) hJ.hr).mono fun e W2 ⟨h1, h2, h3⟩ => ⟨by rw [hE2]; exact h1, h3, hJ.turn h3 (by rw [h2]; show _ = some (Obj.cells #[.bool (q0 || q1)] _ _); rw [hq1])⟩
    have HCK : Hid (checkC ⟨a, p1, p2, fd, pg, sz, dt⟩ = if E1 ≠ 0 then E1 else if E2 ≠ 0 then E2 else if (q0 || q1 || decide (fd < 0 ∨ 15 < fd ∨ pg < 0 ∨ 36 ≤ pg ∨ 64 < dt.size ∨ 2304 < sz) || (hasB a 5 && dt.size == 0)) = true then 2 else 0) := by
     show _ = _
     have hf : fitC ⟨a, p1, p2, fd, pg, sz, dt⟩ = true := by simpa using HNE.out
     unfold checkC
     unfold fitC at hf
     rw [if_neg (by show ¬ ((a : Int) < 1 ∨ 15 < (a : Int)); omega), if_pos hf]
     rw [hE1, hE2, hq0, hq1]
    rw [← hBr]
    have HQ0 := zz hq0
    have HQ1 := zz hq1
    have HE1 := zz hE1
    have HE2 := zz hE2
    clear J0 hq0 hq1 hE1 hE2 hBr
    refine wp_region_st (fun n W => ChkJ w ⟨a, p1, p2, fd, pg, sz, dt⟩ (hasN a) Br (fun n => [false, q0, q0 || q1].getD n false) n W) RelB (fun W W2 => W.grownBy W2 (some Br)) [3, 7] (phi [isV (.func (.func 69) #[] #[.pointer (some ⟨w.heap.size + 1, 0, none⟩), .pointer (some ⟨Br, 0, none⟩)]), isV (.pointer (some ⟨w.heap.size, 1, none⟩)), isV (.string p1), isV (.int .i64 E1), isV (.func (.func 69) #[] #[.pointer (some ⟨w.heap.size + 1, 0, none⟩), .pointer (some ⟨Br, 0, none⟩)]), isV (.pointer (some ⟨w.heap.size, 2, none⟩)), isV (.string p2), isV (.int .i64 E2), isS2 Br E1 E2, isV (.int .i64 2), isV (.int .i64 0)]) (by kernel_rfl) (by kernel_rfl) (by kernel_rfl) (by kernel_rfl) (by kernel_rfl) HJ0.out (fun _ _ _ h hb => h.stay hb) (fun _ _ hb => ⟨hb.os, hb.tape, hb.output, hb.size, fun b h _ => hb.block b h⟩) ?_ ?_ ?_
    · refine stays_phiR ?_
      simp only [List.forall_mem_cons]
      exact ⟨kv, kv, kv, kv, kv, kv, kv, kv, fun _ _ _ h hg => h.stay hg, kv, kv, fun _ h => absurd h (by simp)⟩
    · refine ⟨?_, ?_, ?_, ?_, ?_, ?_, ?_, ?_, ?_, ?_, ?_, trivial⟩
      · refine opS_mk rfl rfl fun aa W2 nJ hJ hp hq K hK => ?_
        have e5 : aa.tmps[5]?.getD undef = .func (.func 69) #[] #[.pointer (some ⟨w.heap.size + 1, 0, none⟩), .pointer (some ⟨Br, 0, none⟩)] := hp 5 (by kernel_rfl)
        clear hp hq
        go_simp
        exact hK _ _ (RelB.refl _) rfl
      · refine opS_mk rfl rfl fun aa W2 nJ hJ hp hq K hK => ?_
        have e1 : aa.tmps[1]?.getD undef = .pointer (some ⟨w.heap.size, 0, none⟩) := hp 1 (by kernel_rfl)
        clear hp hq
        go_simp
        exact hK _ _ (RelB.refl _) rfl
      · refine opS_mk rfl rfl fun aa W2 nJ hJ hp hq K hK => ?_
        have e29 : aa.tmps[29]?.getD undef = .pointer (some ⟨w.heap.size, 1, none⟩) := hq 1 _ (by kernel_rfl) rfl
        have c0 : W2.cell? ⟨w.heap.size, 1, none⟩ = some (.string p1) := by simp [World.cell?, hJ.hx]
        clear hp hq
        go_simp
        exact hK _ _ (RelB.refl _) rfl
      · refine opS_at (m := 0) rfl rfl fun aa W2 hJ hp hq K hK => ?_
        have e28 : aa.tmps[28]?.getD undef = .func (.func 69) #[] #[.pointer (some ⟨w.heap.size + 1, 0, none⟩), .pointer (some ⟨Br, 0, none⟩)] := hq 0 _ (by kernel_rfl) rfl
        have e30 : aa.tmps[30]?.getD undef = .string p1 := hq 2 _ (by kernel_rfl) rfl
        clear hp hq
        have hA := A1.out _ hJ
        go_simp
        go_at_call 69
        (with_reducible refine hA.mono ?_)
        rintro e z8 ⟨rfl, hg8, hj8⟩
        exact hK _ _ hg8 hj8 rfl
      · refine opS_mk rfl rfl fun aa W2 nJ hJ hp hq K hK => ?_
        have e5 : aa.tmps[5]?.getD undef = .func (.func 69) #[] #[.pointer (some ⟨w.heap.size + 1, 0, none⟩), .pointer (some ⟨Br, 0, none⟩)] := hp 5 (by kernel_rfl)
        clear hp hq
        go_simp
        exact hK _ _ (RelB.refl _) rfl
      · refine opS_mk rfl rfl fun aa W2 nJ hJ hp hq K hK => ?_
        have e1 : aa.tmps[1]?.getD undef = .pointer (some ⟨w.heap.size, 0, none⟩) := hp 1 (by kernel_rfl)
        clear hp hq
        go_simp
        exact hK _ _ (RelB.refl _) rfl
      · refine opS_mk rfl rfl fun aa W2 nJ hJ hp hq K hK => ?_
        have e33 : aa.tmps[33]?.getD undef = .pointer (some ⟨w.heap.size, 2, none⟩) := hq 5 _ (by kernel_rfl) rfl
        have c0 : W2.cell? ⟨w.heap.size, 2, none⟩ = some (.string p2) := by simp [World.cell?, hJ.hx]
        clear hp hq
        go_simp
        exact hK _ _ (RelB.refl _) rfl
      · refine opS_at (m := 1) rfl rfl fun aa W2 hJ hp hq K hK => ?_
        have e32 : aa.tmps[32]?.getD undef = .func (.func 69) #[] #[.pointer (some ⟨w.heap.size + 1, 0, none⟩), .pointer (some ⟨Br, 0, none⟩)] := hq 4 _ (by kernel_rfl) rfl
        have e34 : aa.tmps[34]?.getD undef = .string p2 := hq 6 _ (by kernel_rfl) rfl
        clear hp hq
        have hA := A2.out _ hJ
        go_simp
        go_at_call 69
        (with_reducible refine hA.mono ?_)
        rintro e z8 ⟨rfl, hg8, hj8⟩
        exact hK _ _ hg8 hj8 rfl
      · refine opS_mk rfl rfl fun aa W2 nJ hJ hp hq K hK => ?_
        have e31 : aa.tmps[31]?.getD undef = .int .i64 E1 := hq 3 _ (by kernel_rfl) rfl
        have e35 : aa.tmps[35]?.getD undef = .int .i64 E2 := hq 7 _ (by kernel_rfl) rfl
        have hsz := (Array.getElem?_eq_some_iff.1 hJ.hr).1
        clear hp hq
        go_simp
        refine hK _ _ ((Below.refl _ _).alloc (Nat.le_refl _) _) ⟨W2.heap.size, rfl, by omega, by simp, ?_, ?_⟩
        · simp [World.cell?_alloc_new]
        · simp [World.cell?_alloc_new]
      · refine opS_mk rfl rfl fun aa W2 nJ hJ hp hq K hK => ?_
        obtain ⟨bq, e36, -⟩ := (show isS2 Br E1 E2 (aa.tmps[36]?.getD undef) W2 from hq 8 _ (by kernel_rfl) rfl)
        clear hp hq
        go_simp
        exact hK _ _ (Below.refl _ _) rfl
      · refine opS_mk rfl rfl fun aa W2 nJ hJ hp hq K hK => ?_
        clear hp hq
        go_simp
        exact hK _ _ (RelB.refl _) rfl
    · intro vs W9 hJ9 hv9 _
      obtain ⟨b2, v8, -, -, k0, k1⟩ := (show isS2 Br E1 E2 (vs 8) W9 from hv9 8 _ rfl rfl)
      have v9 : vs 9 = .int .i64 2 := hv9 9 _ rfl rfl
      have v10 : vs 10 = .int .i64 0 := hv9 10 _ rfl rfl
      have HJ9 := zz hJ9
      clear hJ9 hv9 HJ0 A1 A2
      simp only [putAll, Act.put, List.setIfInBounds_toArray, List.set_cons_succ, List.set_cons_zero, Nat.zero_add, Nat.reduceAdd, v8, v9, v10]
      go_wp2
      go_loop [38] (fun i => ∃ k : Nat, k ≤ 2 ∧ i = .int .i64 k ∧ (1 ≤ k → E1 = 0) ∧ (2 ≤ k → E2 = 0)) (fun i => 3 - (intOf i).toNat)
      case atStart => exact ⟨0, Nat.zero_le _, rfl, fun h => absurd h (by decide), fun h => absurd h (by decide)⟩
      case round =>
       obtain ⟨k, hk, rfl, hz1, hz2⟩ := hrel
       match k, hk with
       | 0, _ =>
        by_cases c1 : E1 = 0
        · have c2 : (E1 != 0) = false := by simp [c1]
          go_wp2
          go_round
          case rel => exact ⟨1, by omega, rfl, fun _ => c1, fun h => absurd h (by decide)⟩
          case measure => simp [intOf]
        · have c2 : (E1 != 0) = true := by simpa using c1
          go_wp2
          go_ret
          exact ⟨by rw [HCK.out, if_pos c1]; rfl, HJ9.out.mem⟩
       | 1, _ =>
        have c0 := hz1 (Nat.le_refl _)
        by_cases c1 : E2 = 0
        · have c2 : (E2 != 0) = false := by simp [c1]
          go_wp2
          go_round
          case rel => exact ⟨2, by omega, rfl, fun _ => c0, fun _ => c1⟩
          case measure => simp [intOf]
        · have c2 : (E2 != 0) = true := by simpa using c1
          go_wp2
          go_ret
          exact ⟨by rw [HCK.out, if_neg (fun e => e c0), if_pos c1]; rfl, HJ9.out.mem⟩
       | 2, _ =>
        have c0 := hz1 (by decide)
        have c1 := hz2 (by decide)
        have j := HJ9.out
        have x3 : W9.cell? ⟨w.heap.size, 3, none⟩ = some (.int .i64 fd) := by simp [World.cell?, j.hx]
        have x4 : W9.cell? ⟨w.heap.size, 4, none⟩ = some (.int .i64 pg) := by simp [World.cell?, j.hx]
        have x5 : W9.cell? ⟨w.heap.size, 5, none⟩ = some (.int .u32 sz) := by simp [World.cell?, j.hx]
        have x6 : W9.cell? ⟨w.heap.size, 6, none⟩ = some (.string dt) := by simp [World.cell?, j.hx]
        have x7 : W9.cell? ⟨w.heap.size + 1, 0, none⟩ = some (.int .i64 (hasN a)) := by simp [World.cell?, j.hh]
        have x8 : W9.cell? ⟨Br, 0, none⟩ = some (.bool (q0 || q1)) := by simp [World.cell?, j.hr]
        have x9 : (bits BinOp.and IntKind.i64 (hasN a) 32 != 0) = hasB a 5 := has_bit (k := 5) (by omega)
        obtain ⟨q, hq⟩ : ∃ q, (q0 || q1) = q := ⟨_, rfl⟩
        obtain ⟨b5, hb5⟩ : ∃ b, hasB a 5 = b := ⟨_, rfl⟩
        rw [hq] at x8
        rw [hb5] at x9
        have hcq := HCK.out
        rw [if_neg (fun e => e c0), if_neg (fun e => e c1), hq, hb5] at hcq
        have HCQ := zz hcq
        have HMEM := zz j.mem
        clear j hq hb5 HCK HJ9 c0 c1 hcq
        cases b5 <;> cases q
        all_goals go_wp2
        all_goals (go_ret; refine ⟨?_, HMEM.out⟩; rw [HCQ.out]; clear HCQ)
        all_goals (try simp only [List.isEmpty_iff, List.isEmpty_eq_false_iff] at *)
        all_goals (try simp only [toList_nil] at *)
        all_goals first | (rw [if_pos]; rfl; simp; omega) | (rw [if_neg]; rfl; simp; omega) | (rw [if_pos]; rfl; simp_all; done) | (rw [if_pos]; rfl; simp_all; omega) | (rw [if_neg]; rfl; simp_all; done) | (rw [if_neg]; rfl; simp_all; omega)
       | k + 3, h => omega
set_option maxRecDepth 100000 in
set_option maxHeartbeats 2000000 in
theorem t_callCheck2 (x : Cx) (a : Nat) (hx : x.act = a) (ha : a ≤ 255) (w : World) (h : KindsAt w) (hbad : ¬ (1 ≤ a ∧ a ≤ 15)) : Calls Tryz.prog 44 #[callV x] w fun e w' => e = .returned (.int .i64 2) ∧ Below w.heap.size w w' := by
 obtain ⟨act, p1, p2, fd, pg, sz, dt⟩ := x
 have hx' : act = (a : Int) := hx
 clear hx
 subst hx'
 have T1 := fun W (hW : KindsAt W) => t_of a ha W hW
 have HK := zz (fun W (hb : Below w.heap.size w W) => h.below hb h.pos)
 show Calls Tryz.prog 44 #[.agg #[.int .u8 (a : Int), .string p1, .string p2, .int .i64 fd, .int .i64 pg, .int .u32 sz, .string dt]] w _
 go_enter Tryz.func44, Tryz.ntmps44
 go_wp2_with (first
  | (go_at_call 67; go_loud (refine (T1 _ (HK.out _ (by first | exact (Below.refl _ _).alloc (Nat.le_refl _) _ | exact ((Below.refl _ _).alloc (Nat.le_refl _) _).alloc (by simp) _))).mono ?_; rintro e w1 ⟨rfl, rfl⟩)))
 obtain ⟨W1, hW1, hX, hH, hsz, hB1⟩ := two_blocks w #[.int .u8 (a : Int), .string p1, .string p2, .int .i64 fd, .int .i64 pg, .int .u32 sz, .string dt] #[.int .i64 (hasN a)] 31 3
 rw [hW1]
 have HX := zz (fun W (hb : Below W1.heap.size W1 W) => (hb.block _ (Array.getElem?_eq_some_iff.1 hX).1).trans hX)
 have HB1 := zz hB1
 clear hX hH hsz hB1 hW1 T1 h HK
 by_cases hz : a < 1
 · skip
   refine wp_region_rel RelB (phi [isV (.pointer (some ⟨w.heap.size, 0, none⟩)), isV (.int .u8 (a : Int)), isV (.bool true), isV (.bool true), (fun _ _ => True), (fun _ _ => True), (fun _ _ => True), isV (.bool true), isV (.bool true), (fun _ _ => True), (fun _ _ => True), (fun _ _ => True), (fun _ _ => True), (fun _ _ => True), (fun _ _ => True), isV (.bool true)]) (by kernel_rfl) (by kernel_rfl) (by kernel_rfl) (RelB.of (below_drew _)) (fun _ _ _ a b => a.trans b) ?_ ?_ ?_
   · refine stays_phiR ?_
     simp only [List.forall_mem_cons]
     exact ⟨kv, kv, kv, kv, fun _ _ _ _ _ => trivial, fun _ _ _ _ _ => trivial, fun _ _ _ _ _ => trivial, kv, kv, fun _ _ _ _ _ => trivial, fun _ _ _ _ _ => trivial, fun _ _ _ _ _ => trivial, fun _ _ _ _ _ => trivial, fun _ _ _ _ _ => trivial, fun _ _ _ _ _ => trivial, kv, fun _ h => absurd h (by simp)⟩
   · refine ⟨?_, ?_, ?_, ?_, ?_, ?_, ?_, ?_, ?_, ?_, ?_, ?_, ?_, ?_, ?_, ?_, trivial⟩
     · refine opR_mk rfl fun aa W2 hB hp hq K hK => ?_
       have e1 : aa.tmps[1]?.getD undef = .pointer (some ⟨w.heap.size, 0, none⟩) := hp 1 (by kernel_rfl)
       clear hp hq
       go_simp
       exact hK _ _ (RelB.refl _) rfl
     · refine opR_mk rfl fun aa W2 hB hp hq K hK => ?_
       have e11 : aa.tmps[11]?.getD undef = .pointer (some ⟨w.heap.size, 0, none⟩) := hq 0 _ (by kernel_rfl) rfl
       have hx2 := HX.out _ hB
       have c0 : W2.cell? ⟨w.heap.size, 0, none⟩ = some (.int .u8 (a : Int)) := by simp [World.cell?, hx2]
       clear hp hq
       go_simp
       exact hK _ _ (RelB.refl _) rfl
     · refine opR_mk rfl fun aa W2 hB hp hq K hK => ?_
       have e12 : aa.tmps[12]?.getD undef = .int .u8 (a : Int) := hq 1 _ (by kernel_rfl) rfl
       have hd : decide ((a : Int) < 1) = true := decide_eq_true (by omega)
       clear hp hq
       go_simp
       try rw [hd]
       exact hK _ _ (RelB.refl _) rfl
     · refine opR_mk rfl fun aa W2 hB hp hq K hK => ?_
       have e13 : aa.tmps[13]?.getD undef = .bool true := hq 2 _ (by kernel_rfl) rfl
       clear hp hq
       go_simp
       exact hK _ _ (RelB.refl _) rfl
     · exact opR_guard (j := 3) (d := 14) (c := true) rfl rfl (by kernel_rfl) rfl rfl (fun v W h => h) (fun _ => RelB.refl _) (fun _ _ => trivial) (fun hc => absurd hc (by decide))
     · exact opR_guard (j := 3) (d := 14) (c := true) rfl rfl (by kernel_rfl) rfl rfl (fun v W h => h) (fun _ => RelB.refl _) (fun _ _ => trivial) (fun hc => absurd hc (by decide))
     · exact opR_guard (j := 3) (d := 14) (c := true) rfl rfl (by kernel_rfl) rfl rfl (fun v W h => h) (fun _ => RelB.refl _) (fun _ _ => trivial) (fun hc => absurd hc (by decide))
     · refine opR_mk rfl fun aa W2 hB hp hq K hK => ?_
       have e14 : aa.tmps[14]?.getD undef = .bool true := hq 3 _ (by kernel_rfl) rfl
       clear hp hq
       go_simp
       exact hK _ _ (RelB.refl _) rfl
     · refine opR_mk rfl fun aa W2 hB hp hq K hK => ?_
       have e18 : aa.tmps[18]?.getD undef = .bool true := hq 7 _ (by kernel_rfl) rfl
       clear hp hq
       go_simp
       exact hK _ _ (RelB.refl _) rfl
     · exact opR_guard (j := 8) (d := 19) (c := true) rfl rfl (by kernel_rfl) rfl rfl (fun v W h => h) (fun _ => RelB.refl _) (fun _ _ => trivial) (fun hc => absurd hc (by decide))
     · exact opR_guard (j := 8) (d := 19) (c := true) rfl rfl (by kernel_rfl) rfl rfl (fun v W h => h) (fun _ => RelB.refl _) (fun _ _ => trivial) (fun hc => absurd hc (by decide))
     · exact opR_guard (j := 8) (d := 19) (c := true) rfl rfl (by kernel_rfl) rfl rfl (fun v W h => h) (fun _ => RelB.refl _) (fun _ _ => trivial) (fun hc => absurd hc (by decide))
     · exact opR_guard (j := 8) (d := 19) (c := true) rfl rfl (by kernel_rfl) rfl rfl (fun v W h => h) (fun _ => RelB.refl _) (fun _ _ => trivial) (fun hc => absurd hc (by decide))
     · exact opR_guard (j := 8) (d := 19) (c := true) rfl rfl (by kernel_rfl) rfl rfl (fun v W h => h) (fun _ => RelB.refl _) (fun _ _ => trivial) (fun hc => absurd hc (by decide))
     · exact opR_guard (j := 8) (d := 19) (c := true) rfl rfl (by kernel_rfl) rfl rfl (fun v W h => h) (fun _ => RelB.refl _) (fun _ _ => trivial) (fun hc => absurd hc (by decide))
     · refine opR_mk rfl fun aa W2 hB hp hq K hK => ?_
       have e19 : aa.tmps[19]?.getD undef = .bool true := hq 8 _ (by kernel_rfl) rfl
       clear hp hq
       go_simp
       exact hK _ _ (RelB.refl _) rfl
   · intro vs W3 hB3 hv3 _
     have v26 : vs 15 = .bool true := hv3 15 _ rfl rfl
     have B3 := zz (ptrans HB1.out hB3)
     clear hB3 hv3
     simp only [putAll, Act.put, List.setIfInBounds_toArray, List.set_cons_succ, List.set_cons_zero, Nat.zero_add, Nat.reduceAdd, v26]
     go_wp2
     go_ret
     exact ⟨rfl, B3.out⟩
 · have hz2 : 15 < a := by omega
   refine wp_region_rel RelB (phi [isV (.pointer (some ⟨w.heap.size, 0, none⟩)), isV (.int .u8 (a : Int)), isV (.bool false), isV (.bool false), isV (.pointer (some ⟨w.heap.size, 0, none⟩)), isV (.int .u8 (a : Int)), isV (.bool true), isV (.bool true), isV (.bool true), (fun _ _ => True), (fun _ _ => True), (fun _ _ => True), (fun _ _ => True), (fun _ _ => True), (fun _ _ => True), isV (.bool true)]) (by kernel_rfl) (by kernel_rfl) (by kernel_rfl) (RelB.of (below_drew _)) (fun _ _ _ a b => a.trans b) ?_ ?_ ?_
   · refine stays_phiR ?_
     simp only [List.forall_mem_cons]
     exact ⟨kv, kv, kv, kv, kv, kv, kv, kv, kv, fun _ _ _ _ _ => trivial, fun _ _ _ _ _ => trivial, fun _ _ _ _ _ => trivial, fun _ _ _ _ _ => trivial, fun _ _ _ _ _ => trivial, fun _ _ _ _ _ => trivial, kv, fun _ h => absurd h (by simp)⟩
   · refine ⟨?_, ?_, ?_, ?_, ?_, ?_, ?_, ?_, ?_, ?_, ?_, ?_, ?_, ?_, ?_, ?_, trivial⟩
     · refine opR_mk rfl fun aa W2 hB hp hq K hK => ?_
       have e1 : aa.tmps[1]?.getD undef = .pointer (some ⟨w.heap.size, 0, none⟩) := hp 1 (by kernel_rfl)
       clear hp hq
       go_simp
       exact hK _ _ (RelB.refl _) rfl
     · refine opR_mk rfl fun aa W2 hB hp hq K hK => ?_
       have e11 : aa.tmps[11]?.getD undef = .pointer (some ⟨w.heap.size, 0, none⟩) := hq 0 _ (by kernel_rfl) rfl
       have hx2 := HX.out _ hB
       have c0 : W2.cell? ⟨w.heap.size, 0, none⟩ = some (.int .u8 (a : Int)) := by simp [World.cell?, hx2]
       clear hp hq
       go_simp
       exact hK _ _ (RelB.refl _) rfl
     · refine opR_mk rfl fun aa W2 hB hp hq K hK => ?_
       have e12 : aa.tmps[12]?.getD undef = .int .u8 (a : Int) := hq 1 _ (by kernel_rfl) rfl
       have hd : decide ((a : Int) < 1) = false := decide_eq_false (by omega)
       clear hp hq
       go_simp
       try rw [hd]
       exact hK _ _ (RelB.refl _) rfl
     · refine opR_mk rfl fun aa W2 hB hp hq K hK => ?_
       have e13 : aa.tmps[13]?.getD undef = .bool false := hq 2 _ (by kernel_rfl) rfl
       clear hp hq
       go_simp
       exact hK _ _ (RelB.refl _) rfl
     · refine opR_guard (j := 3) (d := 14) (c := false) rfl rfl (by kernel_rfl) rfl rfl (fun v W h => h) (fun _ => RelB.refl _) (fun hne => absurd rfl hne) fun hc aa W2 hB hp hq K hK => ?_
       have e1 : aa.tmps[1]?.getD undef = .pointer (some ⟨w.heap.size, 0, none⟩) := hp 1 (by kernel_rfl)
       clear hp hq
       go_simp
       exact hK _ _ (RelB.refl _) rfl
     · refine opR_guard (j := 3) (d := 14) (c := false) rfl rfl (by kernel_rfl) rfl rfl (fun v W h => h) (fun _ => RelB.refl _) (fun hne => absurd rfl hne) fun hc aa W2 hB hp hq K hK => ?_
       have e15 : aa.tmps[15]?.getD undef = .pointer (some ⟨w.heap.size, 0, none⟩) := hq 4 _ (by kernel_rfl) rfl
       have hx2 := HX.out _ hB
       have c0 : W2.cell? ⟨w.heap.size, 0, none⟩ = some (.int .u8 (a : Int)) := by simp [World.cell?, hx2]
       clear hp hq
       go_simp
       exact hK _ _ (RelB.refl _) rfl
     · refine opR_guard (j := 3) (d := 14) (c := false) rfl rfl (by kernel_rfl) rfl rfl (fun v W h => h) (fun _ => RelB.refl _) (fun hne => absurd rfl hne) fun hc aa W2 hB hp hq K hK => ?_
       have e16 : aa.tmps[16]?.getD undef = .int .u8 (a : Int) := hq 5 _ (by kernel_rfl) rfl
       have hd : decide ((15 : Int) < a) = true := decide_eq_true (by omega)
       clear hp hq
       go_simp
       try rw [hd]
       exact hK _ _ (RelB.refl _) rfl
     · refine opR_mk rfl fun aa W2 hB hp hq K hK => ?_
       have e14 : aa.tmps[14]?.getD undef = .bool false := hq 3 _ (by kernel_rfl) rfl
       have e17 : aa.tmps[17]?.getD undef = .bool true := hq 6 _ (by kernel_rfl) rfl
       clear hp hq
       go_simp
       exact hK _ _ (RelB.refl _) rfl
     · refine opR_mk rfl fun aa W2 hB hp hq K hK => ?_
       have e18 : aa.tmps[18]?.getD undef = .bool true := hq 7 _ (by kernel_rfl) rfl
       clear hp hq
       go_simp
       exact hK _ _ (RelB.refl _) rfl
     · exact opR_guard (j := 8) (d := 19) (c := true) rfl rfl (by kernel_rfl) rfl rfl (fun v W h => h) (fun _ => RelB.refl _) (fun _ _ => trivial) (fun hc => absurd hc (by decide))
     · exact opR_guard (j := 8) (d := 19) (c := true) rfl rfl (by kernel_rfl) rfl rfl (fun v W h => h) (fun _ => RelB.refl _) (fun _ _ => trivial) (fun hc => absurd hc (by decide))
     · exact opR_guard (j := 8) (d := 19) (c := true) rfl rfl (by kernel_rfl) rfl rfl (fun v W h => h) (fun _ => RelB.refl _) (fun _ _ => trivial) (fun hc => absurd hc (by decide))
     · exact opR_guard (j := 8) (d := 19) (c := true) rfl rfl (by kernel_rfl) rfl rfl (fun v W h => h) (fun _ => RelB.refl _) (fun _ _ => trivial) (fun hc => absurd hc (by decide))
     · exact opR_guard (j := 8) (d := 19) (c := true) rfl rfl (by kernel_rfl) rfl rfl (fun v W h => h) (fun _ => RelB.refl _) (fun _ _ => trivial) (fun hc => absurd hc (by decide))
     · exact opR_guard (j := 8) (d := 19) (c := true) rfl rfl (by kernel_rfl) rfl rfl (fun v W h => h) (fun _ => RelB.refl _) (fun _ _ => trivial) (fun hc => absurd hc (by decide))
     · refine opR_mk rfl fun aa W2 hB hp hq K hK => ?_
       have e19 : aa.tmps[19]?.getD undef = .bool true := hq 8 _ (by kernel_rfl) rfl
       clear hp hq
       go_simp
       exact hK _ _ (RelB.refl _) rfl
   · intro vs W3 hB3 hv3 _
     have v26 : vs 15 = .bool true := hv3 15 _ rfl rfl
     have B3 := zz (ptrans HB1.out hB3)
     clear hB3 hv3
     simp only [putAll, Act.put, List.setIfInBounds_toArray, List.set_cons_succ, List.set_cons_zero, Nat.zero_add, Nat.reduceAdd, v26]
     go_wp2
     go_ret
     exact ⟨rfl, B3.out⟩
theorem t_callCheck (x : Cx) (a : Nat) (hx : x.act = a) (ha : a ≤ 255) (hp : x.path.size ≤ maxLen) (hp2 : x.path2.size ≤ maxLen) (w : World) (h : KindsAt w) : Calls Tryz.prog 44 #[callV x] w fun e w' => e = .returned (.int .i64 (checkC x)) ∧ Below w.heap.size w w' := by
 by_cases hg : 1 ≤ a ∧ a ≤ 15
 · exact t_callCheck1 x a hx ha hp hp2 w h hg.1 hg.2
 · have e : checkC x = 2 := by
    unfold checkC
    rw [if_pos (by rw [hx]; omega)]
   rw [e]
   exact t_callCheck2 x a hx ha w h hg
end
end Go.Proofs.YtpcnolkdnmolgaaGreatDoor
