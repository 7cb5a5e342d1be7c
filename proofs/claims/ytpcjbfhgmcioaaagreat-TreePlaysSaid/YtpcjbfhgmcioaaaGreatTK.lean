/- What no tree answers, walked. -/
import Derived.Test.YtpcjbfhgmcioaaaGreatTJ
namespace Go.Proofs.YtpcjbfhgmcioaaaGreat
open Go.RowKit Go.Maps

theorem n_StatV (i : Int) (w : World) : Calls Tryz.prog 26 #[.pointer none, .int .u32 i] w fun e w' => e = .returned (.tuple #[.agg #[.int .u32 0, .int .u8 0, .int .i64 0, .int .u32 0], .int .i64 1]) ∧ Below w.heap.size w w' := n_Stat i w

theorem ones14 (j : Nat) (h : j < 14) : (#[.int .i64 1, .int .i64 1, .int .i64 1, .int .i64 1, .int .i64 1, .int .i64 1, .int .i64 1, .int .i64 1, .int .i64 1, .int .i64 1, .int .i64 1, .int .i64 1, .int .i64 1, .int .i64 1] : Array Value)[j]? = some (.int .i64 1) := by
  show (Array.replicate 14 (Value.int .i64 1))[j]? = _
  rw [Array.getElem?_replicate, if_pos h]
set_option maxRecDepth 100000 in
set_option maxHeartbeats 16000000 in
theorem t_nothing18 (w : World) : Calls Tryz.prog 8 #[] w fun e w' => e = .returned (.bool true) ∧ Below w.heap.size w w' := by
  have HB := Lib.hid (Below.refl w.heap.size w)
  go_enter Tryz.func8, Tryz.ntmps8
  go_wp2_with (first
    | (go_at_call 23; (with_reducible refine (n_Look _ _ _).mono ?_); rintro e w5 ⟨rfl, hb⟩; replace HB := Lib.hid (HB.out.trans (hb.mono HB.out.size)); clear hb)
    | (go_at_call 12; (with_reducible refine (n_Make _ _ _ _).mono ?_); rintro e w5 ⟨rfl, hb⟩; replace HB := Lib.hid (HB.out.trans (hb.mono HB.out.size)); clear hb)
    | (go_at_call 13; (with_reducible refine (n_Unlink _ _ _).mono ?_); rintro e w5 ⟨rfl, hb⟩; replace HB := Lib.hid (HB.out.trans (hb.mono HB.out.size)); clear hb)
    | (go_at_call 27; (with_reducible refine (n_Rmdir _ _ _).mono ?_); rintro e w5 ⟨rfl, hb⟩; replace HB := Lib.hid (HB.out.trans (hb.mono HB.out.size)); clear hb)
    | (go_at_call 28; (with_reducible refine (n_Read _ _ _).mono ?_); rintro e w5 ⟨rfl, hb⟩; replace HB := Lib.hid (HB.out.trans (hb.mono HB.out.size)); clear hb)
    | (go_at_call 29; (with_reducible refine (n_List _ _).mono ?_); rintro e w5 ⟨rfl, hb⟩; replace HB := Lib.hid (HB.out.trans (hb.mono HB.out.size)); clear hb)
    | (go_at_call 30; (with_reducible refine (n_MakeAt _ _ _ _ _).mono ?_); rintro e w5 ⟨rfl, hb⟩; replace HB := Lib.hid (HB.out.trans (hb.mono HB.out.size)); clear hb)
    | (go_at_call 25; (with_reducible refine (n_Link _ _ _ _).mono ?_); rintro e w5 ⟨rfl, hb⟩; replace HB := Lib.hid (HB.out.trans (hb.mono HB.out.size)); clear hb)
    | (go_at_call 24; (with_reducible refine (n_Rename _ _ _ _ _).mono ?_); rintro e w5 ⟨rfl, hb⟩; replace HB := Lib.hid (HB.out.trans (hb.mono HB.out.size)); clear hb)
    | (go_at_call 31; (with_reducible refine (n_Resize _ _ _).mono ?_); rintro e w5 ⟨rfl, hb⟩; replace HB := Lib.hid (HB.out.trans (hb.mono HB.out.size)); clear hb)
    | (go_at_call 14; (with_reducible refine (n_Write _ _ _ _).mono ?_); rintro e w5 ⟨rfl, hb⟩; replace HB := Lib.hid (HB.out.trans (hb.mono HB.out.size)); clear hb)
    | (go_at_call 15; (with_reducible refine (n_Hold _ _).mono ?_); rintro e w5 ⟨rfl, hb⟩; replace HB := Lib.hid (HB.out.trans (hb.mono HB.out.size)); clear hb)
    | (go_at_call 32; (with_reducible refine (n_Drop _ _).mono ?_); rintro e w5 ⟨rfl, hb⟩; replace HB := Lib.hid (HB.out.trans (hb.mono HB.out.size)); clear hb)
    | (go_at_call 33; (with_reducible refine (n_Held _ _).mono ?_); rintro e w5 ⟨rfl, hb⟩; replace HB := Lib.hid (HB.out.trans (hb.mono HB.out.size)); clear hb)
    | (go_at_call 21; (with_reducible refine (n_All _).mono ?_); rintro e w5 ⟨rfl, hb⟩; replace HB := Lib.hid (HB.out.trans (hb.mono HB.out.size)); clear hb)
    | (go_at_call 11; (with_reducible refine (n_Copy _).mono ?_); rintro e w5 ⟨rfl, hb⟩; replace HB := Lib.hid (HB.out.trans (hb.mono HB.out.size)); clear hb)
    | (go_at_call 26; (with_reducible refine (n_StatV _ _).mono ?_); rintro e w5 ⟨rfl, hb⟩; replace HB := Lib.hid (HB.out.trans (hb.mono HB.out.size)); replace HB := Lib.hid (HB.out.trans ((u_alloc1 _ (.cells #[.int .u32 0, .int .u8 0, .int .i64 0, .int .u32 0] 54)).mono HB.out.size)); clear hb))
  generalize hW : World.alloc w5 _ = W0
  have hx : ∃ T, W0.heap[w5.heap.size]? = some (.cells #[.int .i64 1, .int .i64 1, .int .i64 1, .int .i64 1, .int .i64 1, .int .i64 1, .int .i64 1, .int .i64 1, .int .i64 1, .int .i64 1, .int .i64 1, .int .i64 1, .int .i64 1, .int .i64 1] T (0, 0)) := ⟨_, by rw [← hW]; exact World.alloc_heap_new _ _⟩
  obtain ⟨T, hx⟩ := hx
  have HX := Lib.hid hx
  replace HB : Hid (Below w.heap.size w W0) := by rw [← hW]; exact HB.out.trans ((u_alloc1 _ _).mono HB.out.size)
  clear hx hW
  go_loopw [17] (fun v wr => ∃ j : Nat, v = .int .i64 (j : Int) ∧ j ≤ 14 ∧ Hid (Below W0.heap.size W0 wr)) (fun v _ => 14 - (intOf v).toNat)
  case atStart => exact ⟨0, rfl, Nat.zero_le _, Below.refl _ _⟩
  case round =>
    obtain ⟨j, rfl, hj, HJ⟩ := hrel
    have HC := Lib.hid (HB.out.trans (HJ.out.mono HB.out.size))
    by_cases he : j = 14
    · subst he
      go_wp2_with (first
      | (go_at_call 33; (with_reducible refine (n_Held _ _).mono ?_); rintro e w5 ⟨rfl, hb⟩; replace HC := Lib.hid (HC.out.trans (hb.mono HC.out.size)); clear hb)
      | (go_at_call 21; (with_reducible refine (n_All _).mono ?_); rintro e w5 ⟨rfl, hb⟩; replace HC := Lib.hid (HC.out.trans (hb.mono HC.out.size)); clear hb)
      | (go_at_call 11; (with_reducible refine (n_Copy _).mono ?_); rintro e w5 ⟨rfl, hb⟩; replace HC := Lib.hid (HC.out.trans (hb.mono HC.out.size)); clear hb))
      go_ret
      exact ⟨rfl, HC.out⟩
    · have hj2 : j < 14 := by omega
      have d1 : wr.cell? ⟨w5.heap.size, j, none⟩ = some (.int .i64 1) := cell_of (j := j) (v := .int .i64 1) (st_below HX.out HJ.out) (ones14 j hj2)
      go_wp2
      go_roundw
      case rel => exact ⟨j + 1, rfl, by omega, HJ.out⟩
      case measure => simp only [intOf]; omega
end Go.Proofs.YtpcjbfhgmcioaaaGreat

/- The start, of both trees; the copy, and the old tree behind it. -/
namespace Go.Proofs.YtpcjbfhgmcioaaaGreat
open Go.RowKit Go.Maps

theorem Sim.start (n : Nat) (h1 : 2 ≤ n) : Sim (newT (n : Int)) (D.newT n) := by
  have hl : (D.newT n).length = n := by unfold D.newT; rw [D.setNd_length]; simp
  refine ⟨by rw [hl]; rfl, fun i x hx => ?_, fun i i1 i2 hx => ?_⟩
  · unfold newT PT.set at hx
    simp only at hx
    split at hx
    · rename_i e
      cases hx
      subst e
      unfold D.newT
      rw [D.ndAt_set_self _ (by decide) (by simp; omega)]
      exact SimN.new 2
    · cases hx
  · unfold newT PT.set at hx
    simp only at hx
    split at hx
    · cases hx
    · rename_i e
      unfold D.newT
      rw [D.ndAt_set_ne _ (by decide) i1 (fun h => e h.symm)]
      unfold D.ndAt D.nd
      rw [List.getD_eq_getElem?_getD, List.getElem?_replicate]
      split <;> rfl
theorem Pl.start (n : Nat) (h1 : 2 ≤ n) (h2 : n ≤ 256) : Pl 0 (newT (n : Int)) (D.newT n) := by
  refine ⟨WellP.new n (by omega) (by omega), ?_, Sim.start n h1, ?_⟩
  · intro i x hx
    unfold newT PT.set at hx
    simp only at hx
    split at hx
    · cases hx; exact Int.le_refl _
    · cases hx
  · have h := D.newT_well n (by omega)
    have hl : n = (D.newT n).length := by unfold D.newT; rw [D.setNd_length]; simp
    exact hl ▸ h
/-- The old tree, its copy and the document. -/
def Old (w W : World) (Po No : Nat) (K : Int) (P N P2 G2 : Nat) (t : PT) (r : D.Tr) : Prop :=
  ∃ u yo Fo y F, TreeM W Fo Po No yo u ∧ WellP u ∧ HeldK K u ∧ TreeM W F P N y t ∧ D.TreeAt W P2 G2 r ∧ (∀ b, Fo b → ¬ F b) ∧ (∀ b, Fo b → w.heap.size ≤ b) ∧ (∀ b, F b → w.heap.size ≤ b) ∧ w.heap.size ≤ G2 ∧ Below w.heap.size w W
section
variable {w W W2 : World} {P N P2 G2 Po No No' k : Nat} {K K' : Int} {t : PT} {r : D.Tr}
theorem Old.mem (h : Old w W Po No K P N P2 G2 t r) : Mem w W P N P2 G2 t r := by
  obtain ⟨u, yo, Fo, y, F, _, _, _, h4, h5, _, _, h8, h9, h10⟩ := h
  exact ⟨y, F, h4, h5, h8, h9, h10⟩
theorem Old.turn {f : FuncId} {args : Array Value} {Q : Ending → Prop} (h : Old w W Po No K P N P2 G2 t r)
    (hc : ∀ u y F, TreeM W F Po No y u → WellP u → HeldK K u → Calls Tryz.prog f args W fun e w' => Q e ∧ ∃ u', Became W w' F Po No' u' ∧ WellP u' ∧ HeldK K' u') :
    Calls Tryz.prog f args W fun e w' => Q e ∧ Old w w' Po No' K' P N P2 G2 t r := by
  obtain ⟨u, yo, Fo, y, F, h1, h2, h3, h4, h5, h6, h7, h8, h9, h10⟩ := h
  have hx := h1.exact
  refine (hc u yo _ hx h2 h3).mono ?_
  rintro e w' ⟨hq, u', ⟨y', F', hT', ht⟩, hw', hk'⟩
  refine ⟨hq, u', y', F', y, F, hT', hw', hk', h4.same (fun b hb => ht.block b (h4.lt b hb) fun hf => h6 b (h1.sub hf) hb) ht.size, doc_same h5 fun b o hb ho => ?_, fun b hb hf => ?_, fun b hb => (ht.foot b hb).elim (fun z => h7 b (h1.sub z)) (fun z => Nat.le_trans h10.size z), h8, h9, h10.trans (ht.below (fun b hf => h7 b (h1.sub hf)) h10.size)⟩
  · rw [← hb]
    refine ht.block b (Array.getElem?_eq_some_iff.1 hb).1 fun hf => ?_
    obtain ⟨o', k1, k2⟩ := hx.isP hf
    rw [hb] at k1
    obtain rfl := Option.some.inj k1
    exact apart_o k2 ho
  · rcases ht.foot b hb with z | z
    · exact h6 b (h1.sub z) hf
    · have := h4.lt b hf
      omega
theorem Mem.copy (h : Mem w W P N P2 G2 t r) (hp : Pl k t r) (hN : N ≤ 60000) :
    Calls Tryz.prog 11 #[.pointer (some ⟨P, 0, none⟩)] W fun e w' => ∃ P', e = .returned (.pointer (some ⟨P', 0, none⟩)) ∧ Old w w' P N k P' N P2 G2 t r := by
  obtain ⟨y, F, h1, h2, h3, h4, h5⟩ := h
  refine (t_copyP W h1 hN).mono fun e w' ⟨P', y', F', he, hT, hF, hb⟩ => ?_
  refine ⟨P', he, t, y, F, y', F', h1.below hb, hp.well, hp.held, hT, h2.below hb, fun b hb1 hb2 => ?_, h3, fun b hb => Nat.le_trans h5.size (hF b hb), h4, h5.trans (hb.mono h5.size)⟩
  have := h1.lt b hb1
  have := hF b hb2
  omega
def IsT (e : Ending) : Prop := ∃ a b, e = .returned (.tuple #[.int .u32 a, .int .i64 b])
def IsI (e : Ending) : Prop := ∃ a, e = .returned (.int .i64 a)
theorem old_make (h : Old w W Po No K P N P2 G2 t r) (hK : 0 ≤ K) (hN : No < 900000) :
    Calls Tryz.prog 12 #[.pointer (some ⟨Po, 0, none⟩), .int .u32 1, .string ⟨#[115, 112, 111, 105, 108, 116]⟩, .int .u8 1] W fun e w' => IsT e ∧ Old w w' Po (No + 2) K P N P2 G2 t r :=
  h.turn fun u y F h1 h2 h3 => by
    obtain ⟨⟨⟨a, b⟩, u2⟩, hq⟩ : ∃ q, makeP u 1 ⟨#[115, 112, 111, 105, 108, 116]⟩ 1 (leastI u) = q := ⟨_, rfl⟩
    refine (t_makeP 1 _ 1 (leastI u) a b u2 h2.leastI_ hq W h1 hN u1 (by decide)).mono fun e w' ⟨he, hB⟩ => ⟨⟨a, b, he⟩, u2, hB, ?_, ?_⟩
    · have := h2.makeP_ 1 ⟨#[115, 112, 111, 105, 108, 116]⟩ 1 (leastI u)
      rw [hq] at this
      exact this
    · have := h3.makeP_ (d := 1) (s := ⟨#[115, 112, 111, 105, 108, 116]⟩) hK 1 (leastI u)
      rw [hq] at this
      exact this
theorem old_unlink (s : ByteArray) (h : Old w W Po No K P N P2 G2 t r) (hs : s.size ≤ maxLen) :
    Calls Tryz.prog 13 #[.pointer (some ⟨Po, 0, none⟩), .int .u32 1, .string s] W fun e w' => IsT e ∧ Old w w' Po No K P N P2 G2 t r :=
  h.turn fun u y F h1 h2 h3 => by
    obtain ⟨⟨⟨a, b⟩, u2⟩, hq⟩ : ∃ q, dropP u 1 s unlinkE = q := ⟨_, rfl⟩
    refine (t_unlinkP 1 s a b u2 hq W h1 h2.good u1 hs).mono fun e w' ⟨he, hB⟩ => ⟨⟨a, b, he⟩, u2, hB, ?_, ?_⟩
    · have := h2.unlinkP 1 s
      rw [hq] at this
      exact this
    · have := h3.dropP_ (d := 1) (s := s) unlinkE
      rw [hq] at this
      exact this
theorem old_write (i : Int) (h : Old w W Po No K P N P2 G2 t r) (hi : U32 i) (hN : No < 900000) :
    Calls Tryz.prog 14 #[.pointer (some ⟨Po, 0, none⟩), .int .u32 i, .int .i64 0, .string ⟨#[115, 112, 111, 105, 108, 116]⟩] W fun e w' => IsI e ∧ Old w w' Po (No + 1) K P N P2 G2 t r :=
  h.turn fun u y F h1 h2 h3 => by
    obtain ⟨⟨a, u2⟩, hq⟩ : ∃ q, writeP u i 0 ⟨#[115, 112, 111, 105, 108, 116]⟩ = q := ⟨_, rfl⟩
    refine (t_writeP i 0 _ a u2 hq W h1 hN hi (by decide) (fun x hx => h2.pages i x hx)).mono fun e w' ⟨he, hT, hU⟩ => ⟨⟨a, he⟩, u2, ⟨y, F, hT, hU⟩, ?_, ?_⟩
    · have := h2.writeP_ i 0 ⟨#[115, 112, 111, 105, 108, 116]⟩
      rw [hq] at this
      exact this
    · have := h3.writeP_ (i := i) 0 ⟨#[115, 112, 111, 105, 108, 116]⟩
      rw [hq] at this
      exact this
theorem old_hold (i : Int) (h : Old w W Po No K P N P2 G2 t r) (hi : U32 i) (hK : K ≤ 1000000000) :
    Calls Tryz.prog 15 #[.pointer (some ⟨Po, 0, none⟩), .int .u32 i] W fun e w' => IsI e ∧ Old w w' Po No (K + 1) P N P2 G2 t r :=
  h.turn fun u y F h1 h2 h3 => by
    obtain ⟨⟨a, u2⟩, hq⟩ : ∃ q, holdP u i = q := ⟨_, rfl⟩
    refine (t_holdP i a u2 hq W h1 hi (h3.mono hK) (fun x hx => h2.held _ x hx)).mono fun e w' ⟨he, hB⟩ => ⟨⟨a, he⟩, u2, hB, ?_, ?_⟩
    · have := h2.holdP_ i
      rw [hq] at this
      exact this
    · have := h3.holdP_ (i := i)
      rw [hq] at this
      exact this
end
end Go.Proofs.YtpcjbfhgmcioaaaGreat

/- TreePlays, walked. -/
namespace Go.Proofs.YtpcjbfhgmcioaaaGreat
open Go.RowKit Go.Maps

theorem LongQ.get3 {n : Nat} {w w' : World} {e : Ending} (h : LongQ n w e w') : ∃ b, e = .returned (.bool b) ∧ (b = false → n ≤ 150) ∧ Below w.heap.size w w' := h
theorem NewT.get3 {n : Int} {w w' : World} {e : Ending} (h : NewT n w e w') : ∃ P y F, e = .returned (.tuple #[.pointer (some ⟨P, 0, none⟩), .int .i64 0]) ∧ TreeM w' F P 1 y (newT n) ∧ Below w.heap.size w w' ∧ ∀ b, F b → w.heap.size ≤ b := h
/-- Behind k steps. -/
def AtK (w : World) (P P2 G2 k : Nat) (wr : World) : Prop := ∃ t r, Mem w wr P (1 + 2 * k) P2 G2 t r ∧ Pl k t r
set_option maxRecDepth 100000 in
set_option maxHeartbeats 16000000 in
theorem t_plays18 (inodes : Int) (A : Option Addr) (n c : Nat) (f : Nat → PStep) (ino page : Int) (name : ByteArray) (w : World) (hs : Steps w A n f) (hn : n ≤ maxLen) (hi : U32 ino) (h1 : name.size ≤ maxLen) :
    Calls Tryz.prog 3 #[.int .i64 inodes, .slice A n c, .int .u32 ino, .int .i64 page, .string name] w fun e w' => e = .returned (.bool true) ∧ Below w.heap.size w w' := by
  have HN := Lib.hid hn
  have HS := Lib.hid hs
  have HI := Lib.hid hi
  have H1 := Lib.hid h1
  have HL := Lib.hid (t_long A n c f w HS.out HN.out)
  clear hs hn hi h1
  by_cases hgood : 2 ≤ inodes ∧ inodes ≤ 256
  · obtain ⟨m, hm⟩ : ∃ m : Nat, inodes = (m : Int) := ⟨inodes.toNat, by omega⟩
    subst hm
    have hg1 : 2 ≤ (m : Int) := hgood.1
    have hg2 : (m : Int) ≤ 256 := hgood.2
    clear hgood
    go_enter Tryz.func3, Tryz.ntmps3
    go_wp2_with (first
      | (go_at_call 6; with_reducible refine HL.out.mono ?_; rintro e w1 hq; obtain ⟨b, rfl, hb, h1⟩ := hq.get3; clear hq; have HB1 := Lib.hid h1; have HBL := Lib.hid hb; clear h1 hb; cases b)
      | (go_at_call 7; with_reducible refine (t_alive _).mono ?_; rintro e w2 ⟨rfl, h2⟩; replace HB1 := Lib.hid (ptrans HB1.out h2); clear h2)
      | (go_at_call 8; with_reducible refine (t_nothing18 _).mono ?_; rintro e w2 ⟨rfl, h2⟩; replace HB1 := Lib.hid (ptrans HB1.out h2); clear h2)
      | (go_at_call 9; with_reducible refine (t_new _ _ (by omega) (by omega)).mono ?_; rintro e w3 hq; obtain ⟨P, y, F, rfl, hT, hb, hF⟩ := hq.get3; have HT := Lib.hid hT; have HB3 := Lib.hid hb; have HF := Lib.hid hF; clear hq hT hb hF)
      | (go_at_call 10; with_reducible refine (D.t_new m (by omega) (by omega) _).mono ?_; rintro e w4 ⟨P2, G2, rfl, hD, hb, _, hG⟩; have HD := Lib.hid hD; have HB4 := Lib.hid hb; have HG := Lib.hid hG; clear hD hb hG))
    all_goals first
      | (go_ret; exact ⟨rfl, HB1.out⟩; done)
      | skip
    have hn150 : n ≤ 150 := HBL.out (by simp)
    have hnm : name.size ≤ maxLen := H1.out
    have hb4 : Below w.heap.size w w4 := ptrans (ptrans HB1.out HB3.out) HB4.out
    have HS0 : Hid (AtK w P P2 G2 0 w4) := ⟨_, _, ⟨y, F, HT.out.below HB4.out, HD.out, fun b hb => Nat.le_trans HB1.out.size (HF.out b hb), Nat.le_trans HB1.out.size (Nat.le_trans HB3.out.size HG.out), hb4⟩, Pl.start m (by omega) (by omega)⟩
    clear hb4 HL HN HBL HT HD HF HG HB4 HB3 HB1
    go_loopw [11, 14] (fun u v wr => ∃ (P : Nat) (k : Nat), u = .pointer (some ⟨P, 0, none⟩) ∧ v = .int .i64 (k : Int) ∧ k ≤ n ∧ Hid (AtK w P P2 G2 k wr)) (fun _ v _ => n - (intOf v).toNat)
    case atStart => exact ⟨P, 0, rfl, rfl, Nat.zero_le _, HS0.out⟩
    case round =>
      clear HS0
      obtain ⟨P3, k, rfl, rfl, hk, HA⟩ := hrel
      obtain ⟨t, r, hM, hP⟩ := HA.out
      have HM := Lib.hid hM
      have HP := Lib.hid hP
      clear hM hP HA
      by_cases he : k = n
      · subst he
        have HB := Lib.hid HM.out.bel
        go_wp2_with (go_at_call 7; (with_reducible refine (t_alive _).mono ?_); rintro e w9 ⟨rfl, hb⟩; replace HB := Lib.hid (ptrans HB.out hb); clear hb)
        go_ret
        exact ⟨rfl, HB.out⟩
      · have hkn : k < n := by omega
        obtain ⟨ab, ao, rfl, hlt, hc⟩ := HS.out.at_ (by omega)
        have hf := HS.out.fits k hkn
        have HF := Lib.hid hf
        have hcc : ∀ W, Below w.heap.size w W → StepAt W ab (ao + k * 8) (f k) := fun W hb => (hc k hkn).below hb hlt
        have HC := Lib.hid hcc
        obtain ⟨c0, c1, c2, c3, c4, c5, c6, c7⟩ := hcc _ HM.out.bel
        clear hcc hc hf hlt
        have HPN := Lib.hid (HP.out.play (f k))
        have hpl : ∀ W P, Mem w W P (1 + 2 * k) P2 G2 t r → Calls Tryz.prog 16 #[.pointer (some ⟨P, 0, none⟩), .pointer (some ⟨P2, 0, none⟩), stepV (f k)] W (DoesPost w P (1 + 2 * k) P2 G2 t r (f k)) := fun W P h => t_does (f k) HF.out h HP.out (by omega) (by omega)
        unfold stepV at hpl
        have HPL := Lib.hid hpl
        clear hpl
        by_cases hd : (f k).what = 10
        · have hdb : ((f k).what == 10) = true := by simpa using hd
          clear hd
          go_wp2_with (first
            | (go_at_call 11; (with_reducible refine (HM.out.copy HP.out (by omega)).mono ?_); rintro e w8 ⟨P4, rfl, h⟩; have HO := Lib.hid h; clear c0 c1 c2 c3 c4 c5 c6 c7; obtain ⟨c0, c1, c2, c3, c4, c5, c6, c7⟩ := HC.out _ h.mem.bel; clear h)
            | (go_at_call 12; (with_reducible refine (old_make HO.out (by omega) (by omega)).mono ?_); rintro e w9 ⟨⟨x1, x2, rfl⟩, h⟩; have HO2 := Lib.hid h; clear c0 c1 c2 c3 c4 c5 c6 c7; obtain ⟨c0, c1, c2, c3, c4, c5, c6, c7⟩ := HC.out _ h.mem.bel; clear h)
            | (go_at_call 13; (with_reducible refine (old_unlink _ HO2.out HF.out.name).mono ?_); rintro e w10 ⟨⟨x3, x4, rfl⟩, h⟩; have HO3 := Lib.hid h; clear c0 c1 c2 c3 c4 c5 c6 c7; obtain ⟨c0, c1, c2, c3, c4, c5, c6, c7⟩ := HC.out _ h.mem.bel; clear h)
            | (go_at_call 14; (with_reducible refine (old_write _ HO3.out HF.out.ino (by omega)).mono ?_); rintro e w11 ⟨⟨x5, rfl⟩, h⟩; have HO4 := Lib.hid h; clear c0 c1 c2 c3 c4 c5 c6 c7; obtain ⟨c0, c1, c2, c3, c4, c5, c6, c7⟩ := HC.out _ h.mem.bel; clear h)
            | (go_at_call 15; (with_reducible refine (old_hold _ HO4.out HF.out.ino (by omega)).mono ?_); rintro e w12 ⟨⟨x6, rfl⟩, h⟩; clear HM; have HM := Lib.hid h.mem; clear c0 c1 c2 c3 c4 c5 c6 c7; obtain ⟨c0, c1, c2, c3, c4, c5, c6, c7⟩ := HC.out _ h.mem.bel; clear h)
            | (go_at_call 16; (with_reducible refine (HPL.out _ _ HM.out).mono ?_); rintro e w5 ⟨rfl, h⟩; replace HM := Lib.hid h; replace HP := HPN; clear h)
            | (go_at_call 17; (with_reducible refine (t_sameT _ HM.out HP.out (by omega) (by omega)).mono ?_); rintro e w6 ⟨rfl, hb⟩; replace HM := Lib.hid (HM.out.below hb); clear hb)
            | (go_at_call 18; (with_reducible refine (t_one _ _ _ _ HM.out HP.out (by omega) (by omega) HI.out H1.out).mono ?_); rintro e w7 ⟨rfl, hb⟩; replace HM := Lib.hid (HM.out.below hb); clear hb))
          go_roundw
          case rel => exact ⟨_, k + 1, rfl, by go_num, by omega, _, _, HM.out, HP.out⟩
          case measure => simp [intOf]; omega
        · have hdb : ((f k).what == 10) = false := by simpa using hd
          go_wp2_with (first
            | (go_at_call 16; (with_reducible refine (HPL.out _ _ HM.out).mono ?_); rintro e w5 ⟨rfl, h⟩; replace HM := Lib.hid h; replace HP := HPN; clear h)
            | (go_at_call 17; (with_reducible refine (t_sameT _ HM.out HP.out (by omega) (by omega)).mono ?_); rintro e w6 ⟨rfl, hb⟩; replace HM := Lib.hid (HM.out.below hb); clear hb)
            | (go_at_call 18; (with_reducible refine (t_one _ _ _ _ HM.out HP.out (by omega) (by omega) HI.out H1.out).mono ?_); rintro e w7 ⟨rfl, hb⟩; replace HM := Lib.hid (HM.out.below hb); clear hb))
          go_roundw
          case rel => exact ⟨_, k + 1, rfl, by go_num, by omega, _, _, HM.out, HP.out⟩
          case measure => simp [intOf]; omega
  · have HG := Lib.hid (show inodes < 2 ∨ 256 < inodes by omega)
    have hb0 : (decide (inodes < 2) || decide (256 < inodes)) = true := by simpa using HG.out
    clear hgood
    go_enter Tryz.func3, Tryz.ntmps3
    go_wp2_with (first
      | (go_at_call 6; with_reducible refine HL.out.mono ?_; rintro e w1 hq; obtain ⟨b, rfl, hb, h1⟩ := hq.get3; clear hq; have HB1 := Lib.hid h1; clear h1 hb; cases b)
      | (go_at_call 7; with_reducible refine (t_alive _).mono ?_; rintro e w2 ⟨rfl, h2⟩; replace HB1 := Lib.hid (ptrans HB1.out h2); clear h2)
      | (go_at_call 8; with_reducible refine (t_nothing18 _).mono ?_; rintro e w2 ⟨rfl, h2⟩; replace HB1 := Lib.hid (ptrans HB1.out h2); clear h2)
      | (go_at_call 9; with_reducible refine (t_newNo _ _ HG.out).mono ?_; rintro e w3 ⟨rfl, rfl⟩))
    all_goals first
      | (go_ret; exact ⟨rfl, HB1.out⟩; done)
      | trace_state
end Go.Proofs.YtpcjbfhgmcioaaaGreat
