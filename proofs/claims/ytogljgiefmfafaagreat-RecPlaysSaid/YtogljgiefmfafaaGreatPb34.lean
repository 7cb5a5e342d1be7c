/- The law's alive, and the law. -/
import Derived.Test.YtogljgiefmfafaaGreatPb28
import Derived.Test.YtogljgiefmfafaaGreatPb32
import Derived.Test.YtogljgiefmfafaaGreatPb33
namespace Go.Proofs.YtogljgiefmfafaaGreat
section
open Go.RowKit Go.Maps
theorem results_rec1 {fn : Func} {p : Tmp} (h : fn.results = #[.cell p 50]) (tmps : Array Value) (w : World) (g : Nat) (t : TypeId) (cs : Array Value) (fr : Nat × Nat)
  (hp : tmps.getD p undef = .pointer (some ⟨g, 0, none⟩)) (hg : w.heap[g]? = some (.cells cs t fr)) (hi : (Tryz.prog.info? 50).map (·.size) = some cs.size) :
  (results fn tmps).run Tryz.prog w = .ok (.agg cs) w := by
 have hp' : tmps[p]?.getD undef = .pointer (some ⟨g, 0, none⟩) := by simpa using hp
 simp [results, h, hp', asAddr, run_loadVar_row w g t 50 cs fr _ hg Tryz.underlying50 rfl hi]
set_option maxRecDepth 100000 in
theorem t_mk (d i k : Int) (n : ByteArray) (w : World) : Calls Tryz.prog 51 #[.int .u32 d, .string n, .int .u32 i, .int .u8 k] w fun e w' => e = .returned (.agg #[.int .u64 0, .int .u8 1, .int .u32 d, .string n, .int .u32 i, .int .u8 k, .int .u32 0, .string ⟨#[]⟩, .int .u32 0, .int .u32 0, .int .i64 0, .string ⟨#[]⟩]) ∧ Below w.heap.size w w' := by
 go_enter Tryz.func51, Tryz.ntmps51
 go_wp2
 refine bodyPost_ret (results_rec1 rfl _ _ w.heap.size 50 (cellsR ⟨0, 1, d, n, i, k, 0, ⟨#[]⟩, 0, 0, 0, ⟨#[]⟩⟩) (0, 0) rfl ?_ infoR) rfl ?_
 · exact heap_alloc_new _ _
 · exact ⟨rfl, below_a1' w _⟩
def Ra : R := ⟨0, 1, 1, ⟨#[97]⟩, 2, 1, 0, ⟨#[]⟩, 0, 0, 0, ⟨#[]⟩⟩
def Rb : R := ⟨0, 1, 1, ⟨#[98]⟩, 3, 1, 0, ⟨#[]⟩, 0, 0, 0, ⟨#[]⟩⟩
def Rc : R := ⟨0, 3, 1, ⟨#[97]⟩, 2, 2, 0, ⟨#[]⟩, 0, 0, 0, ⟨#[]⟩⟩
def Rl : R := ⟨258, 2, 1, ⟨#[97]⟩, 5, 0, 0, ⟨#[]⟩, 0, 0, 0, ⟨#[]⟩⟩
def Ra3 : R := ⟨0, 1, 1, ⟨#[97]⟩, 3, 1, 0, ⟨#[]⟩, 0, 0, 0, ⟨#[]⟩⟩
def Rx : R := ⟨0, 1, 2, ⟨#[120]⟩, 5, 1, 0, ⟨#[]⟩, 0, 0, 0, ⟨#[]⟩⟩
def Rd5 : R := ⟨0, 1, 1, ⟨#[97]⟩, 5, 2, 0, ⟨#[]⟩, 0, 0, 0, ⟨#[]⟩⟩
def Rd6 : R := ⟨0, 1, 1, ⟨#[97]⟩, 6, 2, 0, ⟨#[]⟩, 0, 0, 0, ⟨#[]⟩⟩
def R0 : R := ⟨0, 0, 0, ⟨#[]⟩, 0, 0, 0, ⟨#[]⟩, 0, 0, 0, ⟨#[]⟩⟩
theorem ck_l : checkB Rl = true := by decide +kernel
theorem ck_5 : checkB Rd5 = true := by decide +kernel
theorem ck_6 : checkB Rd6 = true := by decide +kernel
theorem ck_0 : checkB R0 = false := by decide +kernel
theorem mt_ab : meetB Ra Rb = false := by decide +kernel
theorem mt_a3 : meetB Ra Ra3 = true := by decide +kernel
theorem mt_cx : meetB Rc Rx = true := by decide +kernel
theorem pa_len : (partsL Ra).length = 3 := by decide +kernel
theorem by_l : Rl.bytes = [2, 1, 0, 0, 0, 0, 0, 0, 2, 1, 0, 0, 0, 1, 97, 5, 0, 0, 0] := by decide +kernel
theorem mk_5 : (makeAtP (newT 8) 1 ⟨#[97]⟩ 2 5).1 = 0 := by decide +kernel
theorem mk_6 : (makeAtP (makeAtP (newT 8) 1 ⟨#[97]⟩ 2 5).2 1 ⟨#[97]⟩ 2 6).1 = 9 := by decide +kernel
theorem ok_Ra : Ra.Ok := ⟨by decide, by decide, by decide, by decide, by decide, by decide, by decide, by decide⟩
theorem sz_Ra : Ra.name.size ≤ maxLen ∧ Ra.name2.size ≤ maxLen := ⟨by decide, by decide⟩
theorem ok_Rb : Rb.Ok := ⟨by decide, by decide, by decide, by decide, by decide, by decide, by decide, by decide⟩
theorem sz_Rb : Rb.name.size ≤ maxLen ∧ Rb.name2.size ≤ maxLen := ⟨by decide, by decide⟩
theorem ok_Rc : Rc.Ok := ⟨by decide, by decide, by decide, by decide, by decide, by decide, by decide, by decide⟩
theorem sz_Rc : Rc.name.size ≤ maxLen ∧ Rc.name2.size ≤ maxLen := ⟨by decide, by decide⟩
theorem ok_Rl : Rl.Ok := ⟨by decide, by decide, by decide, by decide, by decide, by decide, by decide, by decide⟩
theorem sz_Rl : Rl.name.size ≤ maxLen ∧ Rl.name2.size ≤ maxLen := ⟨by decide, by decide⟩
theorem ok_Ra3 : Ra3.Ok := ⟨by decide, by decide, by decide, by decide, by decide, by decide, by decide, by decide⟩
theorem sz_Ra3 : Ra3.name.size ≤ maxLen ∧ Ra3.name2.size ≤ maxLen := ⟨by decide, by decide⟩
theorem ok_Rx : Rx.Ok := ⟨by decide, by decide, by decide, by decide, by decide, by decide, by decide, by decide⟩
theorem sz_Rx : Rx.name.size ≤ maxLen ∧ Rx.name2.size ≤ maxLen := ⟨by decide, by decide⟩
theorem ok_Rd5 : Rd5.Ok := ⟨by decide, by decide, by decide, by decide, by decide, by decide, by decide, by decide⟩
theorem sz_Rd5 : Rd5.name.size ≤ maxLen ∧ Rd5.name2.size ≤ maxLen := ⟨by decide, by decide⟩
theorem ok_Rd6 : Rd6.Ok := ⟨by decide, by decide, by decide, by decide, by decide, by decide, by decide, by decide⟩
theorem sz_Rd6 : Rd6.name.size ≤ maxLen ∧ Rd6.name2.size ≤ maxLen := ⟨by decide, by decide⟩
theorem ok_R0 : R0.Ok := ⟨by decide, by decide, by decide, by decide, by decide, by decide, by decide, by decide⟩
theorem sz_R0 : R0.name.size ≤ maxLen ∧ R0.name2.size ≤ maxLen := ⟨by decide, by decide⟩
theorem t_put_l (w : World) : Calls Tryz.prog 52 #[.agg #[.int .u64 258, .int .u8 2, .int .u32 1, .string ⟨#[97]⟩, .int .u32 5, .int .u8 0, .int .u32 0, .string ⟨#[]⟩, .int .u32 0, .int .u32 0, .int .i64 0, .string ⟨#[]⟩]] w fun e w' => e = .returned (.tuple #[.string ⟨#[2, 1, 0, 0, 0, 0, 0, 0, 2, 1, 0, 0, 0, 1, 97, 5, 0, 0, 0]⟩, .int .i64 0]) ∧ Below w.heap.size w w' := by
 have h := t_put Rl ok_Rl sz_Rl.1 sz_Rl.2 w
 rw [if_pos ck_l, by_l] at h
 exact h
theorem t_get_l (w : World) : Calls Tryz.prog 53 #[.string (⟨#[2, 1, 0, 0, 0, 0, 0, 0, 2, 1, 0, 0, 0, 1, 97, 5, 0, 0, 0]⟩ ++ ⟨#[120]⟩)] w fun e w' => e = .returned (.tuple #[.agg #[.int .u64 258, .int .u8 2, .int .u32 1, .string ⟨#[97]⟩, .int .u32 5, .int .u8 0, .int .u32 0, .string ⟨#[]⟩, .int .u32 0, .int .u32 0, .int .i64 0, .string ⟨#[]⟩], .string ⟨#[120]⟩, .int .i64 0]) ∧ Below w.heap.size w w' := by
 have h := t_get ⟨#[2, 1, 0, 0, 0, 0, 0, 0, 2, 1, 0, 0, 0, 1, 97, 5, 0, 0, 0, 120]⟩ (by decide) w
 have e0 : (⟨#[2, 1, 0, 0, 0, 0, 0, 0, 2, 1, 0, 0, 0, 1, 97, 5, 0, 0, 0]⟩ : ByteArray) ++ ⟨#[120]⟩ = ⟨#[2, 1, 0, 0, 0, 0, 0, 0, 2, 1, 0, 0, 0, 1, 97, 5, 0, 0, 0, 120]⟩ := by
  apply ByteArray.ext
  rw [ByteArray.data_append]
  rfl
 have e : getR (⟨#[2, 1, 0, 0, 0, 0, 0, 0, 2, 1, 0, 0, 0, 1, 97, 5, 0, 0, 0, 120]⟩ : ByteArray).data.toList = (Rl, ⟨false, [120]⟩) := by
  have g := get_put (bare_of_check ok_Rl ck_l) [120]
  rw [by_l] at g
  exact g
 rw [e, if_pos ⟨rfl, ck_l⟩] at h
 rw [e0]
 exact h
theorem t_meet_ab (w : World) : Calls Tryz.prog 30 #[.agg #[.int .u64 0, .int .u8 1, .int .u32 1, .string ⟨#[97]⟩, .int .u32 2, .int .u8 1, .int .u32 0, .string ⟨#[]⟩, .int .u32 0, .int .u32 0, .int .i64 0, .string ⟨#[]⟩], .agg #[.int .u64 0, .int .u8 1, .int .u32 1, .string ⟨#[98]⟩, .int .u32 3, .int .u8 1, .int .u32 0, .string ⟨#[]⟩, .int .u32 0, .int .u32 0, .int .i64 0, .string ⟨#[]⟩]] w fun e w' => e = .returned (.bool false) ∧ Below w.heap.size w w' := by
 have h := t_meet Ra Rb ok_Ra sz_Ra.1 sz_Ra.2 ok_Rb sz_Rb.1 sz_Rb.2 w
 rw [mt_ab] at h
 exact h
theorem t_meet_a3 (w : World) : Calls Tryz.prog 30 #[.agg #[.int .u64 0, .int .u8 1, .int .u32 1, .string ⟨#[97]⟩, .int .u32 2, .int .u8 1, .int .u32 0, .string ⟨#[]⟩, .int .u32 0, .int .u32 0, .int .i64 0, .string ⟨#[]⟩], .agg #[.int .u64 0, .int .u8 1, .int .u32 1, .string ⟨#[97]⟩, .int .u32 3, .int .u8 1, .int .u32 0, .string ⟨#[]⟩, .int .u32 0, .int .u32 0, .int .i64 0, .string ⟨#[]⟩]] w fun e w' => e = .returned (.bool true) ∧ Below w.heap.size w w' := by
 have h := t_meet Ra Ra3 ok_Ra sz_Ra.1 sz_Ra.2 ok_Ra3 sz_Ra3.1 sz_Ra3.2 w
 rw [mt_a3] at h
 exact h
theorem t_meet_cx (w : World) : Calls Tryz.prog 30 #[.agg #[.int .u64 0, .int .u8 3, .int .u32 1, .string ⟨#[97]⟩, .int .u32 2, .int .u8 2, .int .u32 0, .string ⟨#[]⟩, .int .u32 0, .int .u32 0, .int .i64 0, .string ⟨#[]⟩], .agg #[.int .u64 0, .int .u8 1, .int .u32 2, .string ⟨#[120]⟩, .int .u32 5, .int .u8 1, .int .u32 0, .string ⟨#[]⟩, .int .u32 0, .int .u32 0, .int .i64 0, .string ⟨#[]⟩]] w fun e w' => e = .returned (.bool true) ∧ Below w.heap.size w w' := by
 have h := t_meet Rc Rx ok_Rc sz_Rc.1 sz_Rc.2 ok_Rx sz_Rx.1 sz_Rx.2 w
 rw [mt_cx] at h
 exact h
theorem t_check_0 (w : World) : Calls Tryz.prog 54 #[.agg #[.int .u64 0, .int .u8 0, .int .u32 0, .string ⟨#[]⟩, .int .u32 0, .int .u8 0, .int .u32 0, .string ⟨#[]⟩, .int .u32 0, .int .u32 0, .int .i64 0, .string ⟨#[]⟩]] w fun e w' => e = .returned (.int .i64 2) ∧ Below w.heap.size w w' := by
 have h := t_chk R0 ok_R0 sz_R0.1 sz_R0.2 w
 rw [show checkE R0 = 2 by unfold checkE; rw [ck_0]; rfl] at h
 exact h
theorem t_parts_a (w : World) : Calls Tryz.prog 55 #[.agg #[.int .u64 0, .int .u8 1, .int .u32 1, .string ⟨#[97]⟩, .int .u32 2, .int .u8 1, .int .u32 0, .string ⟨#[]⟩, .int .u32 0, .int .u32 0, .int .i64 0, .string ⟨#[]⟩]] w fun e w' => ∃ A c, e = .returned (.slice A 3 c) ∧ Below w.heap.size w w' := by
 refine (t_parts Ra ok_Ra sz_Ra.1 sz_Ra.2 w).mono ?_
 rintro e w' ⟨v, rfl, ho, hb⟩
 rw [pa_len] at ho
 obtain ⟨A, c, rfl⟩ := row_slice ho
 exact ⟨A, c, rfl, hb⟩
theorem t_playNil_a (w : World) : Calls Tryz.prog 27 #[.pointer none, .agg #[.int .u64 0, .int .u8 1, .int .u32 1, .string ⟨#[97]⟩, .int .u32 2, .int .u8 1, .int .u32 0, .string ⟨#[]⟩, .int .u32 0, .int .u32 0, .int .i64 0, .string ⟨#[]⟩]] w fun e w' => e = .returned (.int .i64 1) ∧ Below w.heap.size w w' := t_playNil Ra w
section
variable {F : Nat → Prop} {P N : Nat} {y : Lay} {t : PT}
theorem t_play_5 (w : World) (h : TreeM w F P N y (newT 8)) (hN : N < 900000) : Calls Tryz.prog 27 #[.pointer (some ⟨P, 0, none⟩), .agg #[.int .u64 0, .int .u8 1, .int .u32 1, .string ⟨#[97]⟩, .int .u32 5, .int .u8 2, .int .u32 0, .string ⟨#[]⟩, .int .u32 0, .int .u32 0, .int .i64 0, .string ⟨#[]⟩]] w fun e w' => e = .returned (.int .i64 0) ∧ Became w w' F P (N + 2) (makeAtP (newT 8) 1 ⟨#[97]⟩ 2 5).2 :=
 t_playMake Rd5 ok_Rd5 sz_Rd5.1 sz_Rd5.2 ck_5 rfl rfl 0 _ (Prod.ext mk_5 rfl) w h hN
theorem t_play_6 (w : World) (h : TreeM w F P N y (makeAtP (newT 8) 1 ⟨#[97]⟩ 2 5).2) (hN : N < 900000) : Calls Tryz.prog 27 #[.pointer (some ⟨P, 0, none⟩), .agg #[.int .u64 0, .int .u8 1, .int .u32 1, .string ⟨#[97]⟩, .int .u32 6, .int .u8 2, .int .u32 0, .string ⟨#[]⟩, .int .u32 0, .int .u32 0, .int .i64 0, .string ⟨#[]⟩]] w fun e w' => e = .returned (.int .i64 9) ∧ ∃ t', Became w w' F P (N + 2) t' :=
 (t_playMake Rd6 ok_Rd6 sz_Rd6.1 sz_Rd6.2 ck_6 rfl rfl 9 _ (Prod.ext mk_6 rfl) w h hN).mono fun _e _w' ⟨h1, h2⟩ => ⟨h1, _, h2⟩
end
theorem blk_cell {W : World} {B : Nat} {c : Array Value} {T : TypeId} (h : W.heap[B]? = some (.cells c T (0, 0))) (i : Nat) (v : Value) (hv : c[i]? = some v) : W.cell? ⟨B, i, none⟩ = some v := by simp only [World.cell?, h]; exact hv
theorem two_turns {Z w5 w6 w7 w8 w9 : World} {F F7 F9 : Nat → Prop} (hb5 : Below Z.heap.size Z w5) (hF : ∀ b, F b → Z.heap.size ≤ b) (hb6 : Below w5.heap.size w5 w6) (hu7 : Turn w6 w7 F F7) (hb8 : Below w7.heap.size w7 w8) (hu9 : Turn w8 w9 F7 F9) : Below Z.heap.size Z w9 := by
 have hu : Turn w5 w9 F F9 := (((Turn.of_below F hb6).trans hu7).trans (Turn.of_below F7 hb8)).trans hu9
 exact hb5.trans (hu.below hF hb5.size)
theorem three_blocks (w2 : World) (a b c : Array Value) (T : TypeId) : (((w2.alloc (.cells a T)).alloc (.cells b T)).alloc (.cells c T)).heap[w2.heap.size]? = some (.cells a T (0, 0)) ∧ (((w2.alloc (.cells a T)).alloc (.cells b T)).alloc (.cells c T)).heap[w2.heap.size + 1]? = some (.cells b T (0, 0)) ∧
  (((w2.alloc (.cells a T)).alloc (.cells b T)).alloc (.cells c T)).heap[w2.heap.size + 1 + 1]? = some (.cells c T (0, 0)) := by
 have hn : ∀ (W : World) (c : Array Value) (T : TypeId) (n : Nat), W.heap.size = n → (W.alloc (.cells c T)).heap[n]? = some (.cells c T (0, 0)) := fun W c T n h => by subst h; exact heap_alloc_new _ _
 have ho : ∀ (W : World) (o : Obj) (k : Nat) (x : Obj), W.heap[k]? = some x → (W.alloc o).heap[k]? = some x := fun W o k x h => (heap_alloc_old W o (lt_heap h)).trans h
 exact ⟨ho _ _ _ _ (ho _ _ _ _ (hn _ _ _ _ rfl)), ho _ _ _ _ (hn _ _ _ _ (by simp)), hn _ _ _ _ (by simp)⟩
set_option maxRecDepth 100000 in
set_option maxHeartbeats 8000000 in
theorem t_alive22 (w : World) : Calls Tryz.prog 23 #[] w fun e w' => e = .returned (.bool true) ∧ Below w.heap.size w w' := by
 go_enter Tryz.func23, Tryz.ntmps23
 go_wp2_with (first
  | (go_at_call 51; (with_reducible refine (t_mk 1 2 1 ⟨#[97]⟩ _).mono ?_); rintro e w1 ⟨rfl, hb⟩; have HB1 := zz hb; clear hb)
  | (go_at_call 51; (with_reducible refine (t_mk 1 3 1 ⟨#[98]⟩ _).mono ?_); rintro e w2 ⟨rfl, hb⟩; have HB2 := zz hb; clear hb)
  | (go_at_call 52; (with_reducible refine (t_put_l _).mono ?_); rintro e w3 ⟨rfl, hb⟩; have HB3 := zz hb; clear hb)
  | (go_at_call 53; (with_reducible refine (t_get_l _).mono ?_); rintro e w4 ⟨rfl, hb⟩; have HB4 := zz hb; clear hb)
  | (go_at_call 16; (with_reducible refine (t_new 8 _ (by decide) (by decide)).mono ?_); rintro e w5 ⟨P, y, F, rfl, hT, hb, hF⟩; have HB5 := zz (And.intro hT (And.intro hb hF)); clear hT hb hF)
  | (go_at_call 51; (with_reducible refine (t_mk 1 5 2 ⟨#[97]⟩ _).mono ?_); rintro e w6 ⟨rfl, hb⟩; have HB6 := zz hb; clear hb)
  | (go_at_call 27; (with_reducible refine (t_play_5 _ (HB5.out.1.below HB6.out) (by decide)).mono ?_); rintro e w7 ⟨rfl, hb⟩; obtain ⟨y7, F7, hT7, hu7⟩ := hb; have HB7 := zz (And.intro hT7 hu7); clear hT7 hu7)
  | (go_at_call 51; (with_reducible refine (t_mk 1 6 2 ⟨#[97]⟩ _).mono ?_); rintro e w8 ⟨rfl, hb⟩; have HB8 := zz hb; clear hb)
  | (go_at_call 27; (with_reducible refine (t_play_6 _ (HB7.out.1.below HB8.out) (by decide)).mono ?_); rintro e w9 ⟨rfl, t9, hb⟩; obtain ⟨y9, F9, hT9, hu9⟩ := hb; have HB9 := zz (And.intro hT9 hu9); clear hT9 hu9))
 have hz := two_turns HB5.out.2.1 HB5.out.2.2 HB6.out HB7.out.2 HB8.out HB9.out.2
 have h4 : Below w4.heap.size w4 w9 := (below_a1' w4 _).trans (hz.mono (by rw [World.alloc_size']; omega))
 have h3 := ptrans HB3.out (ptrans HB4.out h4)
 obtain ⟨t1, t2, t3⟩ := three_blocks w2 #[.int .u64 0, .int .u8 1, .int .u32 1, .string ⟨#[97]⟩, .int .u32 2, .int .u8 1, .int .u32 0, .string ⟨#[]⟩, .int .u32 0, .int .u32 0, .int .i64 0, .string ⟨#[]⟩] #[.int .u64 0, .int .u8 1, .int .u32 1, .string ⟨#[98]⟩, .int .u32 3, .int .u8 1, .int .u32 0, .string ⟨#[]⟩, .int .u32 0, .int .u32 0, .int .i64 0, .string ⟨#[]⟩] #[.int .u64 0, .int .u8 3, .int .u32 1, .string ⟨#[97]⟩, .int .u32 2, .int .u8 2, .int .u32 0, .string ⟨#[]⟩, .int .u32 0, .int .u32 0, .int .i64 0, .string ⟨#[]⟩] 50
 have k1 := RelB.rec h3 t1
 have k2 := RelB.rec h3 t2
 have k3 := RelB.rec h3 t3
 have k6 : w9.heap[w4.heap.size]? = some (.cells #[.int .u64 258, .int .u8 2, .int .u32 1, .string ⟨#[97]⟩, .int .u32 5, .int .u8 0, .int .u32 0, .string ⟨#[]⟩, .int .u32 0, .int .u32 0, .int .i64 0, .string ⟨#[]⟩] 50 (0, 0)) := RelB.rec hz (heap_alloc_new w4 _)
 have hfin : Below w.heap.size w w9 := ptrans HB1.out (ptrans HB2.out (((below_a1' w2 _).alloc (by rw [World.alloc_size']; omega) _).alloc (by rw [World.alloc_size', World.alloc_size']; omega) _ |>.trans (h3.mono (by rw [World.alloc_size', World.alloc_size', World.alloc_size']; omega))))
 have HFIN := zz hfin
 clear hz h4 h3 t1 t2 t3 hfin HB1 HB2 HB3 HB4 HB5 HB6 HB7 HB8 HB9
 obtain ⟨A3, hA3⟩ : ∃ B, w2.heap.size + 1 + 1 = B := ⟨_, rfl⟩
 rw [hA3] at k3 ⊢
 obtain ⟨A2, hA2⟩ : ∃ B, w2.heap.size + 1 = B := ⟨_, rfl⟩
 rw [hA2] at k2 ⊢
 obtain ⟨A1, hA1⟩ : ∃ B, w2.heap.size = B := ⟨_, rfl⟩
 rw [hA1] at k1 ⊢
 obtain ⟨A6, hA6⟩ : ∃ B, w4.heap.size = B := ⟨_, rfl⟩
 rw [hA6] at k6 ⊢
 have HRa := zz k1
 have HRb := zz k2
 have HRc := zz k3
 have HRl := zz k6
 clear k1 k2 k3 k6 hA1 hA2 hA3 hA6
 refine wp_region_rel (fun W W' => RelB W W') (phi [isV (.agg #[.int .u64 0, .int .u8 1, .int .u32 1, .string ⟨#[97]⟩, .int .u32 2, .int .u8 1, .int .u32 0, .string ⟨#[]⟩, .int .u32 0, .int .u32 0, .int .i64 0, .string ⟨#[]⟩]), isV (.agg #[.int .u64 0, .int .u8 1, .int .u32 1, .string ⟨#[98]⟩, .int .u32 3, .int .u8 1, .int .u32 0, .string ⟨#[]⟩, .int .u32 0, .int .u32 0, .int .i64 0, .string ⟨#[]⟩]), isV (.bool false), isV (.bool true), isV (.bool true), isV (.agg #[.int .u64 0, .int .u8 1, .int .u32 1, .string ⟨#[97]⟩, .int .u32 2, .int .u8 1, .int .u32 0, .string ⟨#[]⟩, .int .u32 0, .int .u32 0, .int .i64 0, .string ⟨#[]⟩]), isV (.agg #[.int .u64 0, .int .u8 1, .int .u32 1, .string ⟨#[97]⟩, .int .u32 3, .int .u8 1, .int .u32 0, .string ⟨#[]⟩, .int .u32 0, .int .u32 0, .int .i64 0, .string ⟨#[]⟩]), isV (.bool true), isV (.bool true), isV (.bool true), isV (.agg #[.int .u64 0, .int .u8 3, .int .u32 1, .string ⟨#[97]⟩, .int .u32 2, .int .u8 2, .int .u32 0, .string ⟨#[]⟩, .int .u32 0, .int .u32 0, .int .i64 0, .string ⟨#[]⟩]), isV (.agg #[.int .u64 0, .int .u8 1, .int .u32 2, .string ⟨#[120]⟩, .int .u32 5, .int .u8 1, .int .u32 0, .string ⟨#[]⟩, .int .u32 0, .int .u32 0, .int .i64 0, .string ⟨#[]⟩]), isV (.bool true), isV (.bool true), isV (.bool true), isV (.string ⟨#[2, 1, 0, 0, 0, 0, 0, 0, 2, 1, 0, 0, 0, 1, 97, 5, 0, 0, 0]⟩), isV (.bool true), isV (.bool true), isV (.bool true), isV (.int .i64 0), isV (.bool true), isV (.bool true), isV (.bool true), isV (.pointer (some ⟨A6, 0, none⟩)), isV (.int .u64 258), isV (.bool true), isV (.bool true), isV (.bool true), isV (.string ⟨#[120]⟩), isV (.bool true), isV (.bool true), isV (.bool true), isV (.int .i64 0), isV (.bool true), isV (.bool true), isV (.bool true), isV (.int .i64 0), isV (.bool true), isV (.bool true), isV (.bool true), isV (.int .i64 0), isV (.bool true), isV (.bool true), isV (.bool true), isV (.int .i64 9), isV (.bool true), isV (.bool true), isV (.bool true), isV (.agg #[.int .u64 0, .int .u8 1, .int .u32 1, .string ⟨#[97]⟩, .int .u32 2, .int .u8 1, .int .u32 0, .string ⟨#[]⟩, .int .u32 0, .int .u32 0, .int .i64 0, .string ⟨#[]⟩]), isV (.int .i64 1), isV (.bool true), isV (.bool true), isV (.bool true), isV (.agg #[.int .u64 0, .int .u8 0, .int .u32 0, .string ⟨#[]⟩, .int .u32 0, .int .u8 0, .int .u32 0, .string ⟨#[]⟩, .int .u32 0, .int .u32 0, .int .i64 0, .string ⟨#[]⟩]), isV (.int .i64 2), isV (.bool true), isV (.bool true), isV (.bool true), isV (.agg #[.int .u64 0, .int .u8 1, .int .u32 1, .string ⟨#[97]⟩, .int .u32 2, .int .u8 1, .int .u32 0, .string ⟨#[]⟩, .int .u32 0, .int .u32 0, .int .i64 0, .string ⟨#[]⟩]), fun v _ => ∃ A c, v = .slice A 3 c, isV (.int .i64 3), isV (.bool true), isV (.bool true), isV (.bool true)]) (by kernel_rfl) (by kernel_rfl) (by kernel_rfl) (RelB.of (below_drew _)) (fun _ _ _ a b => a.trans b) ?_ ?_ ?_
 · refine stays_phiR ?_
   simp only [List.forall_mem_cons]
   exact ⟨kv, kv, kv, kv, kv, kv, kv, kv, kv, kv, kv, kv, kv, kv, kv, kv, kv, kv, kv, kv, kv, kv, kv, kv, kv, kv, kv, kv, kv, kv, kv, kv, kv, kv, kv, kv, kv, kv, kv, kv, kv, kv, kv, kv, kv, kv, kv, kv, kv, kv, kv, kv, kv, kv, kv, kv, kv, kv, kv, fun _ _ _ g _ => g, kv, kv, kv, kv, fun _ h => absurd h (by simp)⟩
 · refine ⟨?_, ?_, ?_, ?_, ?_, ?_, ?_, ?_, ?_, ?_, ?_, ?_, ?_, ?_, ?_, ?_, ?_, ?_, ?_, ?_, ?_, ?_, ?_, ?_, ?_, ?_, ?_, ?_, ?_, ?_, ?_, ?_, ?_, ?_, ?_, ?_, ?_, ?_, ?_, ?_, ?_, ?_, ?_, ?_, ?_, ?_, ?_, ?_, ?_, ?_, ?_, ?_, ?_, ?_, ?_, ?_, ?_, ?_, ?_, ?_, ?_, ?_, ?_, ?_, trivial⟩
   · refine opR_mk rfl fun a W2 hB hp hq K hK => ?_
     have e1 : a.tmps[1]?.getD undef = .pointer (some ⟨A1, 0, none⟩) := hp 1 (by kernel_rfl)
     have c0 := blk_cell (hB.rec HRa.out) 0 _ rfl
     have c1 := blk_cell (hB.rec HRa.out) 1 _ rfl
     have c2 := blk_cell (hB.rec HRa.out) 2 _ rfl
     have c3 := blk_cell (hB.rec HRa.out) 3 _ rfl
     have c4 := blk_cell (hB.rec HRa.out) 4 _ rfl
     have c5 := blk_cell (hB.rec HRa.out) 5 _ rfl
     have c6 := blk_cell (hB.rec HRa.out) 6 _ rfl
     have c7 := blk_cell (hB.rec HRa.out) 7 _ rfl
     have c8 := blk_cell (hB.rec HRa.out) 8 _ rfl
     have c9 := blk_cell (hB.rec HRa.out) 9 _ rfl
     have c10 := blk_cell (hB.rec HRa.out) 10 _ rfl
     have c11 := blk_cell (hB.rec HRa.out) 11 _ rfl
     clear hp hq
     go_simp
     exact hK _ _ (RelB.refl _) rfl
   · refine opR_mk rfl fun a W2 hB hp hq K hK => ?_
     have e2 : a.tmps[2]?.getD undef = .pointer (some ⟨A2, 0, none⟩) := hp 2 (by kernel_rfl)
     have c0 := blk_cell (hB.rec HRb.out) 0 _ rfl
     have c1 := blk_cell (hB.rec HRb.out) 1 _ rfl
     have c2 := blk_cell (hB.rec HRb.out) 2 _ rfl
     have c3 := blk_cell (hB.rec HRb.out) 3 _ rfl
     have c4 := blk_cell (hB.rec HRb.out) 4 _ rfl
     have c5 := blk_cell (hB.rec HRb.out) 5 _ rfl
     have c6 := blk_cell (hB.rec HRb.out) 6 _ rfl
     have c7 := blk_cell (hB.rec HRb.out) 7 _ rfl
     have c8 := blk_cell (hB.rec HRb.out) 8 _ rfl
     have c9 := blk_cell (hB.rec HRb.out) 9 _ rfl
     have c10 := blk_cell (hB.rec HRb.out) 10 _ rfl
     have c11 := blk_cell (hB.rec HRb.out) 11 _ rfl
     clear hp hq
     go_simp
     exact hK _ _ (RelB.refl _) rfl
   · refine opR_mk rfl fun a W2 hB hp hq K hK => ?_
     have e38 : a.tmps[38]?.getD undef = .agg #[.int .u64 0, .int .u8 1, .int .u32 1, .string ⟨#[97]⟩, .int .u32 2, .int .u8 1, .int .u32 0, .string ⟨#[]⟩, .int .u32 0, .int .u32 0, .int .i64 0, .string ⟨#[]⟩] := hq 0 _ (by kernel_rfl) rfl
     have e39 : a.tmps[39]?.getD undef = .agg #[.int .u64 0, .int .u8 1, .int .u32 1, .string ⟨#[98]⟩, .int .u32 3, .int .u8 1, .int .u32 0, .string ⟨#[]⟩, .int .u32 0, .int .u32 0, .int .i64 0, .string ⟨#[]⟩] := hq 1 _ (by kernel_rfl) rfl
     clear hp hq
     go_simp
     refine (t_meet_ab _).mono ?_
     rintro e w2 ⟨rfl, hb2⟩
     exact hK _ _ (RelB.of hb2) rfl
   · refine opR_mk rfl fun a W2 hB hp hq K hK => ?_
     have e40 : a.tmps[40]?.getD undef = .bool false := hq 2 _ (by kernel_rfl) rfl
     clear hp hq
     go_simp
     exact hK _ _ (RelB.refl _) rfl
   · refine opR_mk rfl fun a W2 hB hp hq K hK => ?_
     have e41 : a.tmps[41]?.getD undef = .bool true := hq 3 _ (by kernel_rfl) rfl
     clear hp hq
     go_simp
     exact hK _ _ (RelB.refl _) rfl
   · refine opR_guard (j := 4) (d := 42) (c := true) rfl rfl (by kernel_rfl) rfl rfl (fun v W h => h) (fun _ => RelB.refl _) (fun hne => absurd rfl hne) fun hc a W2 hB hp hq K hK => ?_
     have e1 : a.tmps[1]?.getD undef = .pointer (some ⟨A1, 0, none⟩) := hp 1 (by kernel_rfl)
     have c0 := blk_cell (hB.rec HRa.out) 0 _ rfl
     have c1 := blk_cell (hB.rec HRa.out) 1 _ rfl
     have c2 := blk_cell (hB.rec HRa.out) 2 _ rfl
     have c3 := blk_cell (hB.rec HRa.out) 3 _ rfl
     have c4 := blk_cell (hB.rec HRa.out) 4 _ rfl
     have c5 := blk_cell (hB.rec HRa.out) 5 _ rfl
     have c6 := blk_cell (hB.rec HRa.out) 6 _ rfl
     have c7 := blk_cell (hB.rec HRa.out) 7 _ rfl
     have c8 := blk_cell (hB.rec HRa.out) 8 _ rfl
     have c9 := blk_cell (hB.rec HRa.out) 9 _ rfl
     have c10 := blk_cell (hB.rec HRa.out) 10 _ rfl
     have c11 := blk_cell (hB.rec HRa.out) 11 _ rfl
     clear hp hq
     go_simp
     exact hK _ _ (RelB.refl _) rfl
   · refine opR_guard (j := 4) (d := 42) (c := true) rfl rfl (by kernel_rfl) rfl rfl (fun v W h => h) (fun _ => RelB.refl _) (fun hne => absurd rfl hne) fun hc a W2 hB hp hq K hK => ?_
     clear hp hq
     go_simp
     refine (t_mk 1 3 1 ⟨#[97]⟩ _).mono ?_
     rintro e w2 ⟨rfl, hb2⟩
     exact hK _ _ (RelB.of hb2) rfl
   · refine opR_guard (j := 4) (d := 42) (c := true) rfl rfl (by kernel_rfl) rfl rfl (fun v W h => h) (fun _ => RelB.refl _) (fun hne => absurd rfl hne) fun hc a W2 hB hp hq K hK => ?_
     have e43 : a.tmps[43]?.getD undef = .agg #[.int .u64 0, .int .u8 1, .int .u32 1, .string ⟨#[97]⟩, .int .u32 2, .int .u8 1, .int .u32 0, .string ⟨#[]⟩, .int .u32 0, .int .u32 0, .int .i64 0, .string ⟨#[]⟩] := hq 5 _ (by kernel_rfl) rfl
     have e44 : a.tmps[44]?.getD undef = .agg #[.int .u64 0, .int .u8 1, .int .u32 1, .string ⟨#[97]⟩, .int .u32 3, .int .u8 1, .int .u32 0, .string ⟨#[]⟩, .int .u32 0, .int .u32 0, .int .i64 0, .string ⟨#[]⟩] := hq 6 _ (by kernel_rfl) rfl
     clear hp hq
     go_simp
     refine (t_meet_a3 _).mono ?_
     rintro e w2 ⟨rfl, hb2⟩
     exact hK _ _ (RelB.of hb2) rfl
   · refine opR_mk rfl fun a W2 hB hp hq K hK => ?_
     have e42 : a.tmps[42]?.getD undef = .bool true := hq 4 _ (by kernel_rfl) rfl
     have e45 : a.tmps[45]?.getD undef = .bool true := hq 7 _ (by kernel_rfl) rfl
     clear hp hq
     go_simp
     exact hK _ _ (RelB.refl _) rfl
   · refine opR_mk rfl fun a W2 hB hp hq K hK => ?_
     have e46 : a.tmps[46]?.getD undef = .bool true := hq 8 _ (by kernel_rfl) rfl
     clear hp hq
     go_simp
     exact hK _ _ (RelB.refl _) rfl
   · refine opR_guard (j := 9) (d := 47) (c := true) rfl rfl (by kernel_rfl) rfl rfl (fun v W h => h) (fun _ => RelB.refl _) (fun hne => absurd rfl hne) fun hc a W2 hB hp hq K hK => ?_
     have e3 : a.tmps[3]?.getD undef = .pointer (some ⟨A3, 0, none⟩) := hp 3 (by kernel_rfl)
     have c0 := blk_cell (hB.rec HRc.out) 0 _ rfl
     have c1 := blk_cell (hB.rec HRc.out) 1 _ rfl
     have c2 := blk_cell (hB.rec HRc.out) 2 _ rfl
     have c3 := blk_cell (hB.rec HRc.out) 3 _ rfl
     have c4 := blk_cell (hB.rec HRc.out) 4 _ rfl
     have c5 := blk_cell (hB.rec HRc.out) 5 _ rfl
     have c6 := blk_cell (hB.rec HRc.out) 6 _ rfl
     have c7 := blk_cell (hB.rec HRc.out) 7 _ rfl
     have c8 := blk_cell (hB.rec HRc.out) 8 _ rfl
     have c9 := blk_cell (hB.rec HRc.out) 9 _ rfl
     have c10 := blk_cell (hB.rec HRc.out) 10 _ rfl
     have c11 := blk_cell (hB.rec HRc.out) 11 _ rfl
     clear hp hq
     go_simp
     exact hK _ _ (RelB.refl _) rfl
   · refine opR_guard (j := 9) (d := 47) (c := true) rfl rfl (by kernel_rfl) rfl rfl (fun v W h => h) (fun _ => RelB.refl _) (fun hne => absurd rfl hne) fun hc a W2 hB hp hq K hK => ?_
     clear hp hq
     go_simp
     refine (t_mk 2 5 1 ⟨#[120]⟩ _).mono ?_
     rintro e w2 ⟨rfl, hb2⟩
     exact hK _ _ (RelB.of hb2) rfl
   · refine opR_guard (j := 9) (d := 47) (c := true) rfl rfl (by kernel_rfl) rfl rfl (fun v W h => h) (fun _ => RelB.refl _) (fun hne => absurd rfl hne) fun hc a W2 hB hp hq K hK => ?_
     have e48 : a.tmps[48]?.getD undef = .agg #[.int .u64 0, .int .u8 3, .int .u32 1, .string ⟨#[97]⟩, .int .u32 2, .int .u8 2, .int .u32 0, .string ⟨#[]⟩, .int .u32 0, .int .u32 0, .int .i64 0, .string ⟨#[]⟩] := hq 10 _ (by kernel_rfl) rfl
     have e49 : a.tmps[49]?.getD undef = .agg #[.int .u64 0, .int .u8 1, .int .u32 2, .string ⟨#[120]⟩, .int .u32 5, .int .u8 1, .int .u32 0, .string ⟨#[]⟩, .int .u32 0, .int .u32 0, .int .i64 0, .string ⟨#[]⟩] := hq 11 _ (by kernel_rfl) rfl
     clear hp hq
     go_simp
     refine (t_meet_cx _).mono ?_
     rintro e w2 ⟨rfl, hb2⟩
     exact hK _ _ (RelB.of hb2) rfl
   · refine opR_mk rfl fun a W2 hB hp hq K hK => ?_
     have e47 : a.tmps[47]?.getD undef = .bool true := hq 9 _ (by kernel_rfl) rfl
     have e50 : a.tmps[50]?.getD undef = .bool true := hq 12 _ (by kernel_rfl) rfl
     clear hp hq
     go_simp
     exact hK _ _ (RelB.refl _) rfl
   · refine opR_mk rfl fun a W2 hB hp hq K hK => ?_
     have e51 : a.tmps[51]?.getD undef = .bool true := hq 13 _ (by kernel_rfl) rfl
     clear hp hq
     go_simp
     exact hK _ _ (RelB.refl _) rfl
   · refine opR_guard (j := 14) (d := 52) (c := true) rfl rfl (by kernel_rfl) rfl rfl (fun v W h => h) (fun _ => RelB.refl _) (fun hne => absurd rfl hne) fun hc a W2 hB hp hq K hK => ?_
     have e4 : a.tmps[4]?.getD undef = .string ⟨#[2, 1, 0, 0, 0, 0, 0, 0, 2, 1, 0, 0, 0, 1, 97, 5, 0, 0, 0]⟩ := hp 4 (by kernel_rfl)
     clear hp hq
     go_simp
     exact hK _ _ (RelB.refl _) rfl
   · refine opR_guard (j := 14) (d := 52) (c := true) rfl rfl (by kernel_rfl) rfl rfl (fun v W h => h) (fun _ => RelB.refl _) (fun hne => absurd rfl hne) fun hc a W2 hB hp hq K hK => ?_
     have e53 : a.tmps[53]?.getD undef = .string ⟨#[2, 1, 0, 0, 0, 0, 0, 0, 2, 1, 0, 0, 0, 1, 97, 5, 0, 0, 0]⟩ := hq 15 _ (by kernel_rfl) rfl
     clear hp hq
     go_simp
     exact hK _ _ (RelB.refl _) rfl
   · refine opR_mk rfl fun a W2 hB hp hq K hK => ?_
     have e52 : a.tmps[52]?.getD undef = .bool true := hq 14 _ (by kernel_rfl) rfl
     have e54 : a.tmps[54]?.getD undef = .bool true := hq 16 _ (by kernel_rfl) rfl
     clear hp hq
     go_simp
     exact hK _ _ (RelB.refl _) rfl
   · refine opR_mk rfl fun a W2 hB hp hq K hK => ?_
     have e55 : a.tmps[55]?.getD undef = .bool true := hq 17 _ (by kernel_rfl) rfl
     clear hp hq
     go_simp
     exact hK _ _ (RelB.refl _) rfl
   · refine opR_guard (j := 18) (d := 56) (c := true) rfl rfl (by kernel_rfl) rfl rfl (fun v W h => h) (fun _ => RelB.refl _) (fun hne => absurd rfl hne) fun hc a W2 hB hp hq K hK => ?_
     have e5 : a.tmps[5]?.getD undef = .int .i64 0 := hp 5 (by kernel_rfl)
     clear hp hq
     go_simp
     exact hK _ _ (RelB.refl _) rfl
   · refine opR_guard (j := 18) (d := 56) (c := true) rfl rfl (by kernel_rfl) rfl rfl (fun v W h => h) (fun _ => RelB.refl _) (fun hne => absurd rfl hne) fun hc a W2 hB hp hq K hK => ?_
     have e57 : a.tmps[57]?.getD undef = .int .i64 0 := hq 19 _ (by kernel_rfl) rfl
     clear hp hq
     go_simp
     exact hK _ _ (RelB.refl _) rfl
   · refine opR_mk rfl fun a W2 hB hp hq K hK => ?_
     have e56 : a.tmps[56]?.getD undef = .bool true := hq 18 _ (by kernel_rfl) rfl
     have e58 : a.tmps[58]?.getD undef = .bool true := hq 20 _ (by kernel_rfl) rfl
     clear hp hq
     go_simp
     exact hK _ _ (RelB.refl _) rfl
   · refine opR_mk rfl fun a W2 hB hp hq K hK => ?_
     have e59 : a.tmps[59]?.getD undef = .bool true := hq 21 _ (by kernel_rfl) rfl
     clear hp hq
     go_simp
     exact hK _ _ (RelB.refl _) rfl
   · refine opR_guard (j := 22) (d := 60) (c := true) rfl rfl (by kernel_rfl) rfl rfl (fun v W h => h) (fun _ => RelB.refl _) (fun hne => absurd rfl hne) fun hc a W2 hB hp hq K hK => ?_
     have e6 : a.tmps[6]?.getD undef = .pointer (some ⟨A6, 0, none⟩) := hp 6 (by kernel_rfl)
     clear hp hq
     go_simp
     exact hK _ _ (RelB.refl _) rfl
   · refine opR_guard (j := 22) (d := 60) (c := true) rfl rfl (by kernel_rfl) rfl rfl (fun v W h => h) (fun _ => RelB.refl _) (fun hne => absurd rfl hne) fun hc a W2 hB hp hq K hK => ?_
     have e61 : a.tmps[61]?.getD undef = .pointer (some ⟨A6, 0, none⟩) := hq 23 _ (by kernel_rfl) rfl
     have c0 := blk_cell (hB.rec HRl.out) 0 _ rfl
     clear hp hq
     go_simp
     exact hK _ _ (RelB.refl _) rfl
   · refine opR_guard (j := 22) (d := 60) (c := true) rfl rfl (by kernel_rfl) rfl rfl (fun v W h => h) (fun _ => RelB.refl _) (fun hne => absurd rfl hne) fun hc a W2 hB hp hq K hK => ?_
     have e62 : a.tmps[62]?.getD undef = .int .u64 258 := hq 24 _ (by kernel_rfl) rfl
     clear hp hq
     go_simp
     exact hK _ _ (RelB.refl _) rfl
   · refine opR_mk rfl fun a W2 hB hp hq K hK => ?_
     have e60 : a.tmps[60]?.getD undef = .bool true := hq 22 _ (by kernel_rfl) rfl
     have e63 : a.tmps[63]?.getD undef = .bool true := hq 25 _ (by kernel_rfl) rfl
     clear hp hq
     go_simp
     exact hK _ _ (RelB.refl _) rfl
   · refine opR_mk rfl fun a W2 hB hp hq K hK => ?_
     have e64 : a.tmps[64]?.getD undef = .bool true := hq 26 _ (by kernel_rfl) rfl
     clear hp hq
     go_simp
     exact hK _ _ (RelB.refl _) rfl
   · refine opR_guard (j := 27) (d := 65) (c := true) rfl rfl (by kernel_rfl) rfl rfl (fun v W h => h) (fun _ => RelB.refl _) (fun hne => absurd rfl hne) fun hc a W2 hB hp hq K hK => ?_
     have e7 : a.tmps[7]?.getD undef = .string ⟨#[120]⟩ := hp 7 (by kernel_rfl)
     clear hp hq
     go_simp
     exact hK _ _ (RelB.refl _) rfl
   · refine opR_guard (j := 27) (d := 65) (c := true) rfl rfl (by kernel_rfl) rfl rfl (fun v W h => h) (fun _ => RelB.refl _) (fun hne => absurd rfl hne) fun hc a W2 hB hp hq K hK => ?_
     have e66 : a.tmps[66]?.getD undef = .string ⟨#[120]⟩ := hq 28 _ (by kernel_rfl) rfl
     clear hp hq
     go_simp
     exact hK _ _ (RelB.refl _) rfl
   · refine opR_mk rfl fun a W2 hB hp hq K hK => ?_
     have e65 : a.tmps[65]?.getD undef = .bool true := hq 27 _ (by kernel_rfl) rfl
     have e67 : a.tmps[67]?.getD undef = .bool true := hq 29 _ (by kernel_rfl) rfl
     clear hp hq
     go_simp
     exact hK _ _ (RelB.refl _) rfl
   · refine opR_mk rfl fun a W2 hB hp hq K hK => ?_
     have e68 : a.tmps[68]?.getD undef = .bool true := hq 30 _ (by kernel_rfl) rfl
     clear hp hq
     go_simp
     exact hK _ _ (RelB.refl _) rfl
   · refine opR_guard (j := 31) (d := 69) (c := true) rfl rfl (by kernel_rfl) rfl rfl (fun v W h => h) (fun _ => RelB.refl _) (fun hne => absurd rfl hne) fun hc a W2 hB hp hq K hK => ?_
     have e8 : a.tmps[8]?.getD undef = .int .i64 0 := hp 8 (by kernel_rfl)
     clear hp hq
     go_simp
     exact hK _ _ (RelB.refl _) rfl
   · refine opR_guard (j := 31) (d := 69) (c := true) rfl rfl (by kernel_rfl) rfl rfl (fun v W h => h) (fun _ => RelB.refl _) (fun hne => absurd rfl hne) fun hc a W2 hB hp hq K hK => ?_
     have e70 : a.tmps[70]?.getD undef = .int .i64 0 := hq 32 _ (by kernel_rfl) rfl
     clear hp hq
     go_simp
     exact hK _ _ (RelB.refl _) rfl
   · refine opR_mk rfl fun a W2 hB hp hq K hK => ?_
     have e69 : a.tmps[69]?.getD undef = .bool true := hq 31 _ (by kernel_rfl) rfl
     have e71 : a.tmps[71]?.getD undef = .bool true := hq 33 _ (by kernel_rfl) rfl
     clear hp hq
     go_simp
     exact hK _ _ (RelB.refl _) rfl
   · refine opR_mk rfl fun a W2 hB hp hq K hK => ?_
     have e72 : a.tmps[72]?.getD undef = .bool true := hq 34 _ (by kernel_rfl) rfl
     clear hp hq
     go_simp
     exact hK _ _ (RelB.refl _) rfl
   · refine opR_guard (j := 35) (d := 73) (c := true) rfl rfl (by kernel_rfl) rfl rfl (fun v W h => h) (fun _ => RelB.refl _) (fun hne => absurd rfl hne) fun hc a W2 hB hp hq K hK => ?_
     have e10 : a.tmps[10]?.getD undef = .int .i64 0 := hp 10 (by kernel_rfl)
     clear hp hq
     go_simp
     exact hK _ _ (RelB.refl _) rfl
   · refine opR_guard (j := 35) (d := 73) (c := true) rfl rfl (by kernel_rfl) rfl rfl (fun v W h => h) (fun _ => RelB.refl _) (fun hne => absurd rfl hne) fun hc a W2 hB hp hq K hK => ?_
     have e74 : a.tmps[74]?.getD undef = .int .i64 0 := hq 36 _ (by kernel_rfl) rfl
     clear hp hq
     go_simp
     exact hK _ _ (RelB.refl _) rfl
   · refine opR_mk rfl fun a W2 hB hp hq K hK => ?_
     have e73 : a.tmps[73]?.getD undef = .bool true := hq 35 _ (by kernel_rfl) rfl
     have e75 : a.tmps[75]?.getD undef = .bool true := hq 37 _ (by kernel_rfl) rfl
     clear hp hq
     go_simp
     exact hK _ _ (RelB.refl _) rfl
   · refine opR_mk rfl fun a W2 hB hp hq K hK => ?_
     have e76 : a.tmps[76]?.getD undef = .bool true := hq 38 _ (by kernel_rfl) rfl
     clear hp hq
     go_simp
     exact hK _ _ (RelB.refl _) rfl
   · refine opR_guard (j := 39) (d := 77) (c := true) rfl rfl (by kernel_rfl) rfl rfl (fun v W h => h) (fun _ => RelB.refl _) (fun hne => absurd rfl hne) fun hc a W2 hB hp hq K hK => ?_
     have e11 : a.tmps[11]?.getD undef = .int .i64 0 := hp 11 (by kernel_rfl)
     clear hp hq
     go_simp
     exact hK _ _ (RelB.refl _) rfl
   · refine opR_guard (j := 39) (d := 77) (c := true) rfl rfl (by kernel_rfl) rfl rfl (fun v W h => h) (fun _ => RelB.refl _) (fun hne => absurd rfl hne) fun hc a W2 hB hp hq K hK => ?_
     have e78 : a.tmps[78]?.getD undef = .int .i64 0 := hq 40 _ (by kernel_rfl) rfl
     clear hp hq
     go_simp
     exact hK _ _ (RelB.refl _) rfl
   · refine opR_mk rfl fun a W2 hB hp hq K hK => ?_
     have e77 : a.tmps[77]?.getD undef = .bool true := hq 39 _ (by kernel_rfl) rfl
     have e79 : a.tmps[79]?.getD undef = .bool true := hq 41 _ (by kernel_rfl) rfl
     clear hp hq
     go_simp
     exact hK _ _ (RelB.refl _) rfl
   · refine opR_mk rfl fun a W2 hB hp hq K hK => ?_
     have e80 : a.tmps[80]?.getD undef = .bool true := hq 42 _ (by kernel_rfl) rfl
     clear hp hq
     go_simp
     exact hK _ _ (RelB.refl _) rfl
   · refine opR_guard (j := 43) (d := 81) (c := true) rfl rfl (by kernel_rfl) rfl rfl (fun v W h => h) (fun _ => RelB.refl _) (fun hne => absurd rfl hne) fun hc a W2 hB hp hq K hK => ?_
     have e12 : a.tmps[12]?.getD undef = .int .i64 9 := hp 12 (by kernel_rfl)
     clear hp hq
     go_simp
     exact hK _ _ (RelB.refl _) rfl
   · refine opR_guard (j := 43) (d := 81) (c := true) rfl rfl (by kernel_rfl) rfl rfl (fun v W h => h) (fun _ => RelB.refl _) (fun hne => absurd rfl hne) fun hc a W2 hB hp hq K hK => ?_
     have e82 : a.tmps[82]?.getD undef = .int .i64 9 := hq 44 _ (by kernel_rfl) rfl
     clear hp hq
     go_simp
     exact hK _ _ (RelB.refl _) rfl
   · refine opR_mk rfl fun a W2 hB hp hq K hK => ?_
     have e81 : a.tmps[81]?.getD undef = .bool true := hq 43 _ (by kernel_rfl) rfl
     have e83 : a.tmps[83]?.getD undef = .bool true := hq 45 _ (by kernel_rfl) rfl
     clear hp hq
     go_simp
     exact hK _ _ (RelB.refl _) rfl
   · refine opR_mk rfl fun a W2 hB hp hq K hK => ?_
     have e84 : a.tmps[84]?.getD undef = .bool true := hq 46 _ (by kernel_rfl) rfl
     clear hp hq
     go_simp
     exact hK _ _ (RelB.refl _) rfl
   · refine opR_guard (j := 47) (d := 85) (c := true) rfl rfl (by kernel_rfl) rfl rfl (fun v W h => h) (fun _ => RelB.refl _) (fun hne => absurd rfl hne) fun hc a W2 hB hp hq K hK => ?_
     have e1 : a.tmps[1]?.getD undef = .pointer (some ⟨A1, 0, none⟩) := hp 1 (by kernel_rfl)
     have c0 := blk_cell (hB.rec HRa.out) 0 _ rfl
     have c1 := blk_cell (hB.rec HRa.out) 1 _ rfl
     have c2 := blk_cell (hB.rec HRa.out) 2 _ rfl
     have c3 := blk_cell (hB.rec HRa.out) 3 _ rfl
     have c4 := blk_cell (hB.rec HRa.out) 4 _ rfl
     have c5 := blk_cell (hB.rec HRa.out) 5 _ rfl
     have c6 := blk_cell (hB.rec HRa.out) 6 _ rfl
     have c7 := blk_cell (hB.rec HRa.out) 7 _ rfl
     have c8 := blk_cell (hB.rec HRa.out) 8 _ rfl
     have c9 := blk_cell (hB.rec HRa.out) 9 _ rfl
     have c10 := blk_cell (hB.rec HRa.out) 10 _ rfl
     have c11 := blk_cell (hB.rec HRa.out) 11 _ rfl
     clear hp hq
     go_simp
     exact hK _ _ (RelB.refl _) rfl
   · refine opR_guard (j := 47) (d := 85) (c := true) rfl rfl (by kernel_rfl) rfl rfl (fun v W h => h) (fun _ => RelB.refl _) (fun hne => absurd rfl hne) fun hc a W2 hB hp hq K hK => ?_
     have e86 : a.tmps[86]?.getD undef = .agg #[.int .u64 0, .int .u8 1, .int .u32 1, .string ⟨#[97]⟩, .int .u32 2, .int .u8 1, .int .u32 0, .string ⟨#[]⟩, .int .u32 0, .int .u32 0, .int .i64 0, .string ⟨#[]⟩] := hq 48 _ (by kernel_rfl) rfl
     clear hp hq
     go_simp
     refine (t_playNil_a _).mono ?_
     rintro e w2 ⟨rfl, hb2⟩
     exact hK _ _ (RelB.of hb2) rfl
   · refine opR_guard (j := 47) (d := 85) (c := true) rfl rfl (by kernel_rfl) rfl rfl (fun v W h => h) (fun _ => RelB.refl _) (fun hne => absurd rfl hne) fun hc a W2 hB hp hq K hK => ?_
     have e87 : a.tmps[87]?.getD undef = .int .i64 1 := hq 49 _ (by kernel_rfl) rfl
     clear hp hq
     go_simp
     exact hK _ _ (RelB.refl _) rfl
   · refine opR_mk rfl fun a W2 hB hp hq K hK => ?_
     have e85 : a.tmps[85]?.getD undef = .bool true := hq 47 _ (by kernel_rfl) rfl
     have e88 : a.tmps[88]?.getD undef = .bool true := hq 50 _ (by kernel_rfl) rfl
     clear hp hq
     go_simp
     exact hK _ _ (RelB.refl _) rfl
   · refine opR_mk rfl fun a W2 hB hp hq K hK => ?_
     have e89 : a.tmps[89]?.getD undef = .bool true := hq 51 _ (by kernel_rfl) rfl
     clear hp hq
     go_simp
     exact hK _ _ (RelB.refl _) rfl
   · refine opR_guard (j := 52) (d := 90) (c := true) rfl rfl (by kernel_rfl) rfl rfl (fun v W h => h) (fun _ => RelB.refl _) (fun hne => absurd rfl hne) fun hc a W2 hB hp hq K hK => ?_
     clear hp hq
     go_simp
     exact hK _ _ (RelB.refl _) rfl
   · refine opR_guard (j := 52) (d := 90) (c := true) rfl rfl (by kernel_rfl) rfl rfl (fun v W h => h) (fun _ => RelB.refl _) (fun hne => absurd rfl hne) fun hc a W2 hB hp hq K hK => ?_
     have e91 : a.tmps[91]?.getD undef = .agg #[.int .u64 0, .int .u8 0, .int .u32 0, .string ⟨#[]⟩, .int .u32 0, .int .u8 0, .int .u32 0, .string ⟨#[]⟩, .int .u32 0, .int .u32 0, .int .i64 0, .string ⟨#[]⟩] := hq 53 _ (by kernel_rfl) rfl
     clear hp hq
     go_simp
     refine (t_check_0 _).mono ?_
     rintro e w2 ⟨rfl, hb2⟩
     exact hK _ _ (RelB.of hb2) rfl
   · refine opR_guard (j := 52) (d := 90) (c := true) rfl rfl (by kernel_rfl) rfl rfl (fun v W h => h) (fun _ => RelB.refl _) (fun hne => absurd rfl hne) fun hc a W2 hB hp hq K hK => ?_
     have e92 : a.tmps[92]?.getD undef = .int .i64 2 := hq 54 _ (by kernel_rfl) rfl
     clear hp hq
     go_simp
     exact hK _ _ (RelB.refl _) rfl
   · refine opR_mk rfl fun a W2 hB hp hq K hK => ?_
     have e90 : a.tmps[90]?.getD undef = .bool true := hq 52 _ (by kernel_rfl) rfl
     have e93 : a.tmps[93]?.getD undef = .bool true := hq 55 _ (by kernel_rfl) rfl
     clear hp hq
     go_simp
     exact hK _ _ (RelB.refl _) rfl
   · refine opR_mk rfl fun a W2 hB hp hq K hK => ?_
     have e94 : a.tmps[94]?.getD undef = .bool true := hq 56 _ (by kernel_rfl) rfl
     clear hp hq
     go_simp
     exact hK _ _ (RelB.refl _) rfl
   · refine opR_guard (j := 57) (d := 95) (c := true) rfl rfl (by kernel_rfl) rfl rfl (fun v W h => h) (fun _ => RelB.refl _) (fun hne => absurd rfl hne) fun hc a W2 hB hp hq K hK => ?_
     have e1 : a.tmps[1]?.getD undef = .pointer (some ⟨A1, 0, none⟩) := hp 1 (by kernel_rfl)
     have c0 := blk_cell (hB.rec HRa.out) 0 _ rfl
     have c1 := blk_cell (hB.rec HRa.out) 1 _ rfl
     have c2 := blk_cell (hB.rec HRa.out) 2 _ rfl
     have c3 := blk_cell (hB.rec HRa.out) 3 _ rfl
     have c4 := blk_cell (hB.rec HRa.out) 4 _ rfl
     have c5 := blk_cell (hB.rec HRa.out) 5 _ rfl
     have c6 := blk_cell (hB.rec HRa.out) 6 _ rfl
     have c7 := blk_cell (hB.rec HRa.out) 7 _ rfl
     have c8 := blk_cell (hB.rec HRa.out) 8 _ rfl
     have c9 := blk_cell (hB.rec HRa.out) 9 _ rfl
     have c10 := blk_cell (hB.rec HRa.out) 10 _ rfl
     have c11 := blk_cell (hB.rec HRa.out) 11 _ rfl
     clear hp hq
     go_simp
     exact hK _ _ (RelB.refl _) rfl
   · refine opR_guard (j := 57) (d := 95) (c := true) rfl rfl (by kernel_rfl) rfl rfl (fun v W h => h) (fun _ => RelB.refl _) (fun hne => absurd rfl hne) fun hc a W2 hB hp hq K hK => ?_
     have e96 : a.tmps[96]?.getD undef = .agg #[.int .u64 0, .int .u8 1, .int .u32 1, .string ⟨#[97]⟩, .int .u32 2, .int .u8 1, .int .u32 0, .string ⟨#[]⟩, .int .u32 0, .int .u32 0, .int .i64 0, .string ⟨#[]⟩] := hq 58 _ (by kernel_rfl) rfl
     clear hp hq
     go_simp
     refine (t_parts_a _).mono ?_
     rintro e w2 ⟨A, c, rfl, hb2⟩
     exact hK _ _ (RelB.of hb2) ⟨A, c, rfl⟩
   · refine opR_guard (j := 57) (d := 95) (c := true) rfl rfl (by kernel_rfl) rfl rfl (fun v W h => h) (fun _ => RelB.refl _) (fun hne => absurd rfl hne) fun hc a W2 hB hp hq K hK => ?_
     obtain ⟨A, c, e97⟩ : ∃ A c, a.tmps[97]?.getD undef = .slice A 3 c := hq 59 _ (by kernel_rfl) rfl
     clear hp hq
     go_simp
     exact hK _ _ (RelB.refl _) rfl
   · refine opR_guard (j := 57) (d := 95) (c := true) rfl rfl (by kernel_rfl) rfl rfl (fun v W h => h) (fun _ => RelB.refl _) (fun hne => absurd rfl hne) fun hc a W2 hB hp hq K hK => ?_
     have e98 : a.tmps[98]?.getD undef = .int .i64 3 := hq 60 _ (by kernel_rfl) rfl
     clear hp hq
     go_simp
     exact hK _ _ (RelB.refl _) rfl
   · refine opR_mk rfl fun a W2 hB hp hq K hK => ?_
     have e95 : a.tmps[95]?.getD undef = .bool true := hq 57 _ (by kernel_rfl) rfl
     have e99 : a.tmps[99]?.getD undef = .bool true := hq 61 _ (by kernel_rfl) rfl
     clear hp hq
     go_simp
     exact hK _ _ (RelB.refl _) rfl
   · refine opR_mk rfl fun a W2 hB hp hq K hK => ?_
     have e100 : a.tmps[100]?.getD undef = .bool true := hq 62 _ (by kernel_rfl) rfl
     clear hp hq
     go_simp
     exact hK _ _ (RelB.refl _) rfl
 intro vs W9 hB9 hv9 _
 have HB9 : Hid (RelB w9 W9) := hB9
 have v63 : vs 63 = .bool true := hv9 63 _ rfl rfl
 clear hB9 hv9
 simp only [putAll, Act.put, List.setIfInBounds_toArray, List.set_cons_succ, List.set_cons_zero, Nat.zero_add, Nat.reduceAdd, v63]
 go_wp2
 go_ret
 exact ⟨rfl, ptrans HFIN.out HB9.out⟩
end
end Go.Proofs.YtogljgiefmfafaaGreat
