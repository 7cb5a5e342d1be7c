/- The entries of a directory, put in order. -/
import Derived.Test.YtpcjbfhgmcioaaaGreatKI
import Derived.Test.YtpcjbfhgmcioaaaGreatLA
import Derived.Shelf.SlSortCmp.WholeK
import Derived.WalkLawsBesides
namespace Go.Proofs.YtpcjbfhgmcioaaaGreat
open Go.RowKit Go.Maps Go.Sort

abbrev E := ByteArray × Int
def encE (x : E) : List Value := [.string x.1, .int .u32 x.2]
def nameL (x : E) : List UInt8 := x.1.data.toList
theorem bytesLess_lt : ∀ (x y : List UInt8), Op.bytesLess x y = ltStr x y
  | _, [] => by simp [Op.bytesLess, ltStr]
  | [], _ :: _ => by simp [Op.bytesLess, ltStr]
  | a :: x, b :: y => by
    rw [Op.bytesLess, bytesLess_lt x y]
    unfold ltStr
    rw [Bool.eq_iff_iff]
    simp only [Bool.or_eq_true, Bool.and_eq_true, decide_eq_true_eq, beq_iff_eq]
    rw [List.cons_lt_cons_iff]
def cmpE (x y : E) : Int := if ltStr (nameL x) (nameL y) = true then -1 else if nameL x = nameL y then 0 else 1
theorem ltE (x y : E) : Go.Proofs.ltOf cmpE x y = ltStr (nameL x) (nameL y) := by
  unfold Go.Proofs.ltOf cmpE
  cases h : ltStr (nameL x) (nameL y)
  · by_cases e : nameL x = nameL y <;> simp [e]
  · simp
theorem swoE : SWO (Go.Proofs.ltOf cmpE) where
  irrefl x := by rw [ltE]; exact swo_ltStr.irrefl _
  trans x y z h1 h2 := by rw [ltE] at *; exact swo_ltStr.trans _ _ _ h1 h2
  ntrans x y z h1 h2 := by rw [ltE] at *; exact swo_ltStr.ntrans _ _ _ h1 h2

theorem e_isNaN (x : ByteArray) (w : World) : Calls Tryz.prog 117 #[.string x] w fun e w' => e = .returned (.bool false) ∧ w = w' := by
  go_enter Tryz.func117, Tryz.ntmps117
  go_wp2
  go_ret
  exact ⟨by simp, rfl⟩
theorem e_compare (x y : E) (w : World) : Calls Tryz.prog 81 #[.string x.1, .string y.1] w fun e w' => e = .returned (.int .i64 (cmpE x y)) ∧ w = w' := by
  obtain ⟨b1, h1⟩ : ∃ b1, Op.bytesLess x.1.toList y.1.toList = b1 := ⟨_, rfl⟩
  obtain ⟨b2, h2⟩ : ∃ b2, (x.1.toList == y.1.toList) = b2 := ⟨_, rfl⟩
  have HC : Hid (cmpE x y = if b1 = true then -1 else if b2 = true then 0 else 1) := by
    show _ = _
    unfold cmpE nameL
    rw [← h1, ← h2, bytesLess_lt, Lib.toList_data, Lib.toList_data]
    simp
  go_enter Tryz.func81, Tryz.ntmps81
  cases b1 <;> cases b2
  all_goals go_wp2_with (go_at_call 117; refine (e_isNaN _ _).mono ?_; rintro e w' ⟨rfl, rfl⟩)
  all_goals go_ret
  all_goals exact ⟨by rw [HC.out]; rfl, rfl⟩
theorem e_closure (x y : E) (w : World) : Calls Tryz.prog 80 #[.agg #[.string x.1, .int .u32 x.2], .agg #[.string y.1, .int .u32 y.2]] w fun e w' => e = .returned (.int .i64 (cmpE x y)) ∧ ∃ q os', w' = grow (w.drewN q) os' := by
  have HC := Lib.hid (fun w => e_compare x y w)
  generalize cmpE x y = r at HC ⊢
  obtain ⟨x1, x2⟩ := x
  obtain ⟨y1, y2⟩ := y
  go_enter Tryz.func80, Tryz.ntmps80
  go_wp2_with (go_at_call 81; refine (HC.out _).mono ?_; rintro e w' ⟨rfl, rfl⟩)
  go_ret
  exact ⟨rfl, 0, _, by rw [alloc_eq_grow, alloc_eq_grow, grow_grow]; rfl⟩
theorem cmpLaysE (blk off size : Nat) (w : World) : CmpLays Tryz.prog 80 #[] encE 2 cmpE blk off size w := fun _ _ _ _ x y => e_closure x y _
theorem grown_sort {enc : E → List Value} (w : World) (blk off n : Nat) (d : Array E) (os : Array Obj) : w.grownBy (sortWorldK enc 2 w blk off n d os) (some blk) := by
  refine ⟨rfl, rfl, rfl, ?_, fun b hb hn => ?_⟩
  · show w.heap.size ≤ ((putRowK enc 2 (Go.Sort.ahead w n) blk off d).heap ++ os).size
    have : (putRowK enc 2 (Go.Sort.ahead w n) blk off d).heap.size = w.heap.size := by simp [putRowK]
    rw [Array.size_append, this]
    omega
  · show ((putRowK enc 2 (Go.Sort.ahead w n) blk off d).heap ++ os)[b]? = w.heap[b]?
    have hs : (putRowK enc 2 (Go.Sort.ahead w n) blk off d).heap.size = w.heap.size := by simp [putRowK]
    rw [Array.getElem?_append_left (by rw [hs]; exact hb)]
    have hne : blk ≠ b := fun e => hn (by rw [e])
    simp [putRowK, putRow, mapBlock, Array.getElem?_modify, hne]
def SortedE (w : World) (B : Nat) (d : Array E) (e : Ending) (w' : World) : Prop := ∃ d', e = .returned (.tuple #[]) ∧ PermIn 0 d.size d d' ∧ SortedIn (Go.Proofs.ltOf cmpE) 0 d.size d' ∧ HoldsK encE 2 w' B 0 d' ∧ w.grownBy w' (some B)
theorem e_sortFunc (B n cap : Nat) (d : Array E) (w : World) (hn : d.size = n) (hH : HoldsK encE 2 w B 0 d) (hlt : B < w.heap.size) (hsz : n ≤ 60000) :
    Calls Tryz.prog 79 #[.slice (some ⟨B, 0, none⟩) n cap, .func (.func 80) #[] #[]] w (SortedE w B d) := by
  subst hn
  have h := AnyQ.slices_SortFunc sortE 2 Tryz.isAgg101 Tryz.sizeOf101 encE (fun _ => rfl) (fun x v hv => by simp [encE] at hv; rcases hv with rfl | rfl <;> rfl) cmpE swoE 80 #[] B 0 cap d w (enters_of Tryz.func80 (by kernel_rfl) rfl) (cmpLaysE B 0 d.size w) hH hlt (by omega)
  refine Calls.mono h ?_
  rintro e w' ⟨rfl, d', n, os, hp, hs, rfl⟩
  exact ⟨d', rfl, hp, hs, holdsK_sortWorldK encE 2 w B 0 n d d' os hlt hH hp.1, grown_sort w B 0 n d' os⟩

theorem u_len0 (w : World) : Calls Tryz.prog 116 #[.int .u64 0] w fun e w' => e = .returned (.int .i64 0) ∧ w = w' := by
  have H : ∀ w, Calls Tryz.prog 135 #[.int .u64 0] w fun e w' => e = .returned (.int .i64 0) ∧ w = w' := fun w => by
    go_enter Tryz.func135, Tryz.ntmps135
    go_wp2
    go_ret
    exact ⟨ret_int (by decide +kernel), rfl⟩
  have HC := Lib.hid H
  clear H
  go_enter Tryz.func116, Tryz.ntmps116
  go_wp2_with (go_at_call 135; refine (HC.out _).mono ?_; rintro e w' ⟨rfl, rfl⟩)
  go_ret
  exact ⟨rfl, rfl⟩
theorem e_ins0 (f : Value) (w : World) : Calls Tryz.prog 126 #[.slice none 0 0, .int .i64 0, .int .i64 0, f] w fun e w' => e = .returned (.tuple #[]) ∧ w = w' := by
  go_enter Tryz.func126, Tryz.ntmps126
  go_wp2
  refine wp_loop_rounds 1 ?_
  rw [rounds_succ]
  go_wp2
  go_end0
  exact ⟨rfl, rfl⟩
theorem e_pdq0 (f : Value) (w : World) : Calls Tryz.prog 115 #[.slice none 0 0, .int .i64 0, .int .i64 0, .int .i64 0, f] w fun e w' => e = .returned (.tuple #[]) ∧ w = w' := by
  go_enter Tryz.func115, Tryz.ntmps115
  go_wp2
  refine wp_loop_rounds 1 ?_
  rw [rounds_succ]
  go_wp2_with (go_at_call 126; refine (e_ins0 _ _).mono ?_; rintro e w' ⟨rfl, rfl⟩)
  refine bodyPost_ret (results_none rfl _ _ _) rfl ?_
  exact ⟨rfl, rfl⟩
theorem e_sort0 (f : Value) (w : World) : Calls Tryz.prog 79 #[.slice none 0 0, f] w fun e w' => e = .returned (.tuple #[]) ∧ w = w' := by
  go_enter Tryz.func79, Tryz.ntmps79
  go_wp2_with (first
    | (go_at_call 116; refine (u_len0 _).mono ?_; rintro e w' ⟨rfl, rfl⟩)
    | (go_at_call 115; refine (e_pdq0 _ _).mono ?_; rintro e w' ⟨rfl, rfl⟩))
  go_end0
  exact ⟨rfl, rfl⟩
end Go.Proofs.YtpcjbfhgmcioaaaGreat
