/- The library's contracts, at this program's numbers. -/
import Derived.Test.YtogljgiefmfafaaGreatPd08
import Derived.Test.YtogljgiefmfafaaGreatPd16
import Derived.Test.YtogljgiefmfafaaGreatProg
import Derived.Shelf.SlLaysF0
import Derived.WalkKit
import Derived.Shelf.SlSortCmp.WholeK
import Derived.WalkLawsBesides
namespace Go.Proofs.YtogljgiefmfafaaGreat
open Go.Shelf Go.RowKit
def sortE_ren : Go.Shelf.Ren := ⟨fun | 6 => 81 | 15 => 145 | 14 => 144 | 28 => 191 | 29 => 192 | 20 => 183 | 21 => 184 | 22 => 185 | 23 => 186 | 24 => 187 | 25 => 188 | 26 => 189 | 27 => 190 | 46 => 241 | 47 => 242 | 48 => 243 | 49 => 244 | 50 => 245 | 57 => 261 | n => n, fun | 22 => 65 | 24 => 149 | 25 => 152 | 3 => 3 | 39 => 197 | 0 => 0 | 53 => 37 | 55 => 48 | 4 => 4 | 46 => 225 | 45 => 224 | 50 => 58 | 5 => 5 | 9 => 9 | 66 => 265 | 70 => 269 | 76 => 280 | 77 => 281 | n => n, fun | n => n⟩
theorem sortE : SlLaysF0.n6 Tryz.prog sortE_ren := {
 mixed := by kernel_rfl
 f6 := ⟨Tryz.f81.name, by decide, Tryz.func81.trans (congrArg some (by kernel_rfl))⟩
 f14 := ⟨Tryz.f144.name, by decide, Tryz.func144.trans (congrArg some (by kernel_rfl))⟩
 f15 := Tryz.func145.trans (congrArg some (by kernel_rfl))
 f20 := ⟨Tryz.f183.name, by decide, Tryz.func183.trans (congrArg some (by kernel_rfl))⟩
 f21 := ⟨Tryz.f184.name, by decide, Tryz.func184.trans (congrArg some (by kernel_rfl))⟩
 f22 := ⟨Tryz.f185.name, by decide, Tryz.func185.trans (congrArg some (by kernel_rfl))⟩
 f23 := ⟨Tryz.f186.name, by decide, Tryz.func186.trans (congrArg some (by kernel_rfl))⟩
 f24 := ⟨Tryz.f187.name, by decide, Tryz.func187.trans (congrArg some (by kernel_rfl))⟩
 f25 := ⟨Tryz.f188.name, by decide, Tryz.func188.trans (congrArg some (by kernel_rfl))⟩
 f26 := ⟨Tryz.f189.name, by decide, Tryz.func189.trans (congrArg some (by kernel_rfl))⟩
 f27 := ⟨Tryz.f190.name, by decide, Tryz.func190.trans (congrArg some (by kernel_rfl))⟩
 f28 := Tryz.func191.trans (congrArg some (by kernel_rfl))
 f29 := Tryz.func192.trans (congrArg some (by kernel_rfl))
 f46 := ⟨Tryz.f241.name, by decide, Tryz.func241.trans (congrArg some (by kernel_rfl))⟩
 f47 := Tryz.func242.trans (congrArg some (by kernel_rfl))
 f48 := Tryz.func243.trans (congrArg some (by kernel_rfl))
 f49 := ⟨Tryz.f244.name, by decide, Tryz.func244.trans (congrArg some (by kernel_rfl))⟩
 f50 := ⟨Tryz.f245.name, by decide, Tryz.func245.trans (congrArg some (by kernel_rfl))⟩
 f57 := ⟨Tryz.f261.name, by decide, Tryz.func261.trans (congrArg some (by kernel_rfl))⟩
 t0 := Tryz.underlying0
 a0 := Tryz.isAgg0
 z0 := Tryz.sizeOf0
 v0 := Tryz.zeroValue0
 t3 := Tryz.underlying3
 a3 := Tryz.isAgg3
 z3 := Tryz.sizeOf3
 v3 := Tryz.zeroValue3
 t4 := Tryz.underlying4
 a4 := Tryz.isAgg4
 z4 := Tryz.sizeOf4
 v4 := Tryz.zeroValue4
 t5 := Tryz.underlying5
 a5 := Tryz.isAgg5
 z5 := Tryz.sizeOf5
 v5 := Tryz.zeroValue5
 t9 := Tryz.underlying9
 a9 := Tryz.isAgg9
 z9 := Tryz.sizeOf9
 v9 := Tryz.zeroValue9
 t22 := Tryz.underlying65
 a22 := Tryz.isAgg65
 z22 := Tryz.sizeOf65
 v22 := Tryz.zeroValue65
 t25 := Tryz.underlying152
 a25 := Tryz.isAgg152
 z25 := Tryz.sizeOf152
 v25 := Tryz.zeroValue152
 t39 := Tryz.underlying197
 a39 := Tryz.isAgg197
 z39 := Tryz.sizeOf197
 v39 := Tryz.zeroValue197
 t45 := Tryz.underlying224
 a45 := Tryz.isAgg224
 z45 := Tryz.sizeOf224
 v45 := Tryz.zeroValue224
 t46 := Tryz.underlying225
 a46 := Tryz.isAgg225
 z46 := Tryz.sizeOf225
 v46 := Tryz.zeroValue225
 t50 := Tryz.underlying58
 a50 := Tryz.isAgg58
 z50 := Tryz.sizeOf58
 v50 := Tryz.zeroValue58
 t53 := Tryz.underlying37
 a53 := Tryz.isAgg37
 z53 := Tryz.sizeOf37
 v53 := Tryz.zeroValue37
 t55 := Tryz.underlying48
 a55 := Tryz.isAgg48
 z55 := Tryz.sizeOf48
 v55 := Tryz.zeroValue48
 t66 := Tryz.underlying265
 a66 := Tryz.isAgg265
 z66 := Tryz.sizeOf265
 v66 := Tryz.zeroValue265
 t70 := Tryz.underlying269
 a70 := Tryz.isAgg269
 z70 := Tryz.sizeOf269
 v70 := Tryz.zeroValue269
 t76 := Tryz.underlying280
 a76 := Tryz.isAgg280
 z76 := Tryz.sizeOf280
 v76 := Tryz.zeroValue280
 t77 := Tryz.underlying281
 a77 := Tryz.isAgg281
 z77 := Tryz.sizeOf281
 v77 := Tryz.zeroValue281 }
end Go.Proofs.YtogljgiefmfafaaGreat

namespace Go.Proofs.YtogljgiefmfafaaGreat
open Go.RowKit Go.Maps Go.Sort
abbrev E := ByteArray × Int
def encE (x : E) : List Value := [.string x.1, .int .u32 x.2]
def nameL (x : E) : List UInt8 := x.1.data.toList
theorem bytesLess_lt : ∀ (x y : List UInt8), Op.bytesLess x y = ltStr x y
 | _, [] => by simp [Op.bytesLess, ltStr]
 | [], _ :: _ => by simp [Op.bytesLess, ltStr]
 | a :: x, b :: y => by
  rw [Op.bytesLess, bytesLess_lt x y]
  unfold ltStr
  rw [Bool.eq_iff_iff]
  simp only [Bool.or_eq_true, Bool.and_eq_true, decide_eq_true_eq, beq_iff_eq]
  rw [List.cons_lt_cons_iff]
def cmpE (x y : E) : Int := if ltStr (nameL x) (nameL y) = true then -1 else if nameL x = nameL y then 0 else 1
theorem ltE (x y : E) : Go.Proofs.ltOf cmpE x y = ltStr (nameL x) (nameL y) := by
 unfold Go.Proofs.ltOf cmpE
 cases h : ltStr (nameL x) (nameL y)
 · by_cases e : nameL x = nameL y <;> simp [e]
 · simp
theorem swoE : SWO (Go.Proofs.ltOf cmpE) where
 irrefl x := by rw [ltE]; exact swo_ltStr.irrefl _
 trans x y z h1 h2 := by rw [ltE] at *; exact swo_ltStr.trans _ _ _ h1 h2
 ntrans x y z h1 h2 := by rw [ltE] at *; exact swo_ltStr.ntrans _ _ _ h1 h2
theorem e_isNaN (x : ByteArray) (w : World) : Calls Tryz.prog 146 #[.string x] w fun e w' => e = .returned (.bool false) ∧ w = w' := by
 go_enter Tryz.func146, Tryz.ntmps146
 go_wp2
 go_ret
 exact ⟨by simp, rfl⟩
theorem e_compare (x y : E) (w : World) : Calls Tryz.prog 83 #[.string x.1, .string y.1] w fun e w' => e = .returned (.int .i64 (cmpE x y)) ∧ w = w' := by
 obtain ⟨b1, h1⟩ : ∃ b1, Op.bytesLess x.1.toList y.1.toList = b1 := ⟨_, rfl⟩
 obtain ⟨b2, h2⟩ : ∃ b2, (x.1.toList == y.1.toList) = b2 := ⟨_, rfl⟩
 have HC : Hid (cmpE x y = if b1 = true then -1 else if b2 = true then 0 else 1) := by
  show _ = _
  unfold cmpE nameL
  rw [← h1, ← h2, bytesLess_lt, Lib.toList_data, Lib.toList_data]
  simp
 go_enter Tryz.func83, Tryz.ntmps83
 cases b1 <;> cases b2
 all_goals go_wp2_with (go_at_call 146; refine (e_isNaN _ _).mono ?_; rintro e w' ⟨rfl, rfl⟩)
 all_goals go_ret
 all_goals exact ⟨by rw [HC.out]; rfl, rfl⟩
theorem e_closure (x y : E) (w : World) : Calls Tryz.prog 82 #[.agg #[.string x.1, .int .u32 x.2], .agg #[.string y.1, .int .u32 y.2]] w fun e w' => e = .returned (.int .i64 (cmpE x y)) ∧ ∃ q os', w' = grow (w.drewN q) os' := by
 have HC := Lib.hid (fun w => e_compare x y w)
 generalize cmpE x y = r at HC ⊢
 obtain ⟨x1, x2⟩ := x
 obtain ⟨y1, y2⟩ := y
 go_enter Tryz.func82, Tryz.ntmps82
 go_wp2_with (go_at_call 83; refine (HC.out _).mono ?_; rintro e w' ⟨rfl, rfl⟩)
 go_ret
 exact ⟨rfl, 0, _, by rw [alloc_eq_grow, alloc_eq_grow, grow_grow]; rfl⟩
theorem cmpLaysE (blk off size : Nat) (w : World) : CmpLays Tryz.prog 82 #[] encE 2 cmpE blk off size w := fun _ _ _ _ x y => e_closure x y _
theorem grown_sort {enc : E → List Value} (w : World) (blk off n : Nat) (d : Array E) (os : Array Obj) : w.grownBy (sortWorldK enc 2 w blk off n d os) (some blk) := by
 refine ⟨rfl, rfl, rfl, ?_, fun b hb hn => ?_⟩
 · show w.heap.size ≤ ((putRowK enc 2 (Go.Sort.ahead w n) blk off d).heap ++ os).size
   have : (putRowK enc 2 (Go.Sort.ahead w n) blk off d).heap.size = w.heap.size := by simp [putRowK]
   rw [Array.size_append, this]
   omega
 · show ((putRowK enc 2 (Go.Sort.ahead w n) blk off d).heap ++ os)[b]? = w.heap[b]?
   have hs : (putRowK enc 2 (Go.Sort.ahead w n) blk off d).heap.size = w.heap.size := by simp [putRowK]
   rw [Array.getElem?_append_left (by rw [hs]; exact hb)]
   have hne : blk ≠ b := fun e => hn (by rw [e])
   simp [putRowK, putRow, mapBlock, Array.getElem?_modify, hne]
def SortedE (w : World) (B : Nat) (d : Array E) (e : Ending) (w' : World) : Prop := ∃ d', e = .returned (.tuple #[]) ∧ PermIn 0 d.size d d' ∧ SortedIn (Go.Proofs.ltOf cmpE) 0 d.size d' ∧ HoldsK encE 2 w' B 0 d' ∧ w.grownBy w' (some B)
theorem e_sortFunc (B n cap : Nat) (d : Array E) (w : World) (hn : d.size = n) (hH : HoldsK encE 2 w B 0 d) (hlt : B < w.heap.size) (hsz : n ≤ 60000) :
  Calls Tryz.prog 81 #[.slice (some ⟨B, 0, none⟩) n cap, .func (.func 82) #[] #[]] w (SortedE w B d) := by
 subst hn
 have h := AnyQ.slices_SortFunc sortE 2 Tryz.isAgg149 Tryz.sizeOf149 encE (fun _ => rfl) (fun x v hv => by simp [encE] at hv; rcases hv with rfl | rfl <;> rfl) cmpE swoE 82 #[] B 0 cap d w (enters_of Tryz.func82 (by kernel_rfl) rfl) (cmpLaysE B 0 d.size w) hH hlt (by omega)
 refine Calls.mono h ?_
 rintro e w' ⟨rfl, d', n, os, hp, hs, rfl⟩
 exact ⟨d', rfl, hp, hs, holdsK_sortWorldK encE 2 w B 0 n d d' os hlt hH hp.1, grown_sort w B 0 n d' os⟩
theorem u_len0 (w : World) : Calls Tryz.prog 145 #[.int .u64 0] w fun e w' => e = .returned (.int .i64 0) ∧ w = w' := by
 have H : ∀ w, Calls Tryz.prog 192 #[.int .u64 0] w fun e w' => e = .returned (.int .i64 0) ∧ w = w' := fun w => by
  go_enter Tryz.func192, Tryz.ntmps192
  go_wp2
  go_ret
  exact ⟨ret_int (by decide +kernel), rfl⟩
 have HC := Lib.hid H
 clear H
 go_enter Tryz.func145, Tryz.ntmps145
 go_wp2_with (go_at_call 192; refine (HC.out _).mono ?_; rintro e w' ⟨rfl, rfl⟩)
 go_ret
 exact ⟨rfl, rfl⟩
theorem e_ins0 (f : Value) (w : World) : Calls Tryz.prog 183 #[.slice none 0 0, .int .i64 0, .int .i64 0, f] w fun e w' => e = .returned (.tuple #[]) ∧ w = w' := by
 go_enter Tryz.func183, Tryz.ntmps183
 go_wp2
 refine wp_loop_rounds 1 ?_
 rw [rounds_succ]
 go_wp2
 go_end0
 exact ⟨rfl, rfl⟩
theorem e_pdq0 (f : Value) (w : World) : Calls Tryz.prog 144 #[.slice none 0 0, .int .i64 0, .int .i64 0, .int .i64 0, f] w fun e w' => e = .returned (.tuple #[]) ∧ w = w' := by
 go_enter Tryz.func144, Tryz.ntmps144
 go_wp2
 refine wp_loop_rounds 1 ?_
 rw [rounds_succ]
 go_wp2_with (go_at_call 183; refine (e_ins0 _ _).mono ?_; rintro e w' ⟨rfl, rfl⟩)
 refine bodyPost_ret (results_none rfl _ _ _) rfl ?_
 exact ⟨rfl, rfl⟩
theorem e_sort0 (f : Value) (w : World) : Calls Tryz.prog 81 #[.slice none 0 0, f] w fun e w' => e = .returned (.tuple #[]) ∧ w = w' := by
 go_enter Tryz.func81, Tryz.ntmps81
 go_wp2_with (first
  | (go_at_call 145; refine (u_len0 _).mono ?_; rintro e w' ⟨rfl, rfl⟩)
  | (go_at_call 144; refine (e_pdq0 _ _).mono ?_; rintro e w' ⟨rfl, rfl⟩))
 go_end0
 exact ⟨rfl, rfl⟩
end Go.Proofs.YtogljgiefmfafaaGreat

namespace Go.Proofs.YtogljgiefmfafaaGreat
open Go.RowKit Go.Maps
theorem keyOf_str {key : Value} {kl : Lit} (h : keyOf Tryz.prog 9 key = some kl) : ∃ s : ByteArray, key = .string s ∧ kl = .string s.data.toList ∧ s.size ≤ maxLen := by
 obtain ⟨s, rfl⟩ := Maps.keyOf_string_inv Tryz.underlying9 h
 have h' := h
 simp [keyOf, Tryz.underlying9, mapKey] at h'
 obtain ⟨h1, h2⟩ := h'
 exact ⟨s, rfl, by first | exact h2.symm | (rw [← h2, Lib.toList_data]), by first | exact h1 | omega⟩
structure ColE (l : List UInt8 → Option Int) (left : Lit → Bool) (es : List E) : Prop where
 nodup : (es.map nameL).Nodup
 mem : ∀ s v, (∃ x ∈ es, nameL x = s ∧ x.2 = v) ↔ (l s = some v ∧ left (.string s) = false)
 size : ∀ x ∈ es, x.1.size ≤ maxLen
theorem ColE.step {l : List UInt8 → Option Int} {left : Lit → Bool} {es : List E} (h : ColE l left es) {s : ByteArray} {i : Int} (hl : left (.string s.data.toList) = true) (hi : l s.data.toList = some i) (hs : s.size ≤ maxLen) :
  ColE l (fun z => left z && !z.sameKey (.string s.data.toList)) (es ++ [(s, i)]) := by
 refine ⟨?_, fun k v => ?_, fun x hx => ?_⟩
 · rw [List.map_append, List.nodup_append]
   refine ⟨h.nodup, by simp, fun a ha b hb e => ?_⟩
   simp at hb
   subst hb
   subst e
   obtain ⟨x, hx, hxa⟩ := List.mem_map.1 ha
   have := ((h.mem (nameL (s, i)) x.2).1 ⟨x, hx, hxa, rfl⟩).2
   rw [show nameL (s, i) = s.data.toList from rfl, hl] at this
   cases this
 · constructor
   · rintro ⟨x, hx, hxk, hxv⟩
     rcases List.mem_append.1 hx with hx | hx
     · obtain ⟨h1, h2⟩ := (h.mem k v).1 ⟨x, hx, hxk, hxv⟩
       exact ⟨h1, by simp [h2]⟩
     · simp at hx
       subst hx
       have e1 : s.data.toList = k := hxk
       have e2 : i = v := hxv
       subst e1; subst e2
       exact ⟨hi, by simp [Lit.sameKey]⟩
   · rintro ⟨h1, h2⟩
     by_cases e : k = s.data.toList
     · subst e
       rw [hi] at h1
       injection h1 with h1
       exact ⟨(s, i), by simp, rfl, h1⟩
     · have h3 : left (.string k) = false := by
        simpa [Lit.sameKey, e] using h2
       obtain ⟨x, hx, r⟩ := (h.mem k v).2 ⟨h1, h3⟩
       exact ⟨x, List.mem_append_left _ hx, r⟩
 · rcases List.mem_append.1 hx with hx | hx
   · exact h.size x hx
   · simp at hx; subst hx; exact hs
structure EntsOf (l : List UInt8 → Option Int) (L : List E) : Prop where
 sorted : L.Pairwise fun a b => nameL a < nameL b
 mem : ∀ s v, (∃ x ∈ L, nameL x = s ∧ x.2 = v) ↔ l s = some v
 size : ∀ x ∈ L, x.1.size ≤ maxLen
structure EntsAt (w : World) (A : Option Addr) (L : List E) : Prop where
 at_ : 0 < L.length → ∃ B, A = some ⟨B, 0, none⟩ ∧ B < w.heap.size ∧ ∀ (k : Nat) (x : E), L[k]? = some x → w.cell? ⟨B, k * 2, none⟩ = some (.string x.1) ∧ w.cell? ⟨B, k * 2 + 1, none⟩ = some (.int .u32 x.2)
theorem EntsAt.below {w w' : World} {A : Option Addr} {L : List E} (h : EntsAt w A L) (hb : Below w.heap.size w w') : EntsAt w' A L := ⟨fun h0 => by
 obtain ⟨B, e, hlt, hc⟩ := h.at_ h0
 exact ⟨B, e, Nat.lt_of_lt_of_le hlt hb.size, fun k x hk => ⟨(hb.cell (p := ⟨B, _, none⟩) hlt).trans (hc k x hk).1, (hb.cell (p := ⟨B, _, none⟩) hlt).trans (hc k x hk).2⟩⟩⟩
def flatE (es : List E) : List Value := es.flatMap encE
theorem flatE_snoc (es : List E) (x : E) : flatE (es ++ [x]) = flatE es ++ [.string x.1, .int .u32 x.2] := by simp [flatE, encE]
theorem flatE_get : ∀ (es : List E) (i : Nat) (h : i < es.length), (flatE es)[i * 2]? = some (.string es[i].1) ∧ (flatE es)[i * 2 + 1]? = some (.int .u32 es[i].2)
 | x :: es, 0, _ => by simp [flatE, encE]
 | x :: es, i + 1, h => by
  have := flatE_get es i (by simpa using h)
  have e1 : (i + 1) * 2 = i * 2 + 2 := by omega
  have e2 : (i + 1) * 2 + 1 = i * 2 + 1 + 2 := by omega
  rw [e1, show i * 2 + 2 + 1 = i * 2 + 1 + 2 by omega]
  simpa [flatE, encE] using this
theorem holdsE_of {w : World} {g : Nat} {es : List E} {cur : Array Value} (hc : w.heap[g]? = some (.cells cur 149 (0, 0))) (ht : cur.toList.take (es.length * 2) = flatE es) : Go.Sort.HoldsK encE 2 w g 0 es.toArray := by
 intro j hj
 have hj' : j < es.length * 2 := by simpa using hj
 refine ⟨?_, by simp [World.frozen?, hc]⟩
 rw [Go.Sort.get_flatK _ _ _ _ (by simpa using hj'), Nat.zero_add]
 have h1 : cur[j]? = (flatE es)[j]? := by
  rw [← ht, List.getElem?_take, if_pos hj']
  simp
 obtain ⟨q, r, rfl, hr⟩ : ∃ q r, j = q * 2 + r ∧ r < 2 := ⟨j / 2, j % 2, by omega, by omega⟩
 rw [show (q * 2 + r) / 2 = q by omega, show (q * 2 + r) % 2 = r by omega]
 have hi : q < es.length := by omega
 obtain ⟨g1, g2⟩ := flatE_get es q hi
 have he : es.toArray[q]! = es[q] := by simp [hi]
 rw [he]
 simp only [World.cell?, hc, h1, id]
 rcases (show r = 0 ∨ r = 1 by omega) with rfl | rfl
 · rw [Nat.add_zero, g1]; rfl
 · rw [g2]; rfl
section
variable {P' : Program} {k t' e : TypeId} {w : World} {b n : Nat} {m : Lit → Option Value}
theorem MapAt.range' (h : MapAt w P' k b n m) (K : Keyed P' k) (ht : P'.underlying t' = some (.map k e)) :
  ∃ w' left cnt, (Instr.range t' (.map (some b))).run P' w = .ok (.pointer (some ⟨w.heap.size, 0, none⟩)) w' ∧ RangeAt w' P' k b w.heap.size n m left cnt ∧ cnt ≤ n ∧ (∀ kl, WideAt.IsKeyLit kl → left kl = (m kl).isSome) ∧ Below w.heap.size w w' ∧ w'.heap.size = w.heap.size + 1 := by
 obtain ⟨D, hD, hm⟩ := h
 obtain ⟨w', h1, h2, h3, h4⟩ := hD.range K ht
 exact ⟨w', _, _, h1, ⟨D, h2, hm⟩, hD.size_le, fun kl hk => by rw [ofD_has hD K hk, hm kl hk], ⟨h3.os, h3.tape, h3.output, h3.size, fun i hi => h3.block i hi (by simp)⟩, h4⟩
end
theorem wpList_next_S {ops : Array Oper} {rest : List Oper} {o : Oper} {a : Act} {w : World} {Q : Exit → Act → World → Prop} {b r n cnt : Nat} {l : List UInt8 → Option Int} {left : Lit → Bool} (hg : o.guard = none) (it : Operand) (hop : o.op = Op.next it false)
  (hit : a.eval it = .pointer (some ⟨r, 0, none⟩)) (h : RangeAt w Tryz.prog 9 b r n (entsM l) left cnt)
  (hDone : (∀ kl, left kl = false) → wpList Tryz.prog ops Q rest (a.put o.dst (.tuple #[.bool false])) w)
  (hMore : ∀ (s : ByteArray) (i : Int) (w' : World) (cnt' : Nat), left (.string s.data.toList) = true → l s.data.toList = some i → s.size ≤ maxLen → RangeAt w' Tryz.prog 9 b r n (entsM l) (fun x => left x && !x.sameKey (.string s.data.toList)) cnt' → cnt' < cnt → w.grownBy w' (some r) → w'.heap.size = w.heap.size →
   (Instr.entry (.pointer (some ⟨r, 0, none⟩))).run Tryz.prog w' = .ok (.tuple #[.string s, .int .u32 i]) w' → wpList Tryz.prog ops Q rest (a.put o.dst (.tuple #[.bool true, .string s, .int .u32 i])) w') :
  wpList Tryz.prog ops Q (o :: rest) a w := by
 refine wpList_plain hg fun K' hK' => ?_
 unfold Oper.wp
 rcases h.next lawS o.type with ⟨h0, hl, hrun⟩ | ⟨key, v, kl, w', cnt', hkey, hlk, hv, hrun, hrg, hlt, hgr, hsz, hen⟩
 · simp [execOp, hop, hit, hrun, Result.andThen]
   exact hK' _ _ (hDone hl)
 · obtain ⟨s, rfl, rfl, hs⟩ := keyOf_str hkey
   obtain ⟨i, hi, rfl⟩ : ∃ i, l s.data.toList = some i ∧ v = .int .u32 i := by
    unfold entsM at hv
    simp only [Option.map_eq_some_iff] at hv
    obtain ⟨i, h1, h2⟩ := hv
    exact ⟨i, h1, h2.symm⟩
   simp [execOp, hop, hit, hrun, Result.andThen]
   exact hK' _ _ (hMore s i w' cnt' hlk hi hs hrg hlt hgr hsz hen)
theorem infoE : (Tryz.prog.info? 149).map (fun i => (i.zero, i.size, i.bytes)) = some (some (.agg #[.string ⟨#[]⟩, .int .u32 0]), 2, 24) := by kernel_rfl
end Go.Proofs.YtogljgiefmfafaaGreat
namespace Go.Proofs.YtogljgiefmfafaaGreat
open Go.RowKit Go.Maps
section
variable {F : Nat → Prop} {P N : Nat} {y : Lay} {t : PT}
theorem asked2d {W : World} {i : Int} {v1 v2 : Value} (q1 : Question W v1 (thereE t [i])) (q2 : (∀ j ∈ [i], (t.n j).isSome = true) → Question W v2 (dirsE t [i])) : Asked W [v1, v2] [thereE t [i], dirsE t [i]] := by
 refine Asked.of W _ _ rfl fun j e v he hv h0 => ?_
 match j with
 | 0 => simp at he hv; subst he; subst hv; exact q1
 | 1 => simp at he hv; subst he; subst hv; exact q2 (there_all (h0 0 _ (by omega) rfl))
 | j + 2 => simp at he
theorem dirs_later {w : World} (h : TreeM w F P N y t) (a : Int) : ∀ W A c, Below w.heap.size w W → SliceAt W A [.int .u32 a] → Calls Tryz.prog 80 #[.pointer (some ⟨P, 0, none⟩), .slice A 1 c] W (QIf (∀ i ∈ [a], (t.n i).isSome = true) W (dirsE t [a])) :=
 fun W A c hw hA => t_dirsI [a] A 1 c _ rfl W (h.below hw) rfl (by simp [maxLen]) hA
def listE (t : PT) (d : Int) : Int := firstE [thereE t [d], dirsE t [d]]
def listL (t : PT) (d : Int) : List UInt8 → Option Int := if listE t d = 0 then (match t.n d with | some x => x.l | none => fun _ => none) else fun _ => none
def ListP (t : PT) (d : Int) (w : World) (e : Ending) (w' : World) : Prop :=
 ∃ (A : Option Addr) (c : Nat) (L : List E), e = .returned (.tuple #[.slice A L.length c, .int .i64 (listE t d)]) ∧ EntsOf (listL t d) L ∧ L.length ≤ 60000 ∧ EntsAt w' A L ∧ Below w.heap.size w w' ∧ ∀ B, A = some ⟨B, 0, none⟩ → w.heap.size ≤ B
theorem ents_nil : EntsOf (fun _ => none) [] := ⟨List.Pairwise.nil, fun s v => by simp, fun x hx => by cases hx⟩
theorem ColE.start {l : List UInt8 → Option Int} {left : Lit → Bool} (h : ∀ s, left (.string s) = (entsM l (.string s)).isSome) : ColE l left [] := by
 refine ⟨List.nodup_nil, fun s v => ?_, fun x hx => absurd hx (by simp)⟩
 constructor
 · rintro ⟨z, hz, _⟩
   cases hz
 · rintro ⟨h1, h2⟩
   rw [h s] at h2
   have h3 : ((l s).map (Value.int .u32)).isSome = false := h2
   rw [h1] at h3
   cases h3
theorem ents_empty {l : List UInt8 → Option Int} (h : ColE l (fun _ => false) []) : EntsOf l [] := by
 refine ⟨List.Pairwise.nil, fun s v => ?_, fun x hx => absurd hx (by simp)⟩
 constructor
 · rintro ⟨z, hz, _⟩
   cases hz
 · intro h1
   obtain ⟨z, hz, _⟩ := (h.mem s v).2 ⟨h1, rfl⟩
   cases hz
def ListAt (w : World) (l : List UInt8 → Option Int) (b r N : Nat) (v : Value) (wr : World) : Prop :=
 ∃ (left : Lit → Bool) (cnt : Nat) (es : List E), RangeAt wr Tryz.prog 9 b r N (entsM l) left cnt ∧ es.length + cnt ≤ N ∧ ColE l left es ∧ wr.ownsRow (r + 1) 149 2 v es.length (flatE es) ∧ Below w.heap.size w wr ∧ r < wr.heap.size ∧ b < r ∧ w.heap.size ≤ r
theorem ents_sorted {l : List UInt8 → Option Int} {es : List E} {d' : Array E} {n : Nat} (hn : es.length = n) (h : ColE l (fun _ => false) es) (hp : Go.Sort.PermIn 0 n es.toArray d') (hs : Go.Sort.SortedIn (Go.Proofs.ltOf cmpE) 0 n d') : EntsOf l d'.toList ∧ d'.toList.length = n := by
 subst hn
 have hsz : d'.size = es.length := by rw [hp.1]; simp
 have hlen : d'.toList.length = es.length := by simpa using hsz
 have hperm : d'.toList.Perm es := by
  have h3 := hp.2.2
  rw [Array.extract_eq_self_of_le (by rw [hsz]; exact Nat.le_refl _), Array.extract_eq_self_of_le (by simp)] at h3
  exact h3
 have hget : ∀ (k : Nat) (h : k < d'.toList.length), d'.toList[k] = d'[k]! := fun k h => by
  rw [getElem!_pos d' k (by simpa using h)]
  simp
 have hnd : (d'.toList.map nameL).Nodup := (hperm.map nameL).nodup_iff.2 h.nodup
 refine ⟨⟨?_, fun s v => ?_, fun x hx => h.size x (hperm.mem_iff.1 hx)⟩, hlen⟩
 · rw [List.pairwise_iff_getElem]
   intro i j hi hj hij
   have h1 := hs i j (Nat.zero_le _) hij (by omega)
   rw [ltE, ← hget i hi, ← hget j hj] at h1
   have h2 : ¬ nameL d'.toList[j] < nameL d'.toList[i] := by simpa [Go.Sort.ltStr] using h1
   have h3 : nameL d'.toList[i] ≠ nameL d'.toList[j] := by
    intro e
    have e2 : (d'.toList.map nameL)[i]'(by simpa using hi) = (d'.toList.map nameL)[j]'(by simpa using hj) := by simpa using e
    have := (List.getElem_inj hnd).1 e2
    omega
   exact Decidable.byContradiction fun h4 => h3 (List.le_antisymm (List.not_lt.1 h2) (List.not_lt.1 h4))
 · rw [← (show (l s = some v ∧ False = False) ↔ l s = some v from ⟨fun h => h.1, fun h => ⟨h, rfl⟩⟩)]
   constructor
   · rintro ⟨x, hx, r⟩
     exact ⟨((h.mem s v).1 ⟨x, hperm.mem_iff.1 hx, r⟩).1, rfl⟩
   · rintro ⟨h1, _⟩
     obtain ⟨x, hx, r⟩ := (h.mem s v).2 ⟨h1, rfl⟩
     exact ⟨x, hperm.mem_iff.2 hx, r⟩
theorem entsAt_of {w : World} {B : Nat} {d : Array E} (h : Go.Sort.HoldsK encE 2 w B 0 d) (hlt : B < w.heap.size) : EntsAt w (some ⟨B, 0, none⟩) d.toList := ⟨fun _ => ⟨B, rfl, hlt, fun k x hk => by
 obtain ⟨h1, h2⟩ := List.getElem?_eq_some_iff.1 hk
 have hk' : k < d.size := by simpa using h1
 have e : d[k]! = x := by rw [getElem!_pos d k hk', ← h2]; simp
 have c0 := (h.cell (c := 0) hk' (by omega)).1
 have c1 := (h.cell (c := 1) hk' (by omega)).1
 rw [Nat.zero_add, Nat.add_zero, e] at c0
 rw [Nat.zero_add, e] at c1
 exact ⟨c0, c1⟩⟩⟩
theorem cell_two_new (x y : Value) (T : TypeId) (w : World) : ∀ j u, [x, y][j]? = some u → (w.alloc (.cells #[x, y] T)).cell? ((⟨w.heap.size, 0, none⟩ : Addr).add j) = some u := by
 intro j u h
 have e := heap_alloc_new w (.cells #[x, y] T)
 match j with
 | 0 =>
  simp at h; subst h
  show World.cell? _ ⟨w.heap.size, 0, none⟩ = _
  simp only [World.cell?, e]; rfl
 | 1 =>
  simp at h; subst h
  show World.cell? _ ⟨w.heap.size, 1, none⟩ = _
  simp only [World.cell?, e]; rfl
 | j + 2 => simp at h
set_option maxRecDepth 100000 in
set_option maxHeartbeats 4000000 in
theorem t_listP (d : Int) (w : World) (h : TreeM w F P N y t) (hd : U32 d) (hN : N ≤ 60000) :
  Calls Tryz.prog 37 #[.pointer (some ⟨P, 0, none⟩), .int .u32 d] w (ListP t d w) := by
 have HTh := Lib.hid (there_later h d hd)
 have HDi := Lib.hid (dirs_later h d)
 have HT := Lib.hid h
 obtain ⟨q, hq⟩ : ∃ q, listE t d = q := ⟨_, rfl⟩
 have HE : Hid (firstE [thereE t [d], dirsE t [d]] = q) := hq
 by_cases hz : q = 0
 · subst hz
   have hz := HE.out
   obtain ⟨z1, hz⟩ := firstE_cons hz
   obtain ⟨x, hx⟩ := Option.isSome_iff_exists.1 (there_one z1)
   have HX := Lib.hid hx
   have HLL : Hid (listL t d = x.l) := by show _ = _; unfold listL; rw [if_pos hq, hx]
   have HQ := Lib.hid hq
   have HN := Lib.hid hN
   clear h hd hN z1 hz hx hq
   go_enter Tryz.func37, Tryz.ntmps37
   go_wp2_with (first
    | (go_at_call 48; (with_reducible refine (HTh.out _ _ _ (below_a1 w _) (SliceAt.built' _ [.int .u32 d] _ (w.heap.size) rfl)).mono ?_); rintro e w1 hq; obtain ⟨g1, l1, rfl, hq1, hb1⟩ := hq.get; have HQ1 := Lib.hid hq1; have HB1 := Lib.hid (ptrans (below_a1 w _) hb1); clear hq hq1 hb1)
    | (go_at_call 80; (with_reducible refine (HDi.out _ _ _ (ptrans HB1.out (below_a1 w1 _)) (SliceAt.built' w1 [.int .u32 d] _ (w1.heap.size) rfl)).mono ?_); rintro e w2 ⟨g2, l2, rfl, hq2, hb2⟩; have HQ2 := Lib.hid hq2; have HB2 := Lib.hid (ptrans (ptrans HB1.out (below_a1 w1 _)) hb2); have HQ1' := Lib.hid (HQ1.out.later (ptrans (below_a1 w1 _) hb2)); clear hq2 hb2)
    | (go_at_call 47; (with_reducible refine (check_built w2 P [.func (.func g1) #[] l1, .func (.func g2) #[] l2] 2 [thereE t [d], dirsE t [d]] 0 HE.out _ rfl (by omega) (asked2d HQ1'.out HQ2.out) (by simp)).mono ?_); rintro e w4 ⟨rfl, hb4⟩
       have hb : Below w.heap.size w w4 := ptrans (ptrans HB2.out (below_a1 _ _)) hb4
       have hT := HT.out.below hb
       have c1 := hT.c1
       have hlk := hT.look_some HX.out
       have n3 : w4.cell? ⟨y.f d, 3, none⟩ = some (.map (some (y.L d))) := (hT.node d x HX.out).cell 3
       obtain ⟨w5, lft, ct, hrng, hRg, hct, hlf, hb5, hs5⟩ := (hT.node d x HX.out).ents.range' lawS Tryz.underlying86
       have HB5 := Lib.hid (ptrans hb hb5)
       have HRg := Lib.hid hRg
       have HLf := Lib.hid hlf
       have HCt := Lib.hid hct
       have HLt := Lib.hid (hT.node d x HX.out).ents.lt
       have HS5 := Lib.hid hs5
       have HWW := Lib.hid hb.size
       clear hb hb4 hT hRg hlf hb5 hct hs5 HQ1 HQ2 HQ1' HB1 HB2))
   obtain ⟨RB, hRB⟩ : ∃ RB, w4.heap.size = RB := ⟨_, rfl⟩
   have hst : Hid (ListAt w x.l (y.L d) RB N (.slice none 0 0) w5) := ⟨lft, ct, [], by rw [← hRB]; exact HRg.out, by have := HCt.out; simp; exact this,
    ColE.start (fun s => HLf.out (.string s) trivial), World.ownsRow_nil _ _ _ _, HB5.out, by have := HS5.out; omega, by have := HLt.out; omega, by have := HWW.out; omega⟩
   rw [hRB]
   clear hrng c1 hlk n3 HRg HLf HB5 HCt HS5 HLt HWW hRB
   go_loopw [4] (fun v wr => ListAt w x.l (y.L d) RB N v wr) (fun _ wr => wr.rangeLeft (y.L d) RB)
   case atStart => exact hst.out
   case round =>
    obtain ⟨left, cnt, es, hrg, hec, hco, how, hbl, hr1, hbr, hwr⟩ := hrel
    have HCO := Lib.hid hco
    have HBL := Lib.hid hbl
    clear hco hbl
    obtain ⟨i0, hi, hz0, hz1, hz2⟩ := info_parts infoE
    go_wp2_with (at_next; refine wpList_next_S rfl _ rfl rfl hrg ?_ ?_)
    · intro hdone
      have hdone' : left = fun _ => false := funext hdone
      have HCF : Hid (ColE x.l (fun _ => false) es) := by show ColE _ _ _; rw [← hdone']; exact HCO.out
      clear hdone hdone' hrg
      have hes : es.length ≤ 60000 := by have := HN.out; omega
      rcases how.2 with ⟨rfl, hz0⟩ | ⟨g, cap, cur, rfl, hg, hcur, hg1, hg2, hg3, htake⟩
      · obtain rfl : es = [] := List.eq_nil_of_length_eq_zero hz0
        have HEN : Hid (EntsOf (listL t d) []) := by
         show EntsOf _ _
         rw [HLL.out]
         exact ents_empty HCF.out
        go_wp2_with (go_at_call 81; refine (e_sort0 _ _).mono ?_; rintro e w' ⟨rfl, rfl⟩)
        go_ret2
        exact ⟨none, 0, [], by rw [HQ.out]; rfl, HEN.out, by simp, ⟨fun h0 => by simp at h0⟩, HBL.out, fun _ h => by cases h⟩
      · have hgl : g < wr.heap.size := (Array.getElem?_eq_some_iff.1 hcur).1
        have HS := Lib.hid (e_sortFunc g es.length cap es.toArray wr (by simp) (holdsE_of hcur htake) hgl hes)
        have HG : Hid (RB + 1 ≤ g) := hg
        clear how hcur htake hg
        go_wp2_with (go_at_call 81; (with_reducible refine HS.out.mono ?_); rintro e w6 ⟨d', rfl, hp, hs, hH, hg6⟩; have HP := Lib.hid hp; have HSo := Lib.hid hs; have HH := Lib.hid hH; have HG6 := Lib.hid hg6; clear hp hs hH hg6)
        go_ret2
        obtain ⟨h1, h2⟩ := ents_sorted rfl HCF.out (by have := HP.out; simpa using this) (by have := HSo.out; simpa using this)
        refine ⟨some ⟨g, 0, none⟩, cap, d'.toList, by rw [HQ.out, h2]; rfl, by rw [HLL.out]; exact h1, by rw [h2]; exact hes, entsAt_of HH.out (Nat.lt_of_lt_of_le hgl HG6.out.size), below_grown HBL.out HG6.out (by have := HG.out; omega), fun B h => ?_⟩
        injection h with h
        injection h with h
        have := HG.out
        omega
    · intro s iv w6 cnt6 hlk hck hsz6 hrg6 hlt6 hg6 hs6 hen
      have HC6 := Lib.hid (HCO.out.step hlk hck hsz6)
      have HRG := Lib.hid hrg6
      have HLT : Hid (cnt6 < wr.rangeLeft (y.L d) RB) := by rw [hrg.left_eq]; exact hlt6
      have HL6 : Hid (cnt6 < cnt) := hlt6
      have hown6 : w6.ownsRow (RB + 1) 149 2 u4 es.length (flatE es) := how.kept hg6 (by
       rcases how.2 with ⟨e, _⟩ | ⟨g, cap, cur, e, hg, _⟩
       · rw [e]; exact .inl rfl
       · rw [e]; exact .inr (fun e => by injection e with e; simp at e; omega))
      have hob : ∀ b, b < RB + 1 → u4.ownBlock ≠ some b := by
       intro b hb
       rcases hown6.2 with ⟨e, _⟩ | ⟨g, cap, cur, e, hg, _⟩
       · rw [e]; exact fun h => by cases h
       · rw [e]; exact fun h => by injection h with h; simp at h; omega
      have HOB := Lib.hid hob
      have HB6 := Lib.hid (below_grown HBL.out hg6 hwr)
      have hsz7 : RB + 1 ≤ w6.heap.size := by omega
      have hes : es.length + 1 ≤ 60000 := by have := HN.out; omega
      have HS6 := Lib.hid hs6
      clear hlk hck hsz6 hrg6 hlt6 hg6 hrg how hob hs6
      go_wp2_with (at_builtin; refine wpList_append_own _ rfl _ _ 65 rfl (RB + 1) 149 i0 (.agg #[.string ⟨#[]⟩, .int .u32 0]) 2 24 Tryz.underlying65 hi hz0 hz1 hz2 rfl (by decide) _ _ _ rfl (hown6.alloc _) ⟨w6.heap.size, 0, none⟩ 1 1 [.string s, .int .u32 iv] rfl rfl (cell_two_new _ _ _ _) (by simp [Value.oneCell']) (by unfold maxLen; omega) (by omega) (by simp; omega) ?_; intro v' w7 hown7 hgrow7 _)
      have hgr : (w6.alloc (.cells #[.string s, .int .u32 iv] 149)).grownBy w7 u4.ownBlock := hgrow7
      clear hgrow7
      have hbk : ∀ b, b < RB + 1 → w7.heap[b]? = w6.heap[b]? := fun b hb => (hgr.block b (by simp; omega) (fun h => HOB.out b hb h.symm)).trans (Go.heap_alloc_old _ _ (Nat.lt_of_lt_of_le hb hsz7))
      have hR7 : RangeAt w7 Tryz.prog 9 (y.L d) RB N (entsM x.l) (fun z => left z && !z.sameKey (.string s.data.toList)) cnt6 := HRG.out.same (hbk _ (by omega)) (hbk _ (by omega))
      have hsz8 : w6.heap.size + 1 ≤ w7.heap.size := by have := hgr.size; simpa using this
      have hB7 : Below w.heap.size w w7 := ⟨hgr.os.trans HB6.out.os, hgr.tape.trans HB6.out.tape, hgr.output.trans HB6.out.output, by have := HB6.out.size; omega, fun b hb => (hbk b (by omega)).trans (HB6.out.block b hb)⟩
      go_roundw
      · exact ⟨_, cnt6, es ++ [(s, iv)], hR7, by have := HL6.out; simp; omega, HC6.out, by simpa [flatE_snoc] using hown7, hB7, by omega, hbr, hwr⟩
      · exact Nat.lt_of_le_of_lt (Nat.le_of_eq hR7.left_eq) HLT.out
 · have HQ : Hid (listL t d = fun _ => none) := by show _ = _; unfold listL; rw [if_neg (by rw [hq]; exact hz)]
   clear h hd hN
   go_enter Tryz.func37, Tryz.ntmps37
   go_wp2_with (first
    | (go_at_call 48; (with_reducible refine (HTh.out _ _ _ (below_a1 w _) (SliceAt.built' _ [.int .u32 d] _ (w.heap.size) rfl)).mono ?_); rintro e w1 hq; obtain ⟨g1, l1, rfl, hq1, hb1⟩ := hq.get; have HQ1 := Lib.hid hq1; have HB1 := Lib.hid (ptrans (below_a1 w _) hb1); clear hq hq1 hb1)
    | (go_at_call 80; (with_reducible refine (HDi.out _ _ _ (ptrans HB1.out (below_a1 w1 _)) (SliceAt.built' w1 [.int .u32 d] _ (w1.heap.size) rfl)).mono ?_); rintro e w2 ⟨g2, l2, rfl, hq2, hb2⟩; have HQ2 := Lib.hid hq2; have HB2 := Lib.hid (ptrans (ptrans HB1.out (below_a1 w1 _)) hb2); have HQ1' := Lib.hid (HQ1.out.later (ptrans (below_a1 w1 _) hb2)); clear hq2 hb2)
    | (go_at_call 47; (with_reducible refine (check_built w2 P [.func (.func g1) #[] l1, .func (.func g2) #[] l2] 2 [thereE t [d], dirsE t [d]] q HE.out _ rfl (by omega) (asked2d HQ1'.out HQ2.out) (by simp)).mono ?_); rintro e w4 ⟨rfl, hb4⟩
       have hb : Below w.heap.size w w4 := ptrans (ptrans HB2.out (below_a1 _ _)) hb4
       have HBB := Lib.hid hb
       have he' : (q == 0) = false := by simpa using hz
       clear hb4 hb HQ1 HQ2 HQ1' HB1 HB2 HE))
   go_ret2
   exact ⟨none, 0, [], by rw [hq]; rfl, by rw [HQ.out]; exact ents_nil, by simp, ⟨fun h0 => by simp at h0⟩, HBB.out, fun _ h => by cases h⟩
end
end Go.Proofs.YtogljgiefmfafaaGreat
