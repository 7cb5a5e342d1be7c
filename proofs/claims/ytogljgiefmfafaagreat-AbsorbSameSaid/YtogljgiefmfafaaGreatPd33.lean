/- What absorb computes, as the plain half has it. -/
import Derived.Test.YtogljgiefmfafaaGreatPd13
import Derived.Test.YtogljgiefmfafaaGreatPd29
import Derived.Test.YtogljgiefmfafaaGreatPd32
import Derived.Test.YtogljgiefmfafaaGreatRows
import Derived.Carry
import Derived.ProofKit
import Derived.SizedLaws
import Derived.Deep.Slices
import Derived.Deep.Fields
import Derived.ChangeMaps5
import Derived.ChangeSlices
import Derived.Below
import Derived.Laws.MakeOwn
import Derived.Laws.IdiomStrings
import Derived.Laws.StructEq
namespace Go.Proofs.YtogljgiefmfafaaGreat
open Go.RowKit Go.Maps
section
def toA (r : R) : A.R := ⟨r.stamp, r.act, r.dir, r.name, r.ino, r.kind, r.dir2, r.name2, r.old, r.size, r.page, r.data⟩
theorem again_toA (x : R) : ∀ (l : List R) (c : Nat), A.againGo (toA x) c (l.map toA) = againP x c l
 | [], _ => rfl
 | r :: l, c => by
  have h1 := again_toA x l c
  have h2 := again_toA x l (c + 1)
  rw [List.map_cons]
  unfold A.againGo againP
  rw [h1, h2]
  rfl
theorem idleGo_spec (x : A.R) : ∀ (rs : List A.R) (i : Nat) (D : DataW Unit) (tz : Nat), A.idleGo x D (A.placed rs i) = some tz →
  ∃ m, tz = i + m ∧ (∃ r, rs[m]? = some r ∧ r.act = 7 ∧ r.ino = x.ino) ∧
   ∀ j r, j < m → rs[j]? = some r → (r.dir ≠ x.ino ∧ r.dir2 ≠ x.ino ∧ r.old ≠ x.ino) ∧ (r.ino = x.ino → r.act = 2 ∨ r.act = 3 ∨ r.act = 5 ∨ r.act = 6)
 | [], _, _, _, h => by simp [A.placed, A.idleGo] at h
 | r :: rs, i, D, tz, h => by
  have next : ∀ D', A.idleGo x D' (A.placed rs (i + 1)) = some tz → ((r.dir ≠ x.ino ∧ r.dir2 ≠ x.ino ∧ r.old ≠ x.ino) ∧ (r.ino = x.ino → r.act = 2 ∨ r.act = 3 ∨ r.act = 5 ∨ r.act = 6)) →
    ∃ m, tz = i + m ∧ (∃ r', (r :: rs)[m]? = some r' ∧ r'.act = 7 ∧ r'.ino = x.ino) ∧
     ∀ j r', j < m → (r :: rs)[j]? = some r' → (r'.dir ≠ x.ino ∧ r'.dir2 ≠ x.ino ∧ r'.old ≠ x.ino) ∧ (r'.ino = x.ino → r'.act = 2 ∨ r'.act = 3 ∨ r'.act = 5 ∨ r'.act = 6) := fun D' h' hr => by
   obtain ⟨m, hm, h1, h2⟩ := idleGo_spec x rs (i + 1) D' tz h'
   refine ⟨m + 1, by omega, by simpa using h1, fun j r' hj hr' => ?_⟩
   cases j with
   | zero =>
    have : r = r' := by simpa using hr'
    subst this
    exact hr
   | succ j => exact h2 j r' (by omega) (by simpa using hr')
  rw [A.placed] at h
  unfold A.idleGo at h
  split at h
  · rename_i c
    split at h
    · cases h
      exact ⟨0, rfl, ⟨r, rfl, c.2, c.1⟩, fun j _ hj => by omega⟩
    · cases h
  · split at h
    · cases h
    · rename_i c
      have hd : r.dir ≠ x.ino ∧ r.dir2 ≠ x.ino ∧ r.old ≠ x.ino := ⟨fun e => c (.inl e), fun e => c (.inr (.inl e)), fun e => c (.inr (.inr e))⟩
      split at h
      · split at h
        · rename_i c2
          split at h
          · cases h
          · exact next _ h ⟨hd, fun _ => .inl c2⟩
        · split at h
          · rename_i c3
            split at h
            · exact next _ h ⟨hd, fun _ => .inr (.inl c3)⟩
            · cases h
          · split at h
            · rename_i c5
              exact next _ h ⟨hd, fun _ => .inr (.inr c5)⟩
            · cases h
      · rename_i c3
        exact next _ h ⟨hd, fun e => absurd e c3⟩
variable {l : List R} {k i tz : Nat}
theorem map_rAt (hk : k < l.length) : (l.map toA)[k]? = some (toA (rAt l k)) := by
 rw [List.getElem?_map, List.getElem?_eq_getElem hk]
 unfold rAt
 rw [List.getD_eq_getElem?_getD, List.getElem?_eq_getElem hk]
 rfl
theorem idle_toA (h : A.idleB (l.map toA) k = some tz) : IdleP l k tz := by
 have hlt := A.idleB_lt h
 rw [List.length_map] at hlt
 have hk : k < l.length := by omega
 unfold A.idleB at h
 rw [map_rAt hk] at h
 simp only at h
 split at h
 · rename_i c
   unfold A.behindOf at h
   obtain ⟨m, hm, ⟨r, h1, h2, h3⟩, h4⟩ := idleGo_spec _ _ _ _ _ h
   subst hm
   rw [List.getElem?_drop, map_rAt hlt.2] at h1
   cases h1
   refine ⟨hlt.1, hlt.2, c, ⟨h2, h3⟩, fun i hi hi2 => ?_⟩
   exact h4 (i - (k + 1)) (toA (rAt l i)) (by omega) (by rw [List.getElem?_drop, show k + 1 + (i - (k + 1)) = i by omega, map_rAt (by omega)])
 · cases h
def idleR (l : List R) : Nat → Option Nat := A.idleB (l.map toA)
def goneR (l : List R) (i : Nat) : Bool := !(A.goneN (l.map toA) l.length i == 0)
theorem inoAt_toA (hi : i < l.length) : A.inoAt (l.map toA) i = (rAt l i).ino := by
 unfold A.inoAt
 rw [map_rAt hi]
 rfl
theorem goneR_iff (hi : i < l.length) : goneR l i = true ↔ GoneP l (idleR l) i := by
 have e1 : goneR l i = true ↔ ∃ k, k < l.length ∧ A.hit (l.map toA) k i = true := by
  unfold goneR A.goneN
  rw [Bool.not_eq_true', beq_eq_false_iff_ne, ne_eq, List.countP_eq_zero]
  simp
 rw [e1]
 constructor
 · rintro ⟨k, hk, h⟩
   unfold A.hit at h
   split at h
   · rename_i tz hz
     simp only [decide_eq_true_eq] at h
     rw [inoAt_toA hi, inoAt_toA hk] at h
     exact ⟨k, tz, hz, h.1, h.2.1, h.2.2⟩
   · cases h
 · rintro ⟨k, tz, hz, h1, h2, h3⟩
   have hI := idle_toA hz
   have hk : k < l.length := by have := hI.lt; have := hI.len; omega
   refine ⟨k, hk, ?_⟩
   have hz' : A.idleB (l.map toA) k = some tz := hz
   unfold A.hit
   rw [hz']
   simp only [decide_eq_true_eq]
   rw [inoAt_toA hi, inoAt_toA hk]
   exact ⟨h1, h2, h3⟩
theorem at_toA (hk : k < l.length) : A.at_ (l.map toA) k = toA (rAt l k) := by
 unfold A.at_
 rw [List.getD_eq_getElem?_getD, map_rAt hk]
 rfl
theorem aliveR (l : List R) : A.aliveOf (l.map toA) = (List.range l.length).filter (fun k => !goneR l k) := by
 unfold A.aliveOf
 rw [List.length_map]
 congr 1
 funext k
 unfold goneR
 rw [Bool.not_not]
theorem restR (l : List R) : A.restOf (l.map toA) = (keptTo l (goneR l) l.length).map toA := by
 unfold A.restOf A.pick keptTo
 rw [aliveR, List.map_map]
 exact List.map_congr_left fun k hk => at_toA (by simpa using (List.mem_filter.1 hk).1)
theorem numTo_in {al : List Nat} {j : Nat} (hn : al.Nodup) (hj : al[j]? = some k) : ∀ i, j < i → A.numTo al i k = j + 1
 | 0, h => by omega
 | i + 1, h => by
  unfold A.numTo
  by_cases c : al[i]? = some k
  · rw [if_pos c]
    have hi := (List.getElem?_eq_some_iff.1 c).1
    have : i = j := (List.getElem?_inj hi hn).1 (c.trans hj.symm)
    omega
  · rw [if_neg c]
    refine numTo_in hn hj i ?_
    have : i ≠ j := fun e => c (e ▸ hj)
    omega
theorem numTo_out {al : List Nat} (h : k ∉ al) : ∀ i, A.numTo al i k = 0
 | 0 => rfl
 | i + 1 => by
  unfold A.numTo
  rw [if_neg fun c => h (List.mem_of_getElem? c)]
  exact numTo_out h i
theorem left_go (rs : List A.R) (al : List Nat) (hn : al.Nodup) : ∀ (suf pre : List Nat) (l : List R), al = pre ++ suf → suf.map (A.at_ rs) = l.map toA →
  (suf.filter fun k => !A.againB (al.map (A.at_ rs)) (A.numTo al al.length k - 1)).map (A.at_ rs) = (leftP l).map toA
 | [], _, [], _, _ => rfl
 | [], _, _ :: _, _, h => by simp at h
 | _ :: _, _, [], _, h => by simp at h
 | k :: suf, pre, x :: l, ha, h => by
  rw [List.map_cons, List.map_cons, List.cons.injEq] at h
  have ih := left_go rs al hn suf (pre ++ [k]) l (by rw [ha]; simp) h.2
  have hj : al[pre.length]? = some k := by rw [ha]; simp
  have hlen : pre.length < al.length := by rw [ha]; simp
  have e1 := numTo_in hn hj al.length hlen
  have hd : al.drop (pre.length + 1) = suf := by rw [ha]; simp [List.drop_append]
  have e2 : A.againB (al.map (A.at_ rs)) (A.numTo al al.length k - 1) = decide (x.act = 6 ∧ againP x 0 l = true) := by
   rw [e1, Nat.add_sub_cancel]
   unfold A.againB
   rw [List.getElem?_map, hj]
   simp only [Option.map_some]
   rw [← List.map_drop, hd, h.1, h.2, again_toA]
   show (if x.act = 6 then _ else false) = _
   by_cases c : x.act = 6 <;> simp [c]
  rw [List.filter_cons, e2, leftP]
  by_cases c : x.act = 6 ∧ againP x 0 l = true
  · rw [decide_eq_true c, if_neg (by simp), if_pos c]
    exact ih
  · rw [decide_eq_false c, if_pos (by simp), if_neg c, List.map_cons, List.map_cons, h.1, ih]
theorem of_toA (l : List R) : A.ofOf (l.map toA) = (leftP (keptTo l (goneR l) l.length)).map toA := by
 obtain ⟨al, hal⟩ : ∃ al, A.aliveOf (l.map toA) = al := ⟨_, rfl⟩
 have hn : al.Nodup := by
  rw [← hal]
  exact List.Nodup.sublist List.filter_sublist List.nodup_range
 have h1 : al.map (A.at_ (l.map toA)) = (keptTo l (goneR l) l.length).map toA := by
  rw [← hal]
  exact restR l
 have hr : A.restOf (l.map toA) = al.map (A.at_ (l.map toA)) := by
  unfold A.restOf A.pick
  rw [hal]
 have h2 : A.leftOf (l.map toA) = al.filter fun k => !A.againB (al.map (A.at_ (l.map toA))) (A.numTo al al.length k - 1) := by
  have hal2 : al = (List.range (l.map toA).length).filter (fun k => A.goneN (l.map toA) (l.map toA).length k == 0) := hal.symm
  have gen : ∀ q : Nat → Bool, (∀ k, k ∈ List.range (l.map toA).length → (!A.goneB (l.map toA) k) = (q k && (A.goneN (l.map toA) (l.map toA).length k == 0))) → A.leftOf (l.map toA) = al.filter q := fun q hq => by
   rw [hal2, List.filter_filter]
   exact List.filter_congr hq
  refine gen _ fun k hk => ?_
  show (!(A.numTo (A.aliveOf (l.map toA)) (A.aliveOf (l.map toA)).length k == 0 || A.againB (A.restOf (l.map toA)) (A.numTo (A.aliveOf (l.map toA)) (A.aliveOf (l.map toA)).length k - 1))) = _
  rw [hr, hal]
  by_cases c : (A.goneN (l.map toA) (l.map toA).length k == 0) = true
  · have hm : k ∈ al := by rw [hal2]; exact List.mem_filter.2 ⟨hk, c⟩
    obtain ⟨j, hj⟩ := List.mem_iff_getElem?.1 hm
    rw [numTo_in hn hj al.length (List.getElem?_eq_some_iff.1 hj).1, c]
    simp
  · have hm : k ∉ al := by rw [hal2]; exact fun h => c (List.mem_filter.1 h).2
    rw [numTo_out hm, show (A.goneN (l.map toA) (l.map toA).length k == 0) = false by simpa using c]
    simp
 unfold A.ofOf A.pick
 rw [h2]
 exact left_go _ al hn al [] _ rfl h1
theorem kept_ok {gone : Nat → Bool} (ho : ∀ r ∈ l, r.Ok) : ∀ r ∈ keptTo l gone l.length, r.Ok := by
 intro r hr
 unfold keptTo at hr
 obtain ⟨k, hk, rfl⟩ := List.mem_map.1 hr
 exact ho _ (rAt_memJ (by simpa using (List.mem_filter.1 hk).1))
theorem absorb_same {t0 t : PT} (h0 : WellP t0) (hh : Held1 t0) (ho : ∀ r ∈ l, r.Ok) (e : runA t0 l = some t) :
  ∃ l', A.ofOf (l.map toA) = l'.map toA ∧ (∀ r ∈ l', r.Ok) ∧ runA t0 l' = some t := by
 refine ⟨_, of_toA l, ?_, runA_leftP h0 hh (kept_ok ho) (idle_same (idle := idleR l) (fun k tz h => idle_toA h) (fun i hi => goneR_iff hi) h0 hh ho e)⟩
 have gen : ∀ l : List R, (∀ r ∈ l, r.Ok) → ∀ r ∈ leftP l, r.Ok := by
  intro l
  induction l with
  | nil => exact fun h => h
  | cons x l ih =>
   intro h r hr
   rw [leftP] at hr
   have hl := ih fun y hy => h y (List.mem_cons_of_mem _ hy)
   split at hr
   · exact hl r hr
   · rcases List.mem_cons.1 hr with c | c
     · exact h r (c ▸ List.mem_cons_self ..)
     · exact hl r c
 exact gen _ (kept_ok ho)
end
end Go.Proofs.YtogljgiefmfafaaGreat

namespace Go.Proofs.YtogljgiefmfafaaGreat
open Go.ChangeShapes Go.WideShapes Go.ChangeAt Go.RowKit
section
variable {H : Type} {enc : TypeId × Value → H} {P : Program}
theorem trodAll_below (hl : laidOutB P = true) {W W' : World} (hb : Below W.heap.size W W') :
  ∀ (ts : List TypeId) (vs : List Value) (ds : List (DataW H)) (ps : List MemPlace), (∀ t ∈ ts, P.readableRec t = true ∧ t < P.types.size) →
   DataW.TrodAll enc P W 0 (fun _ => true) true ts vs ds ps → (∀ x ∈ ps, x.block < W.heap.size) → DataW.TrodAll enc P W' 0 (fun b => decide (b < W.heap.size)) true ts vs ds ps
 | [], [], [], ps, _, h, _ => h
 | t :: ts, v :: vs, d :: ds, ps, hr, h, hlt => by
  obtain ⟨p, q, h1, h2, rfl⟩ := h
  refine ⟨p, q, ?_, ?_, rfl⟩
  · exact Below.trod hl (hr t (List.mem_cons_self ..)).1 (hr t (List.mem_cons_self ..)).2 h1 hb (fun x hx => hlt x (List.mem_append_left _ hx))
  · exact trodAll_below hl hb ts vs ds q (fun t ht => hr t (List.mem_cons_of_mem _ ht)) h2 (fun x hx => hlt x (List.mem_append_right _ hx))
 | [], [], _ :: _, _, _, h, _ => h.elim
 | [], _ :: _, _, _, _, h, _ => h.elim
 | _ :: _, [], _, _, _, h, _ => h.elim
 | _ :: _, _ :: _, [], _, _, h, _ => h.elim
theorem law_post {f : Func} {s : ChangeSpec} {tb : TypeId} {W W' : World} {args : Array Value} {ds gs : List (DataW H)} {before : List MemPlace}
  (hl : laidOutB P = true) (hr : f.params.toList.all (fun t => P.readableRec t && decide (t < P.types.size)) = true) (hv : s.vars = []) (hrt : f.resultTypes = #[tb]) (htb : P.underlying tb = some .bool)
  (hW : DataW.Whole enc P f.params.toList s.vars false W args.toList ds gs before)
  (hfn : s.fn H (ds ++ gs) = { results := [.lit (.bool true)], args := ds }) (hb : Below W.heap.size W W') :
  s.post enc P f false true false false W args (.bool true) W' := by
 have hW' := hW
 obtain ⟨p, q, hA, hV, rfl, _, _⟩ := hW
 rw [hv] at hV
 obtain ⟨rfl, rfl⟩ := trodVars_none hV
 have hlt : ∀ x ∈ p, x.block < W.heap.size := fun x hx => by simpa using hW'.lt x (List.mem_append_left _ hx)
 refine ⟨ds, [], p ++ [], [], p, [], hW', ?_, ?_, ?_, hb.frame _, fun h => by cases h⟩
 · rw [hfn, hrt]
   exact trodAll_mk1 (shut_bool htb true)
 · rw [hfn]
   exact trodAll_below hl hb _ _ _ _ (fun t ht => by have := List.all_eq_true.1 hr t ht; simpa using this) hA hlt
 · rw [hfn, hv]
   rfl
theorem structs_open {w : World} {base : Nat} {spare : Nat → Bool} {held : Bool} {t e : TypeId} {fs : Array Field} {fuel : Nat} {cs : List Value} {x : DataW H × List MemPlace}
  (ht : P.underlying t = some (.slice e)) (he : P.underlying e = some (.struct fs)) (hone : Go.Deep.oneCellFields P fs = true) (hC : P.cellsOf e = fs.size) (h : DataW.trod enc P w base spare held fuel t cs = some x) :
  cs = [.slice none 0 0] ∨ ∃ (a : Addr) (len cap : Nat), cs = [.slice (some a) len cap] ∧ len ≤ cap ∧ cap ≤ maxLen ∧
   ∀ i, i < len → ∀ (j : Nat) (f : Field), fs[j]? = some f → ∃ (v : Value) (y : DataW H × List MemPlace) (n : Nat), w.cell? (a.add (i * fs.size + j)) = some v ∧ DataW.trod enc P w base spare held n f.type [v] = some y := by
 rcases Go.Deep.open_slice ht h with h0 | ⟨a, len, cap, m, n, D, Pl, hcs, _, hl, hm, hmm, _, hi⟩
 · exact .inl h0.1
 · refine .inr ⟨a, len, cap, hcs, hl, hm, fun i hlt j f hj => ?_⟩
   obtain ⟨cs', hc, ht'⟩ := hi i (by rw [hmm]; split <;> omega)
   obtain ⟨xs, n', _, _, hlen, hxl, hf⟩ := DataW.trod_struct he ht'
   rw [hC] at hc hlen
   obtain ⟨_, _, hat⟩ := World.cells?_some hc
   obtain ⟨ho, hk⟩ := Go.Deep.hone_of hone j f hj
   have hjl : j < fs.size := (Array.getElem?_eq_some_iff.1 hj).1
   have h1 := hf j f hj
   rw [ho, hk, List.drop_eq_getElem_cons (by omega), List.take_succ_cons, List.take_zero] at h1
   refine ⟨cs'[j]'(by omega), xs[j]'(by omega), n', ?_, h1.trans (List.getElem?_eq_getElem (by omega))⟩
   have := hat j hjl
   rw [Go.Deep.add_add] at this
   rw [this]
   exact List.getElem?_eq_getElem (by omega)
end
theorem trodAll_two {H : Type} {enc : TypeId × Value → H} {P : Program} {w : World} {base : Nat} {spare : Nat → Bool} {held : Bool} {t0 t1 : TypeId} {args : Array Value} {ds : List (DataW H)} {ps : List MemPlace} (h : DataW.TrodAll enc P w base spare held [t0, t1] args.toList ds ps) :
  ∃ v0 v1 d0 d1 p0 p1, args = #[v0, v1] ∧ ds = [d0, d1] ∧ ps = p0 ++ p1 ∧ DataW.Trod enc P w base spare held t0 v0 d0 p0 ∧ DataW.Trod enc P w base spare held t1 v1 d1 p1 := by
 obtain ⟨v0, vs0, d0, ds0, p0, q0, hargs, rfl, rfl, h0, r0⟩ := trodAll_cons h
 obtain ⟨v1, vs1, d1, ds1, p1, q1, rfl, rfl, rfl, h1, r1⟩ := trodAll_cons r0
 obtain ⟨rfl, rfl, rfl⟩ := trodAll_nil r1
 exact ⟨v0, v1, d0, d1, p0, p1, by cases args; simp_all, rfl, by simp, h0, h1⟩
theorem own : ownKnob Tryz.prog.godebug = none := by kernel_rfl
theorem laidOut : laidOutB Tryz.prog = true := by kernel_rfl
theorem cellsR12 : Tryz.prog.cellsOf 50 = 12 := by kernel_rfl
theorem add_flat {b o : Nat} (i : Nat) : (⟨b, o, none⟩ : Addr).add i = ⟨b, o + i, none⟩ := by unfold Addr.add; split <;> simp_all
theorem recs_of {H : Type} {enc : TypeId × Value → H} {W : World} {sp : Nat → Bool} {held : Bool} {v : Value} {d : DataW H} {p : List MemPlace} (hv : ∃ a len cap, v = .slice a len cap) (h : DataW.Trod enc Tryz.prog W 0 sp held 22 v d p) :
  ∃ (A : Option Addr) (n c : Nat) (l : List R), v = .slice A n c ∧ n ≤ c ∧ n ≤ maxLen ∧ l.length = n ∧ RecsAt W A l := by
 obtain ⟨a0, len, cap, rfl⟩ := hv
 obtain ⟨fuel, hf⟩ := h
 rcases structs_open Tryz.underlying22 Tryz.underlying50 (by kernel_rfl) cellsR12 hf with h0 | ⟨a, len', cap', h0, hl, hm, hc⟩
 · simp [Value.cells] at h0
   obtain ⟨rfl, rfl, rfl⟩ := h0
   exact ⟨none, 0, 0, [], rfl, Nat.le_refl _, Nat.zero_le _, rfl, ⟨fun h => absurd rfl h, fun r hr => by simp at hr⟩⟩
 · simp [Value.cells] at h0
   obtain ⟨rfl, rfl, rfl⟩ := h0
   have hall : ∀ i, i < len → ∃ r : R, (∀ (j : Nat) (u : Value), (cellsR r)[j]? = some u → W.cell? (a.add (i * 12 + j)) = some u) ∧ RecOk r := by
    intro i hi
    obtain ⟨v0, y0, n0, c0, t0⟩ := hc i hi 0 _ rfl
    obtain ⟨v1, y1, n1, c1, t1⟩ := hc i hi 1 _ rfl
    obtain ⟨v2, y2, n2, c2, t2⟩ := hc i hi 2 _ rfl
    obtain ⟨v3, y3, n3, c3, t3⟩ := hc i hi 3 _ rfl
    obtain ⟨v4, y4, n4, c4, t4⟩ := hc i hi 4 _ rfl
    obtain ⟨v5, y5, n5, c5, t5⟩ := hc i hi 5 _ rfl
    obtain ⟨v6, y6, n6, c6, t6⟩ := hc i hi 6 _ rfl
    obtain ⟨v7, y7, n7, c7, t7⟩ := hc i hi 7 _ rfl
    obtain ⟨v8, y8, n8, c8, t8⟩ := hc i hi 8 _ rfl
    obtain ⟨v9, y9, n9, c9, t9⟩ := hc i hi 9 _ rfl
    obtain ⟨v10, y10, n10, c10, t10⟩ := hc i hi 10 _ rfl
    obtain ⟨v11, y11, n11, c11, t11⟩ := hc i hi 11 _ rfl
    obtain ⟨x0, e0, _, w0⟩ := DataW.trod_int Tryz.underlying48 t0
    obtain ⟨x1, e1, _, w1⟩ := DataW.trod_int Tryz.underlying5 t1
    obtain ⟨x2, e2, _, w2⟩ := DataW.trod_int Tryz.underlying37 t2
    obtain ⟨x3, e3, _, w3⟩ := DataW.trod_string Tryz.underlying9 t3
    obtain ⟨x4, e4, _, w4⟩ := DataW.trod_int Tryz.underlying37 t4
    obtain ⟨x5, e5, _, w5⟩ := DataW.trod_int Tryz.underlying5 t5
    obtain ⟨x6, e6, _, w6⟩ := DataW.trod_int Tryz.underlying37 t6
    obtain ⟨x7, e7, _, w7⟩ := DataW.trod_string Tryz.underlying9 t7
    obtain ⟨x8, e8, _, w8⟩ := DataW.trod_int Tryz.underlying37 t8
    obtain ⟨x9, e9, _, w9⟩ := DataW.trod_int Tryz.underlying37 t9
    obtain ⟨x10, e10, _, w10⟩ := DataW.trod_int Tryz.underlying3 t10
    obtain ⟨x11, e11, _, w11⟩ := DataW.trod_string Tryz.underlying9 t11
    simp only [List.cons.injEq, and_true] at e0 e1 e2 e3 e4 e5 e6 e7 e8 e9 e10 e11
    subst e0; subst e1; subst e2; subst e3; subst e4; subst e5; subst e6; subst e7; subst e8; subst e9; subst e10; subst e11
    have r0 : 0 ≤ x0 ∧ x0 ≤ 18446744073709551615 := by simpa [Lit.wf, IntKind.min, IntKind.max, IntKind.signed, IntKind.bits] using w0
    have r1 : 0 ≤ x1 ∧ x1 ≤ 255 := by simpa [Lit.wf, IntKind.min, IntKind.max, IntKind.signed, IntKind.bits] using w1
    have r2 : 0 ≤ x2 ∧ x2 ≤ 4294967295 := by simpa [Lit.wf, IntKind.min, IntKind.max, IntKind.signed, IntKind.bits] using w2
    have r4 : 0 ≤ x4 ∧ x4 ≤ 4294967295 := by simpa [Lit.wf, IntKind.min, IntKind.max, IntKind.signed, IntKind.bits] using w4
    have r5 : 0 ≤ x5 ∧ x5 ≤ 255 := by simpa [Lit.wf, IntKind.min, IntKind.max, IntKind.signed, IntKind.bits] using w5
    have r6 : 0 ≤ x6 ∧ x6 ≤ 4294967295 := by simpa [Lit.wf, IntKind.min, IntKind.max, IntKind.signed, IntKind.bits] using w6
    have r8 : 0 ≤ x8 ∧ x8 ≤ 4294967295 := by simpa [Lit.wf, IntKind.min, IntKind.max, IntKind.signed, IntKind.bits] using w8
    have r9 : 0 ≤ x9 ∧ x9 ≤ 4294967295 := by simpa [Lit.wf, IntKind.min, IntKind.max, IntKind.signed, IntKind.bits] using w9
    refine ⟨⟨x0, x1, x2, x3, x4, x5, x6, x7, x8, x9, x10, x11⟩, fun j u hu => ?_, ⟨⟨r0, r1, r2, r4, r5, r6, r8, r9⟩, w3, w7, w11⟩⟩
    have hj : j < 12 := (Array.getElem?_eq_some_iff.1 hu).1
    rcases j with _ | _ | _ | _ | _ | _ | _ | _ | _ | _ | _ | _ | j
    · obtain rfl := Option.some.inj hu; exact c0
    · obtain rfl := Option.some.inj hu; exact c1
    · obtain rfl := Option.some.inj hu; exact c2
    · obtain rfl := Option.some.inj hu; exact c3
    · obtain rfl := Option.some.inj hu; exact c4
    · obtain rfl := Option.some.inj hu; exact c5
    · obtain rfl := Option.some.inj hu; exact c6
    · obtain rfl := Option.some.inj hu; exact c7
    · obtain rfl := Option.some.inj hu; exact c8
    · obtain rfl := Option.some.inj hu; exact c9
    · obtain rfl := Option.some.inj hu; exact c10
    · obtain rfl := Option.some.inj hu; exact c11
    · omega
   let f : Nat → R := fun i => if h : i < len then Classical.choose (hall i h) else ⟨0, 0, 0, ⟨#[]⟩, 0, 0, 0, ⟨#[]⟩, 0, 0, 0, ⟨#[]⟩⟩
   have hspec : ∀ i, (h : i < len) → (∀ (j : Nat) (u : Value), (cellsR (f i))[j]? = some u → W.cell? (a.add (i * 12 + j)) = some u) ∧ RecOk (f i) := by
    intro i h
    have := Classical.choose_spec (hall i h)
    simp only [f, dif_pos h]
    exact this
   refine ⟨_, _, _, (List.range len).map f, rfl, hl, Nat.le_trans hl hm, by simp, ⟨fun hpos => ?_, fun r hr => ?_⟩⟩
   · have hlen : 0 < len := by
      rcases Nat.eq_zero_or_pos len with h | h
      · subst h
        exact absurd rfl hpos
      · exact h
     have h0 := (hspec 0 hlen).1 0 _ rfl
     obtain ⟨ab, ao, asp⟩ := a
     have hsn : asp = none := by
      cases asp with
      | none => rfl
      | some s =>
       exfalso
       simp [World.cell?, Addr.add] at h0
       split at h0 <;> cases h0
     subst hsn
     refine ⟨ab, ao, rfl, ?_, fun k r hk i u hu => ?_⟩
     · simp only [add_flat] at h0
       exact World.block_lt_of_cell? W _ h0
     · rw [List.getElem?_map] at hk
       have hkl : k < len := by
        by_cases h : k < len
        · exact h
        · rw [List.getElem?_eq_none (by simpa using h)] at hk; cases hk
       rw [List.getElem?_range hkl] at hk
       simp only [Option.map_some, Option.some.injEq] at hk
       subst hk
       have := (hspec k hkl).1 i u hu
       simp only [add_flat, ← Nat.add_assoc] at this
       exact this
   · obtain ⟨i, hi, rfl⟩ := List.mem_map.1 hr
     exact (hspec i (by simpa using hi)).2
end Go.Proofs.YtogljgiefmfafaaGreat

namespace Go.Proofs.YtogljgiefmfafaaGreat.A
open Go.ChangeShapes Go.WideShapes Go.ChangeAt Go.RowKit
section
variable {H : Type} {enc : TypeId × Value → H} {P : Program}
theorem trodAll_below (hl : laidOutB P = true) {W W' : World} (hb : Below W.heap.size W W') :
  ∀ (ts : List TypeId) (vs : List Value) (ds : List (DataW H)) (ps : List MemPlace), (∀ t ∈ ts, P.readableRec t = true ∧ t < P.types.size) →
   DataW.TrodAll enc P W 0 (fun _ => true) true ts vs ds ps → (∀ x ∈ ps, x.block < W.heap.size) → DataW.TrodAll enc P W' 0 (fun b => decide (b < W.heap.size)) true ts vs ds ps
 | [], [], [], ps, _, h, _ => h
 | t :: ts, v :: vs, d :: ds, ps, hr, h, hlt => by
  obtain ⟨p, q, h1, h2, rfl⟩ := h
  refine ⟨p, q, ?_, ?_, rfl⟩
  · exact Below.trod hl (hr t (List.mem_cons_self ..)).1 (hr t (List.mem_cons_self ..)).2 h1 hb (fun x hx => hlt x (List.mem_append_left _ hx))
  · exact trodAll_below hl hb ts vs ds q (fun t ht => hr t (List.mem_cons_of_mem _ ht)) h2 (fun x hx => hlt x (List.mem_append_right _ hx))
 | [], [], _ :: _, _, _, h, _ => h.elim
 | [], _ :: _, _, _, _, h, _ => h.elim
 | _ :: _, [], _, _, _, h, _ => h.elim
 | _ :: _, _ :: _, [], _, _, h, _ => h.elim
theorem law_post {f : Func} {s : ChangeSpec} {tb : TypeId} {W W' : World} {args : Array Value} {ds gs : List (DataW H)} {before : List MemPlace}
  (hl : laidOutB P = true) (hr : f.params.toList.all (fun t => P.readableRec t && decide (t < P.types.size)) = true) (hv : s.vars = []) (hrt : f.resultTypes = #[tb]) (htb : P.underlying tb = some .bool)
  (hW : DataW.Whole enc P f.params.toList s.vars false W args.toList ds gs before)
  (hfn : s.fn H (ds ++ gs) = { results := [.lit (.bool true)], args := ds }) (hb : Below W.heap.size W W') :
  s.post enc P f false true false false W args (.bool true) W' := by
 have hW' := hW
 obtain ⟨p, q, hA, hV, rfl, _, _⟩ := hW
 rw [hv] at hV
 obtain ⟨rfl, rfl⟩ := trodVars_none hV
 have hlt : ∀ x ∈ p, x.block < W.heap.size := fun x hx => by simpa using hW'.lt x (List.mem_append_left _ hx)
 refine ⟨ds, [], p ++ [], [], p, [], hW', ?_, ?_, ?_, hb.frame _, fun h => by cases h⟩
 · rw [hfn, hrt]
   exact trodAll_mk1 (shut_bool htb true)
 · rw [hfn]
   exact trodAll_below hl hb _ _ _ _ (fun t ht => by have := List.all_eq_true.1 hr t ht; simpa using this) hA hlt
 · rw [hfn, hv]
   rfl
theorem weightsAll_mem {P : Program} {e : TypeId} {n : Nat} {d : DataW H} : ∀ {l : List (DataW H)}, d ∈ l → n ∈ d.weights P e → n ∈ DataW.weightsAll P e l
 | [], hd, _ => by cases hd
 | x :: l, hd, hn => by
  simp only [DataW.weightsAll, List.mem_append]
  rcases List.mem_cons.1 hd with rfl | hd
  · exact .inl hn
  · exact .inr (weightsAll_mem hd hn)
theorem structs_open {w : World} {base : Nat} {spare : Nat → Bool} {held : Bool} {t e : TypeId} {fs : Array Field} {fuel : Nat} {cs : List Value} {x : DataW H × List MemPlace}
  (ht : P.underlying t = some (.slice e)) (he : P.underlying e = some (.struct fs)) (hone : Go.Deep.oneCellFields P fs = true) (hC : P.cellsOf e = fs.size) (h : DataW.trod enc P w base spare held fuel t cs = some x) :
  cs = [.slice none 0 0] ∨ ∃ (a : Addr) (len cap : Nat), cs = [.slice (some a) len cap] ∧ len ≤ cap ∧ cap ≤ maxLen ∧
   ∀ i, i < len → ∀ (j : Nat) (f : Field), fs[j]? = some f → ∃ (v : Value) (y : DataW H × List MemPlace) (n : Nat), w.cell? (a.add (i * fs.size + j)) = some v ∧ DataW.trod enc P w base spare held n f.type [v] = some y ∧
    ∀ m, m ∈ y.1.weights P f.type → m ∈ x.1.weights P t := by
 rcases Go.Deep.open_slice ht h with h0 | ⟨a, len, cap, m, n, D, Pl, hcs, _, hl, hm, hmm, hx, hi⟩
 · exact .inl h0.1
 · refine .inr ⟨a, len, cap, hcs, hl, hm, fun i hlt j f hj => ?_⟩
   obtain ⟨cs', hc, ht'⟩ := hi i (by rw [hmm]; split <;> omega)
   obtain ⟨xs, n', _, hxs, hlen, hxl, hf⟩ := DataW.trod_struct he ht'
   rw [hC] at hc hlen
   obtain ⟨_, _, hat⟩ := World.cells?_some hc
   obtain ⟨ho, hk⟩ := Go.Deep.hone_of hone j f hj
   have hjl : j < fs.size := (Array.getElem?_eq_some_iff.1 hj).1
   have h1 := hf j f hj
   rw [ho, hk, List.drop_eq_getElem_cons (by omega), List.take_succ_cons, List.take_zero] at h1
   refine ⟨cs'[j]'(by omega), xs[j]'(by omega), n', ?_, h1.trans (List.getElem?_eq_getElem (by omega)), fun k hk' => ?_⟩
   · have := hat j hjl
     rw [Go.Deep.add_add] at this
     rw [this]
     exact List.getElem?_eq_getElem (by omega)
   · have hD : D i = .agg (xs.map (·.1)) := by simp only [Prod.mk.injEq] at hxs; exact hxs.1
     rw [hx]
     simp only [DataW.weights, ht, List.mem_cons, List.mem_append]
     refine .inr (.inl (weightsAll_mem (d := D i) (List.mem_map.2 ⟨i, by simpa using hlt, rfl⟩) ?_))
     rw [hD]
     simp only [DataW.weights, he]
     exact DataW.weights_mem_each (j := j) (t := f.type) (d := (xs[j]'(by omega)).1) (by rw [List.getElem?_map, Array.getElem?_toList, hj]; rfl) (by rw [List.getElem?_map, List.getElem?_eq_getElem (by omega)]; rfl) k hk'
end
end Go.Proofs.YtogljgiefmfafaaGreat.A

namespace Go.Proofs.YtogljgiefmfafaaGreat.A
open Go.ChangeShapes Go.WideShapes Go.ChangeAt Go.RowKit
theorem own : ownKnob Tryz.prog.godebug = none := by kernel_rfl
theorem cells31 : Tryz.prog.cellsOf 50 = 12 := by kernel_rfl
theorem add_flat {b o : Nat} (i : Nat) : (⟨b, o, none⟩ : Addr).add i = ⟨b, o + i, none⟩ := by unfold Addr.add; split <;> simp_all
def RecCells (W : World) (a : Addr) (i : Nat) (r : R) : Prop :=
 W.cell? (a.add (i * 12 + 0)) = some (.int .u64 r.stamp) ∧ W.cell? (a.add (i * 12 + 1)) = some (.int .u8 r.act) ∧ W.cell? (a.add (i * 12 + 2)) = some (.int .u32 r.dir) ∧ W.cell? (a.add (i * 12 + 3)) = some (.string r.name) ∧
 W.cell? (a.add (i * 12 + 4)) = some (.int .u32 r.ino) ∧ W.cell? (a.add (i * 12 + 5)) = some (.int .u8 r.kind) ∧ W.cell? (a.add (i * 12 + 6)) = some (.int .u32 r.dir2) ∧ W.cell? (a.add (i * 12 + 7)) = some (.string r.name2) ∧
 W.cell? (a.add (i * 12 + 8)) = some (.int .u32 r.old) ∧ W.cell? (a.add (i * 12 + 9)) = some (.int .u32 r.size) ∧ W.cell? (a.add (i * 12 + 10)) = some (.int .i64 r.page) ∧ W.cell? (a.add (i * 12 + 11)) = some (.string r.data) ∧ r.Ok
theorem recs_of {H : Type} {enc : TypeId × Value → H} {W : World} {sp : Nat → Bool} {held : Bool} {v : Value} {d : DataW H} {p : List MemPlace} (hv : ∃ a len cap, v = .slice a len cap) (h : DataW.Trod enc Tryz.prog W 0 sp held 22 v d p)
  (hz : ∀ m, m ∈ d.weights Tryz.prog 22 → m ≤ reachBytes) :
  ∃ (A : Option Addr) (n c : Nat) (rs : List R), v = .slice A n c ∧ n ≤ maxLen ∧ Recs W W.heap.size A n rs := by
 obtain ⟨a0, len, cap, rfl⟩ := hv
 obtain ⟨fuel, hf⟩ := h
 have hrb : reachBytes = 140737488351232 := rfl
 rcases structs_open Tryz.underlying22 Tryz.underlying50 (by kernel_rfl) cells31 hf with h0 | ⟨a, len', cap', h0, hl, hm, hc⟩
 · simp [Value.cells] at h0
   obtain ⟨rfl, rfl, rfl⟩ := h0
   exact ⟨_, _, _, [], rfl, Nat.zero_le _, ⟨rfl, fun h => absurd h (by omega), fun r hr => by cases hr⟩⟩
 · simp [Value.cells] at h0
   obtain ⟨rfl, rfl, rfl⟩ := h0
   have hall : ∀ i, i < len → ∃ r : R, RecCells W a i r := by
    intro i hi
    obtain ⟨v0, y0, n0, c0, t0, _⟩ := hc i hi 0 _ rfl
    obtain ⟨v1, y1, n1, c1, t1, _⟩ := hc i hi 1 _ rfl
    obtain ⟨v2, y2, n2, c2, t2, _⟩ := hc i hi 2 _ rfl
    obtain ⟨v3, y3, n3, c3, t3, z3⟩ := hc i hi 3 _ rfl
    obtain ⟨v4, y4, n4, c4, t4, _⟩ := hc i hi 4 _ rfl
    obtain ⟨v5, y5, n5, c5, t5, _⟩ := hc i hi 5 _ rfl
    obtain ⟨v6, y6, n6, c6, t6, _⟩ := hc i hi 6 _ rfl
    obtain ⟨v7, y7, n7, c7, t7, z7⟩ := hc i hi 7 _ rfl
    obtain ⟨v8, y8, n8, c8, t8, _⟩ := hc i hi 8 _ rfl
    obtain ⟨v9, y9, n9, c9, t9, _⟩ := hc i hi 9 _ rfl
    obtain ⟨v10, y10, n10, c10, t10, _⟩ := hc i hi 10 _ rfl
    obtain ⟨v11, y11, n11, c11, t11, z11⟩ := hc i hi 11 _ rfl
    obtain ⟨x0, e0, _, _⟩ := DataW.trod_int Tryz.underlying48 t0
    obtain ⟨x1, e1, _, w1⟩ := DataW.trod_int Tryz.underlying5 t1
    obtain ⟨x2, e2, _, w2⟩ := DataW.trod_int Tryz.underlying37 t2
    obtain ⟨x3, e3, q3, _⟩ := DataW.trod_string Tryz.underlying9 t3
    obtain ⟨x4, e4, _, w4⟩ := DataW.trod_int Tryz.underlying37 t4
    obtain ⟨x5, e5, _, _⟩ := DataW.trod_int Tryz.underlying5 t5
    obtain ⟨x6, e6, _, _⟩ := DataW.trod_int Tryz.underlying37 t6
    obtain ⟨x7, e7, q7, _⟩ := DataW.trod_string Tryz.underlying9 t7
    obtain ⟨x8, e8, _, _⟩ := DataW.trod_int Tryz.underlying37 t8
    obtain ⟨x9, e9, _, _⟩ := DataW.trod_int Tryz.underlying37 t9
    obtain ⟨x10, e10, _, _⟩ := DataW.trod_int Tryz.underlying3 t10
    obtain ⟨x11, e11, q11, _⟩ := DataW.trod_string Tryz.underlying9 t11
    simp only [List.cons.injEq, and_true] at e0 e1 e2 e3 e4 e5 e6 e7 e8 e9 e10 e11
    subst e0 e1 e2 e3 e4 e5 e6 e7 e8 e9 e10 e11
    have hs : ∀ (x : ByteArray), x.size = x.data.toList.length := fun x => by simp
    refine ⟨⟨x0, x1, x2, x3, x4, x5, x6, x7, x8, x9, x10, x11⟩, c0, c1, c2, c3, c4, c5, c6, c7, c8, c9, c10, c11, ?_, ?_, ?_, ?_, ?_, ?_⟩
    · simpa [Lit.wf, IntKind.min, IntKind.max, IntKind.signed, IntKind.bits] using w2
    · have := hz _ (z3 x3.data.toList.length (by rw [q3]; simp [DataW.weights])); rw [← hs] at this; show x3.size ≤ _; omega
    · have := hz _ (z7 x7.data.toList.length (by rw [q7]; simp [DataW.weights])); rw [← hs] at this; show x7.size ≤ _; omega
    · have := hz _ (z11 x11.data.toList.length (by rw [q11]; simp [DataW.weights])); rw [← hs] at this; show x11.size ≤ _; omega
    · simpa [Lit.wf, IntKind.min, IntKind.max, IntKind.signed, IntKind.bits] using w4
    · simpa [Lit.wf, IntKind.min, IntKind.max, IntKind.signed, IntKind.bits] using w1
   let f : Nat → R := fun i => if h : i < len then Classical.choose (hall i h) else ⟨0, 0, 0, ByteArray.empty, 0, 0, 0, ByteArray.empty, 0, 0, 0, ByteArray.empty⟩
   have hspec : ∀ i, (h : i < len) → RecCells W a i (f i) := by
    intro i h
    have := Classical.choose_spec (hall i h)
    simp only [f, dif_pos h]
    exact this
   refine ⟨_, _, _, (List.range len).map f, rfl, Nat.le_trans hl hm, ⟨by simp, fun hpos => ?_, fun r hr => ?_⟩⟩
   · have h0 := (hspec 0 hpos).1
     obtain ⟨ab, ao, asp⟩ := a
     have hsn : asp = none := by
      cases asp with
      | none => rfl
      | some s =>
       exfalso
       simp [World.cell?, Addr.add] at h0
       split at h0 <;> cases h0
     subst hsn
     refine ⟨ab, ao, rfl, ?_, fun k r hk => ?_⟩
     · simp only [add_flat] at h0
       exact World.block_lt_of_cell? W _ h0
     · rw [List.getElem?_map] at hk
       have hkl : k < len := by
        by_cases h : k < len
        · exact h
        · rw [List.getElem?_eq_none (by simpa using h)] at hk; cases hk
       rw [List.getElem?_range hkl] at hk
       simp only [Option.map_some, Option.some.injEq] at hk
       subst hk
       obtain ⟨c0, c1, c2, c3, c4, c5, c6, c7, c8, c9, c10, c11, _⟩ := hspec k hkl
       simp only [add_flat, Nat.add_zero, ← Nat.add_assoc] at c0 c1 c2 c3 c4 c5 c6 c7 c8 c9 c10 c11
       exact ⟨c0, c1, c2, c3, c4, c5, c6, c7, c8, c9, c10, c11⟩
   · obtain ⟨i, hi, rfl⟩ := List.mem_map.1 hr
     exact (hspec i (by simpa using hi)).2.2.2.2.2.2.2.2.2.2.2.2
end Go.Proofs.YtogljgiefmfafaaGreat.A

namespace Go.Proofs.YtogljgiefmfafaaGreat.A
open Go.RowKit Go.Maps
def nameA : ByteArray := ⟨#[97]⟩
def exMake : R := ⟨0, 1, 1, nameA, 2, 1, 0, ByteArray.empty, 0, 0, 0, ByteArray.empty⟩
def exPage (i : Int) (d : ByteArray) : R := ⟨0, 6, 0, ByteArray.empty, i, 0, 0, ByteArray.empty, 0, 64, 0, d⟩
def exUnlink : R := ⟨0, 3, 1, nameA, 2, 1, 0, ByteArray.empty, 0, 0, 0, ByteArray.empty⟩
def exFree : R := ⟨0, 7, 0, ByteArray.empty, 2, 0, 0, ByteArray.empty, 0, 0, 0, ByteArray.empty⟩
theorem ex_idle (d : ByteArray) : idleB [exMake, exPage 2 d, exUnlink, exFree] 0 = some 3 := by kernel_rfl
theorem ex_of (d : ByteArray) : (leftOf [exMake, exPage 2 d, exUnlink, exFree]).length = 0 := by kernel_rfl
theorem ex_gone (d : ByteArray) : (goneOf [exMake, exPage 2 d, exUnlink, exFree]).length = 4 := by kernel_rfl
theorem ex_pages (d : ByteArray) : goneOf [exPage 3 d, exPage 3 d] = [0] := by kernel_rfl
theorem ex_three (d : ByteArray) : (leftOf [exMake, exPage 2 d, exUnlink]).length = 3 := by kernel_rfl
theorem info5 : ∃ i, Tryz.prog.info? 5 = some i ∧ i.zero = some (.int .u8 0) ∧ i.size = 1 ∧ i.bytes = 1 := info_parts (by kernel_rfl)
def zeros : ByteArray := ⟨(List.replicate 64 (0 : UInt8)).toArray⟩
set_option maxRecDepth 100000 in
set_option maxHeartbeats 2000000 in
theorem page_any (i : Int) (w : World) : Calls Tryz.prog 32 #[.int .u32 i, .int .u32 64] w fun e W' => e = .returned (exPage i zeros).val ∧ Below w.heap.size w W' := by
 obtain ⟨i5, hi5, hz0, hz1, hz2⟩ := info5
 have hmk : ∀ W : World, (Instr.makeSlice 93 (.int .i64 64) (.int .i64 64)).run Tryz.prog W = .ok (.slice (some ⟨W.heap.size, 0, none⟩) 64 64) (W.alloc (.cells (madeCells #[.int .u8 0] 64) 5)) := fun W => by
  have := run_makeSlice (w := W) 93 5 i5 (.int .u8 0) Tryz.underlying93 hi5 hz0 .i64 .i64 64 64 (by decide) (by decide) (by rw [hz1]; decide) (by rw [hz2]; decide) (by decide)
  rw [hz1] at this
  exact this
 have hcv : ∀ (W : World) (g : Nat), g = W.heap.size → (convert 93 9 (.slice (some ⟨g, 0, none⟩) 64 64)).run Tryz.prog (W.alloc (.cells (madeCells #[.int .u8 0] 64) 5)) = .ok (.string zeros) (W.alloc (.cells (madeCells #[.int .u8 0] 64) 5)) := by
  rintro W _ rfl
  refine run_convert_bytes_back (W.alloc (.cells (madeCells #[.int .u8 0] 64) 5)) 93 9 5 ⟨W.heap.size, 0, none⟩ 64 (List.replicate 64 (0 : UInt8)) Tryz.underlying93 Tryz.underlying5 Tryz.underlying9 (fun j hj => ?_)
  have hc : ∀ j, j < 64 → (madeCells #[.int .u8 0] 64)[j]? = some (Value.int .u8 0) := fun j hj => by
   have : madeCells #[Value.int .u8 0] 64 = (List.replicate 64 (Value.int .u8 0)).toArray := by kernel_rfl
   rw [this, List.getElem?_toArray, List.getElem?_replicate, if_pos hj]
  have h1 := hc j (by simpa using hj)
  have h2 : (W.alloc (.cells (madeCells #[.int .u8 0] 64) 5)).cell? (Addr.add ⟨W.heap.size, 0, none⟩ j) = (madeCells #[.int .u8 0] 64)[j]? := by
   by_cases e : j = 0
   · subst e; simp [go_sem, Addr.add]
   · simp [go_sem, Addr.add, e]
  rw [h2, h1, List.getElem_replicate]; rfl
 go_enter Tryz.func32, Tryz.ntmps32
 go_wp2
 refine bodyPost_ret (v := (exPage i zeros).val) (by simp [results, Tryz.f32, go_sem]; rfl) rfl ?_
 exact ⟨rfl, ((Below.refl _ w).alloc (Nat.le_refl _) _).alloc (by simp) _⟩
theorem exPage_val (i : Int) (d : ByteArray) : (exPage i d).val = .agg #[.int .u64 0, .int .u8 6, .int .u32 0, .string ByteArray.empty, .int .u32 i, .int .u8 0, .int .u32 0, .string ByteArray.empty, .int .u32 0, .int .u32 64, .int .i64 0, .string d] := rfl
theorem recs_new (w : World) (l : List R) (hok : ∀ r ∈ l, r.Ok) : Recs (w.alloc (.cells (recCells l).toArray 50)) (w.heap.size + 1) (some ⟨w.heap.size, 0, none⟩) l.length l := by
 refine ⟨rfl, fun _ => ⟨w.heap.size, 0, rfl, by omega, fun k r hk => ?_⟩, hok⟩
 have hc : ∀ j, j < 12 → (w.alloc (.cells (recCells l).toArray 50)).cell? ⟨w.heap.size, 0 + k * 12 + j, none⟩ = r.cells[j]? := fun j hj => by
  have e1 := recCells_get l k j r hk hj
  rw [World.cell?_alloc_at _ _ _ _ rfl, ← e1]; simp
 exact ⟨hc 0 (by omega), hc 1 (by omega), hc 2 (by omega), hc 3 (by omega), hc 4 (by omega), hc 5 (by omega), hc 6 (by omega), hc 7 (by omega), hc 8 (by omega), hc 9 (by omega), hc 10 (by omega), hc 11 (by omega)⟩
def ex4 : List R := [exMake, exPage 2 zeros, exUnlink, exFree]
def ex3 : List R := [exMake, exPage 2 zeros, exUnlink]
def ex2 : List R := [exPage 3 zeros, exPage 3 zeros]
theorem ok4 : ∀ r ∈ ex4, r.Ok := by
 intro r hr
 simp only [ex4, List.mem_cons, List.not_mem_nil, or_false] at hr
 have hz : zeros.size = 64 := by kernel_rfl
 have ha : nameA.size = 1 := by kernel_rfl
 rcases hr with rfl | rfl | rfl | rfl <;> constructor <;> simp [exMake, exPage, exUnlink, exFree, hz, ha]
theorem ok3 : ∀ r ∈ ex3, r.Ok := fun r hr => ok4 r (by simp only [ex3, ex4, List.mem_cons, List.not_mem_nil, or_false] at hr ⊢; rcases hr with h | h | h <;> simp [h])
theorem ok2 : ∀ r ∈ ex2, r.Ok := by
 intro r hr
 simp only [ex2, List.mem_cons, List.not_mem_nil, or_false] at hr
 have hz : zeros.size = 64 := by kernel_rfl
 rcases hr with rfl | rfl <;> constructor <;> simp [exPage, hz]
theorem slice_of_row {w : World} {base n size : Nat} {e : TypeId} {v : Value} {xs : List Value} (h : w.ownsRow base e size v n xs) : ∃ A c, v = .slice A n c := by
 rcases h.2 with ⟨rfl, rfl⟩ | ⟨g, cap, cur, rfl, _⟩
 · exact ⟨none, 0, rfl⟩
 · exact ⟨_, _, rfl⟩
theorem exI (A : Option Addr) (c B : Nat) (w : World) (h : Recs w B A 4 ex4) (hB : B ≤ w.heap.size) : Calls Tryz.prog 33 #[.slice A 4 c, .int .i64 0] w fun e W' => e = .returned (.tuple #[.int .i64 3, .bool true]) ∧ Below w.heap.size w W' := by
 refine (idle_any A 4 c B 0 ex4 w h hB (by decide) (by decide)).mono ?_
 rw [show idleB ex4 0 = some 3 from ex_idle zeros]
 exact fun e W' h => h
theorem exG4 (A : Option Addr) (c B : Nat) (w : World) (h : Recs w B A 4 ex4) (hB : B ≤ w.heap.size) : Calls Tryz.prog 34 #[.slice A 4 c] w fun e W' => ∃ A' c', e = .returned (.slice A' 4 c') ∧ Below w.heap.size w W' := by
 refine (gone_any A 4 c B ex4 w h hB (by decide)).mono ?_
 rintro e W' ⟨v, rfl, hr, hb⟩
 rw [show (goneOf ex4).length = 4 from ex_gone zeros] at hr
 obtain ⟨A', c', rfl⟩ := slice_of_row hr
 exact ⟨A', c', rfl, hb⟩
theorem ofOf_length (rs : List R) : (ofOf rs).length = (leftOf rs).length := by unfold ofOf pick; simp
theorem exO4 (A : Option Addr) (c B : Nat) (w : World) (h : Recs w B A 4 ex4) (hB : B ≤ w.heap.size) : Calls Tryz.prog 11 #[.slice A 4 c] w fun e W' => ∃ A' c', e = .returned (.slice A' 0 c') ∧ Below w.heap.size w W' := by
 refine (of_any A 4 c B ex4 w h hB (by decide)).mono ?_
 rintro e W' ⟨v, rfl, hr, hb⟩
 rw [show (ofOf ex4).length = 0 from (ofOf_length _).trans (ex_of zeros)] at hr
 obtain ⟨A', c', rfl⟩ := slice_of_row hr
 exact ⟨A', c', rfl, hb⟩
theorem exO3 (A : Option Addr) (c B : Nat) (w : World) (h : Recs w B A 3 ex3) (hB : B ≤ w.heap.size) : Calls Tryz.prog 11 #[.slice A 3 c] w fun e W' => ∃ A' c', e = .returned (.slice A' 3 c') ∧ Below w.heap.size w W' := by
 refine (of_any A 3 c B ex3 w h hB (by decide)).mono ?_
 rintro e W' ⟨v, rfl, hr, hb⟩
 rw [show (ofOf ex3).length = 3 from (ofOf_length _).trans (ex_three zeros)] at hr
 obtain ⟨A', c', rfl⟩ := slice_of_row hr
 exact ⟨A', c', rfl, hb⟩
theorem exG2 (A : Option Addr) (c B : Nat) (w : World) (h : Recs w B A 2 ex2) (hB : B ≤ w.heap.size) : Calls Tryz.prog 34 #[.slice A 2 c] w fun e W' => ∃ b c', e = .returned (.slice (some ⟨b, 0, none⟩) 1 c') ∧ W'.cell? ⟨b, 0, none⟩ = some (.int .i64 0) ∧ Below w.heap.size w W' := by
 refine (gone_any A 2 c B ex2 w h hB (by decide)).mono ?_
 rintro e W' ⟨v, rfl, hr, hb⟩
 rw [show goneOf ex2 = [0] from ex_pages zeros] at hr
 obtain ⟨A', c', rfl, hread⟩ := row_read (m := 1) (l := [0]) hr rfl
 obtain ⟨b, rfl, hc⟩ := hread 0 0 rfl
 exact ⟨b, c', rfl, hc, hb⟩
theorem recs_three {w : World} {B : Nat} {A : Option Addr} (h : Recs w B A 4 ex4) : Recs w B A 3 ex3 := by
 refine ⟨rfl, fun _ => ?_, ok3⟩
 obtain ⟨b, o, hA, hb, hr⟩ := h.at_ (by omega)
 refine ⟨b, o, hA, hb, fun k r hk => hr k r ?_⟩
 match k, hk with
 | 0, hk => exact hk
 | 1, hk => exact hk
 | 2, hk => exact hk
 | k + 3, hk => simp [ex3] at hk
theorem recs4 (w : World) : Recs (w.alloc (.cells #[.int .u64 0, .int .u8 1, .int .u32 1, .string ⟨#[97]⟩, .int .u32 2, .int .u8 1, .int .u32 0, .string ⟨#[]⟩, .int .u32 0, .int .u32 0, .int .i64 0, .string ⟨#[]⟩,
  .int .u64 0, .int .u8 6, .int .u32 0, .string ByteArray.empty, .int .u32 2, .int .u8 0, .int .u32 0, .string ByteArray.empty, .int .u32 0, .int .u32 64, .int .i64 0, .string zeros,
  .int .u64 0, .int .u8 3, .int .u32 1, .string ⟨#[97]⟩, .int .u32 2, .int .u8 1, .int .u32 0, .string ⟨#[]⟩, .int .u32 0, .int .u32 0, .int .i64 0, .string ⟨#[]⟩,
  .int .u64 0, .int .u8 7, .int .u32 0, .string ⟨#[]⟩, .int .u32 2, .int .u8 0, .int .u32 0, .string ⟨#[]⟩, .int .u32 0, .int .u32 0, .int .i64 0, .string ⟨#[]⟩] 50)) (w.heap.size + 1) (some ⟨w.heap.size, 0, none⟩) 4 ex4 := recs_new w ex4 ok4
theorem recs2 (w : World) : Recs (w.alloc (.cells #[.int .u64 0, .int .u8 6, .int .u32 0, .string ByteArray.empty, .int .u32 3, .int .u8 0, .int .u32 0, .string ByteArray.empty, .int .u32 0, .int .u32 64, .int .i64 0, .string zeros,
  .int .u64 0, .int .u8 6, .int .u32 0, .string ByteArray.empty, .int .u32 3, .int .u8 0, .int .u32 0, .string ByteArray.empty, .int .u32 0, .int .u32 64, .int .i64 0, .string zeros] 50)) (w.heap.size + 1) (some ⟨w.heap.size, 0, none⟩) 2 ex2 := recs_new w ex2 ok2
set_option maxRecDepth 100000 in
set_option maxHeartbeats 4000000 in
theorem lawAlive_any (w : World) : Calls Tryz.prog 9 #[] w fun e W' => e = .returned (.bool true) ∧ Below w.heap.size w W' := by
 go_enter Tryz.func9, Tryz.ntmps9
 go_wp2_with fail
 refine (page_any _ _).mono ?_
 rw [exPage_val]
 rintro e w1 ⟨rfl, hb1⟩
 have h4 := Lib.hid (recs4 w1)
 go_wp2_with fail
 refine (exI _ _ _ _ h4.out (by simp)).mono ?_
 rintro e w2 ⟨rfl, hb2⟩
 have HB2 := Lib.hid (((Below.refl _ w).trans hb1).alloc hb1.size _ |>.trans (hb2.mono (by have := hb1.size; simp; omega)))
 have H2 := Lib.hid (h4.out.below hb2 (by simp) (by simp : _ ≤ w1.heap.size + 1))
 have hz2 : w1.heap.size + 1 ≤ w2.heap.size := by have := hb2.size; simpa using this
 clear h4 hb2 hb1
 go_wp2_with fail
 refine (page_any _ _).mono ?_
 rw [exPage_val]
 rintro e w3 ⟨rfl, hb3⟩
 have HB3 := Lib.hid (HB2.out.trans (hb3.mono HB2.out.size))
 have H3 := Lib.hid (H2.out.below hb3 hz2 (Nat.le_refl _))
 have hz3 := Nat.le_trans hz2 hb3.size
 clear HB2 H2 hz2 hb3
 go_wp2_with fail
 refine (page_any _ _).mono ?_
 rw [exPage_val]
 rintro e w4 ⟨rfl, hb4⟩
 have HB4 := Lib.hid (HB3.out.trans (hb4.mono HB3.out.size))
 have H4 := Lib.hid (H3.out.below hb4 hz3 (Nat.le_refl _))
 have hz4 := Nat.le_trans hz3 hb4.size
 clear HB3 H3 hz3 hb4
 go_wp2_with fail
 refine (exG2 _ _ _ _ (recs2 w4) (by simp)).mono ?_
 rintro e w5 ⟨b, c', rfl, hc5, hb5⟩
 have HB5 := Lib.hid ((HB4.out.alloc HB4.out.size _).trans (hb5.mono (by have := HB4.out.size; simp; omega)))
 have H5 := Lib.hid ((H4.out.keep (Nat.le_refl _) (fun p hp => World.cell?_alloc_lt w4 _ p (by omega))).below hb5 (by simp; omega) (Nat.le_refl _))
 have hz5 : w1.heap.size + 1 ≤ w5.heap.size := by have := hb5.size; simp at this; omega
 have hlt5 : b < w5.heap.size := World.block_lt_of_cell? w5 _ hc5
 clear HB4 H4 hz4 hb5
 go_wp2_with fail
 refine (exO4 _ _ _ _ H5.out hz5).mono ?_
 rintro e w6 ⟨A6, c6, rfl, hb6⟩
 have HB6 := Lib.hid (HB5.out.trans (hb6.mono HB5.out.size))
 have H6 := Lib.hid (H5.out.below hb6 hz5 (Nat.le_refl _))
 have hz6 := Nat.le_trans hz5 hb6.size
 have hc6 := (World.cell?_of_block (a := ⟨b, 0, none⟩) (hb6.block b hlt5)).trans hc5
 have hlt6 := Nat.lt_of_lt_of_le hlt5 hb6.size
 clear HB5 H5 hz5 hb6 hc5 hlt5
 go_wp2_with fail
 refine (exG4 _ _ _ _ H6.out hz6).mono ?_
 rintro e w7 ⟨A7, c7, rfl, hb7⟩
 have HB7 := Lib.hid (HB6.out.trans (hb7.mono HB6.out.size))
 have H7 := Lib.hid (recs_three (H6.out.below hb7 hz6 (Nat.le_refl _)))
 have hz7 := Nat.le_trans hz6 hb7.size
 have hc7 := (World.cell?_of_block (a := ⟨b, 0, none⟩) (hb7.block b hlt6)).trans hc6
 clear HB6 H6 hz6 hb7 hc6 hlt6
 go_wp2_with fail
 refine (exO3 _ _ _ _ H7.out hz7).mono ?_
 rintro e w8 ⟨A8, c8, rfl, hb8⟩
 have HB8 := Lib.hid (HB7.out.trans (hb8.mono HB7.out.size))
 clear HB7 H7 hz7 hb8 hc7
 go_wp2_with fail
 go_ret
 exact ⟨rfl, HB8.out⟩
end Go.Proofs.YtogljgiefmfafaaGreat.A

namespace Go.Proofs.YtogljgiefmfafaaGreat
open Go.RowKit Go.Maps
theorem slice_of_row {w : World} {base n c : Nat} {A : Option Addr} {e : TypeId} {xs : List Value} (h : w.ownsRow base e 1 (.slice A n c) n xs) : SliceAt w A xs := fun h0 => by
 have hl : xs.length = n := by have := h.1; omega
 rcases h.2 with ⟨h', h1⟩ | ⟨g, cap, cur, h', _, hc, _⟩
 · omega
 · simp only [Value.slice.injEq] at h'
   obtain ⟨rfl, _, rfl⟩ := h'
   refine ⟨g, 0, rfl, lt_heap hc, fun j x hx => ?_⟩
   have hj := (List.getElem?_eq_some_iff.1 hx).1
   rw [Nat.zero_add, h.cellAt j (by omega), hx]
end Go.Proofs.YtogljgiefmfafaaGreat

namespace Go.Proofs.YtogljgiefmfafaaGreat
open Go.RowKit Go.Maps
theorem flatR_get : ∀ {l : List R} {k : Nat} {r : R}, l[k]? = some r → ∀ {i : Nat} {v : Value}, (cellsR r)[i]? = some v → (flatR l)[k * 12 + i]? = some v
 | [], k, r, h, i, v, hv => by simp at h
 | a :: l, 0, r, h, i, v, hv => by
  simp at h
  subst h
  have hi : i < 12 := (Array.getElem?_eq_some_iff.1 hv).1
  unfold flatR
  rw [List.flatMap_cons, Nat.zero_mul, Nat.zero_add, List.getElem?_append_left (by simpa [cellsL] using hi)]
  show (cellsR a).toList[i]? = _
  rw [Array.getElem?_toList]
  exact hv
 | a :: l, k + 1, r, h, i, v, hv => by
  have h2 : l[k]? = some r := by simpa using h
  have h3 := flatR_get h2 hv
  unfold flatR at h3 ⊢
  have e : (cellsL a).length = 12 := rfl
  rw [List.flatMap_cons, List.getElem?_append_right (by rw [e]; omega), e, show (k + 1) * 12 + i - 12 = k * 12 + i by omega]
  exact h3
theorem recs_of_row {w : World} {base n c : Nat} {A : Option Addr} {l : List R} (h : w.ownsRow base 50 12 (.slice A n c) n (flatR l)) (hn : l.length = n) (hok : ∀ r ∈ l, RecOk r) : RecsAt w A l := ⟨fun hl => by
 rcases h.2 with ⟨h', h1⟩ | ⟨g, cap, cur, h', _, hc, _⟩
 · exact absurd (List.eq_nil_of_length_eq_zero (by omega)) hl
 · simp only [Value.slice.injEq] at h'
   obtain ⟨rfl, _, rfl⟩ := h'
   refine ⟨g, 0, rfl, lt_heap hc, fun k r hk i v hv => ?_⟩
   have hk2 := (List.getElem?_eq_some_iff.1 hk).1
   have hi : i < 12 := (Array.getElem?_eq_some_iff.1 hv).1
   rw [Nat.zero_add, h.cellAt _ (by omega)]
   exact flatR_get hk hv, hok⟩
end Go.Proofs.YtogljgiefmfafaaGreat
