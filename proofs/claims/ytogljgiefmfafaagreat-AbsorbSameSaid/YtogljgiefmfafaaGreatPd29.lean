/- Rows of records played, plain: without its idle lives a row comes to the same. -/
import Derived.Test.YtogljgiefmfafaaGreatPd28
namespace Go.Proofs.YtogljgiefmfafaaGreat
open Go.RowKit Go.Maps
section
open Classical
noncomputable def cutO (L : Int → Prop) (o : Option Int) : Option Int := match o with
 | some v => if L v then none else some v
 | none => none
end
noncomputable def NT (L : Int → Prop) (t : PT) : PT := FT L 0 (fun _ => none) 0 t
section
variable {L L' : Int → Prop} {t t' : PT}
theorem cutO_none : cutO L none = none := rfl
theorem cutO_in {v : Int} (h : L v) : cutO L (some v) = none := by unfold cutO; simp only; rw [if_pos h]
theorem cutO_out {v : Int} (h : ¬ L v) : cutO L (some v) = some v := by unfold cutO; simp only; rw [if_neg h]
theorem cutL_cutO (l : List UInt8 → Option Int) (q : List UInt8) : cutL L l q = cutO L (l q) := rfl
theorem NT_eq (h0 : t'.room = t.room) (h1 : ∀ j, L' j → L j ∨ t.n j = none) (h2 : ∀ j, L j → L' j ∨ t'.n j = none)
  (h3 : ∀ j, ¬ L' j → ¬ L j → hdP t' j = hdP t j) (h4 : ∀ j q, ¬ L' j → ¬ L j → cutO L' (entP t' j q) = cutO L (entP t j q)) : NT L' t' = NT L t := by
 refine PT.ext' h0 fun j => ?_
 show (FT L' 0 _ 0 t').n j = (FT L 0 _ 0 t).n j
 by_cases a : L' j
 · rw [FT_in a]
   rcases h1 j a with b | b
   · rw [FT_in b]
   · rw [FT_none b]
 · by_cases b : L j
   · rw [FT_in b]
     rcases h2 j b with c | c
     · exact absurd c a
     · rw [FT_none c]
   · have e := h3 j a b
     cases hx : t.n j with
     | none =>
      have := hd_same e
      rw [hx] at this
      have hn : t'.n j = none := by simpa using this
      rw [FT_none hx, FT_none hn]
     | some x =>
      obtain ⟨z, hz, hb⟩ := hd_get e hx
      rw [FT_some hx b, FT_some hz a]
      congr 1
      refine bare_ext ?_ fun q => ?_
      · have k1 := congrArg PN.kind hb
        have k2 := congrArg PN.links hb
        have k3 := congrArg PN.size hb
        have k4 := congrArg PN.pages hb
        have k5 := congrArg PN.held hb
        have k6 := congrArg PN.up hb
        obtain ⟨z1, z2, z3, z4, z5, z6, z7⟩ := z
        obtain ⟨x1, x2, x3, x4, x5, x6, x7⟩ := x
        simp only [bareN] at k1 k2 k3 k4 k5 k6
        subst k1 k2 k3 k4 k5 k6
        rfl
      · rw [FN_l, FN_l, cutL_cutO, cutL_cutO, ← ent_some (k := q) hz, ← ent_some (k := q) hx]
        exact h4 j q a b
theorem NT_none (h : WellP t) (hL : ∀ x, ¬ L x) : NT L t = t := by
 refine PT.ext' rfl fun j => ?_
 show (FT L 0 _ 0 t).n j = t.n j
 cases hx : t.n j with
 | none => exact FT_none hx
 | some x =>
  rw [FT_some hx (hL j)]
  congr 1
  have hj : j ≠ 0 := by have := (h.range j x hx).1; omega
  unfold FN
  rw [if_neg hj, if_neg hj]
  have e : cutL L x.l = x.l := by
   funext q
   cases hl : x.l q with
   | none => exact cutL_none hl
   | some v => exact cutL_some hl (hL v)
  rw [e]
theorem ent_there (h : WellP t) {j v : Int} {q : List UInt8} (e : entP t j q = some v) : ∃ y, t.n v = some y ∧ 1 ≤ v := by
 unfold entP at e
 cases hx : t.n j with
 | none => rw [hx] at e; cases e
 | some x =>
  rw [hx] at e
  obtain ⟨_, _, _, y, hy, _⟩ := h.ent j x q v hx e
  exact ⟨y, hy, (h.range v y hy).1⟩
theorem freshP_none {d : Int} {s : ByteArray} (h : WellP t) (h0 : freshE' t d s = 0) : entP t d s.data.toList = none := by
 unfold freshE' at h0
 cases e : entP t d s.data.toList with
 | none => rfl
 | some v =>
  exfalso
  obtain ⟨y, _, hv⟩ := ent_there h e
  unfold entP at e
  cases hx : t.n d with
  | none => rw [hx] at e; cases e
  | some x =>
   rw [hx] at e h0
   simp only at e h0
   unfold freshE at h0
   rw [e] at h0
   have h0' : (if (v != 0) = true then (9 : Int) else 0) = 0 := h0
   rw [if_pos (by simp; omega)] at h0'
   cases h0'
variable {r : R}
theorem life_mid (h : WellP t) (hc : checkB r = true) (hL : L r.ino) (hf : ∃ y, t.n r.ino = some y ∧ y.kind = 1) (ha : r.act = 2 ∨ r.act = 3 ∨ r.act = 5 ∨ r.act = 6) (e : actA t r = (0, t')) : NT L t' = NT L t := by
 have K := keeps_actA (r := r) h hc
 rw [e] at K
 have hold : r.old = 0 := Decidable.byContradiction fun c => by have := (check_act hc).2 c; omega
 have hwI : ∀ j, wIr r j → j = r.ino := fun j hj => hj.elim id fun c => absurd hold c.1
 refine NT_eq K.room (fun j a => .inl a) (fun j a => .inl a) (fun j a _ => K.hd j fun c => a (hwI j c ▸ hL)) fun j q a _ => ?_
 by_cases hw : wEr r j q
 · obtain ⟨h1, h2⟩ := hw
   have h2' : j = r.dir ∧ q = r.name.data.toList := h2.elim id fun c => absurd c.1 (by omega)
   obtain ⟨rfl, rfl⟩ := h2'
   have hor : r.act = 2 ∨ r.act = 3 := by omega
   unfold actA at e
   rw [if_neg (by omega)] at e
   rcases hor with h2 | h3
   · rw [if_pos h2] at e
     unfold linkA linkP at e
     split at e
     · rename_i h0
       injection e with _ e
       unfold linkE at h0
       rw [first_zero] at h0
       simp only [List.mem_cons, List.not_mem_nil, or_false, forall_eq_or_imp, forall_eq] at h0
       obtain ⟨e1, e2, e3, e4, e5, e6⟩ := h0
       rw [freshP_none h e5, cutO_none]
       obtain ⟨xd, hd⟩ := Option.isSome_iff_exists.1 (there_all e2 r.dir (by simp))
       obtain ⟨xi, hi⟩ := Option.isSome_iff_exists.1 (there_all e2 r.ino (by simp))
       have hne : r.dir ≠ r.ino := fun c => by
        have k1 := dirs_zero e3 (i := r.dir) (by simp) hd
        have k2 := file_zero hi e4
        rw [← c, hd] at hi
        cases hi
        exact k2 k1
       have hn : t'.n r.dir = some { xd with l := updL xd.l r.name.data.toList r.ino } := by
        rw [← e]
        unfold linkT
        rw [hd, hi]
        show (enterT t r.dir xd r.name r.ino xi).n r.dir = _
        unfold enterT
        rw [PT.set_n, if_neg hne, PT.set_n, if_pos rfl]
       rw [ent_some hn]
       show cutO L (updL xd.l r.name.data.toList r.ino r.name.data.toList) = none
       unfold updL
       rw [if_pos rfl]
       exact cutO_in hL
     · rename_i c
       injection e with c1 _
       exact absurd c1 c
   · rw [if_neg (by omega), if_pos h3] at e
     unfold unlinkA at e
     by_cases hl : lookA t r = 0
     · rw [if_neg (by simp [hl])] at e
       obtain ⟨l0, l1⟩ := lookA_zero hl
       obtain ⟨xd, xi, hd, hx, hi, hne, _⟩ := look_zero h l0
       rw [l1] at hx hi hne
       rw [ent_some hd, hx, cutO_in hL]
       have gen : ∀ p : PN → Int, (dropP t r.dir r.name p).1.2 = 0 → (dropP t r.dir r.name p).2 = t' → cutO L (entP t' r.dir r.name.data.toList) = none := fun p c1 c2 => by
        unfold dropP at c1 c2
        rw [if_neg (by rw [l0]; simp), hd, l1, hi] at c1 c2
        simp only at c1 c2
        by_cases c3 : p xi = 0
        · rw [if_neg (by simp [c3])] at c2
          have hn : t'.n r.dir = some { xd with l := delL xd.l r.name.data.toList } := by
           rw [← c2]
           show (dropT t r.dir xd r.name r.ino xi).n r.dir = _
           rw [drop_n hne, if_pos rfl]
          rw [ent_some hn]
          show cutO L (delL xd.l r.name.data.toList r.name.data.toList) = none
          unfold delL
          rw [if_pos rfl]
          rfl
        · rw [if_pos c3] at c1
          exact absurd c1 c3
       split at e
       · injection e with c1 c2
         exact gen _ c1 c2
       · injection e with c1 c2
         exact gen _ c1 c2
     · rw [if_pos hl] at e
       injection e with c1 _
       exact absurd c1 hl
 · rw [K.ent j q hw]
theorem life_make (h : WellP t) (hc : checkB r = true) (h1 : r.act = 1) (hk : r.kind = 1) (e : actA t r = (0, t')) :
  t.n r.ino = none ∧ (∃ y, t'.n r.ino = some y ∧ y.kind = 1) ∧ NT (fun x => L x ∨ x = r.ino) t' = NT L t := by
 have K := keeps_actA (r := r) h hc
 rw [e] at K
 have hold : r.old = 0 := Decidable.byContradiction fun c => by have := (check_act hc).2 c; omega
 have hwI : ∀ j, wIr r j → j = r.ino := fun j hj => hj.elim id fun c => absurd hold c.1
 have e0 := e
 unfold actA at e
 rw [if_pos h1] at e
 unfold madeA at e
 obtain ⟨e1, t1, hm⟩ : ∃ e1 t1, makeAtP t r.dir r.name r.kind r.ino = (e1, t1) := ⟨_, _, rfl⟩
 rw [hm] at e
 have z0 : e1 = 0 := Decidable.byContradiction fun c => by
  rw [if_pos (.inl c)] at e
  injection e with c1 _
  exact c c1
 subst z0
 have m : ∀ q : Int × PT, q.1 = 0 → ¬ (q.1 ≠ 0 ∨ r.kind = 2) := fun q hq c => c.elim (fun n => n hq) (fun c2 => by omega)
 rw [if_neg (m _ rfl)] at e
 simp only at e
 unfold makeAtP at hm
 split at hm
 · rename_i m0
   injection hm with _ hm
   have mz := m0
   unfold makeAtE at mz
   rw [first_zero] at mz
   simp only [List.mem_cons, List.not_mem_nil, or_false, forall_eq_or_imp, forall_eq] at mz
   obtain ⟨_, _, _, ⟨xd, hd, _, _⟩, hn⟩ := makeAtE_zero m0
   have hne : r.ino ≠ r.dir := fun c => by rw [c, hd] at hn; cases hn
   have hn1 : ∀ j, t1.n j = if j = r.ino then some (inN (newN r.kind) r.dir) else if j = r.dir then some { xd with l := updL xd.l r.name.data.toList r.ino } else t.n j := fun j => by
    rw [← hm]
    unfold makeT
    rw [hd]
    simp only
    unfold enterT
    rw [PT.set_n, PT.set_n, PT.set_n]
    by_cases c1 : j = r.ino
    · simp only [if_pos c1]
    · simp only [if_neg c1]
   have hz1 : t1.n r.ino = some (inN (newN r.kind) r.dir) := by rw [hn1, if_pos rfl]
   have ht : t' = t1.set r.ino { inN (newN r.kind) r.dir with held := (inN (newN r.kind) r.dir).held + 1 } := by
    unfold holdP at e
    split at e
    · injection e with _ e
      rw [hz1] at e
      exact e.symm
    · rename_i c
      injection e with c1 _
      exact absurd c1 c
   refine ⟨hn, ⟨_, by rw [ht, PT.set_n, if_pos rfl], ?_⟩, ?_⟩
   · show (inN (newN r.kind) r.dir).kind = 1
     rw [kind_in]
     exact hk
   · refine NT_eq K.room (fun j a => a.elim .inl fun c => .inr (c ▸ hn)) (fun j a => .inl (.inl a)) (fun j a _ => K.hd j fun c => a (.inr (hwI j c))) fun j q a b => ?_
     by_cases hw : wEr r j q
     · obtain ⟨_, h2⟩ := hw
       have h2' : j = r.dir ∧ q = r.name.data.toList := h2.elim id fun c => absurd c.1 (by omega)
       obtain ⟨rfl, rfl⟩ := h2'
       rw [freshP_none h mz.2.2.2.2.2.1, cutO_none]
       have hn2 : t'.n r.dir = some { xd with l := updL xd.l r.name.data.toList r.ino } := by
        rw [ht, PT.set_n, if_neg (fun c => hne c.symm), hn1, if_neg (fun c => hne c.symm), if_pos rfl]
       rw [ent_some hn2]
       show cutO _ (updL xd.l r.name.data.toList r.ino r.name.data.toList) = none
       unfold updL
       rw [if_pos rfl]
       exact cutO_in (.inr rfl)
     · rw [K.ent j q hw]
       cases he : entP t j q with
       | none => rfl
       | some v =>
        obtain ⟨y, hy, _⟩ := ent_there h he
        have hv : v ≠ r.ino := fun c => by rw [c, hn] at hy; cases hy
        by_cases hL : L v
        · rw [cutO_in hL, cutO_in (.inl hL)]
        · rw [cutO_out hL, cutO_out (fun c => c.elim hL hv)]
 · rename_i c
   injection hm with c1 _
   exact absurd c1 c
theorem life_free (h : WellP t) (hh : Held1 t) (hc : checkB r = true) (h7 : r.act = 7) (hL : L r.ino) (e : actA t r = (0, t')) :
  NT (fun x => L x ∧ x ≠ r.ino) t' = NT L t := by
 have K := keeps_actA (r := r) h hc
 rw [e] at K
 have hold : r.old = 0 := Decidable.byContradiction fun c => by have := (check_act hc).2 c; omega
 have hwI : ∀ j, wIr r j → j = r.ino := fun j hj => hj.elim id fun c => absurd hold c.1
 have hwE : ∀ j q, ¬ wEr r j q := fun j q c => by have := c.1; omega
 unfold actA at e
 rw [if_neg (by omega), if_neg (by omega), if_neg (by omega), if_neg (by omega), if_neg (by omega), if_neg (by omega)] at e
 unfold freeA at e
 cases hx : t.n r.ino with
 | none =>
  rw [hx] at e
  injection e with e _
  cases e
 | some x =>
  rw [hx] at e
  simp only at e
  split at e
  · injection e with e _
    cases e
  · rename_i hl
    unfold unholdP at e
    split at e
    · rename_i h0
      injection e with _ e
      rw [hx] at e
      simp only at e
      have hhe : x.held ≠ 0 := fun c => by
       unfold unholdE at h0
       rw [first_zero] at h0
       simp only [List.mem_cons, List.not_mem_nil, or_false, forall_eq_or_imp, forall_eq] at h0
       have := h0.2
       unfold heldE' at this
       rw [hx] at this
       unfold heldE at this
       simp [c] at this
      have hk1 : x.kind = 1 := (h.kind _ x hx).resolve_right fun c => hhe (h.dirs _ x hx c).2
      have hl0 : x.links = 0 := by have := (h.most _ x hx).1; omega
      have hi1 : r.ino ≠ 1 := fun c => by
       obtain ⟨z, hz, hzk, _⟩ := h.root
       rw [← c, hx] at hz
       cases hz
       omega
      have hg : goneB r.ino { x with held := x.held - 1 } = true := by
       unfold goneB
       simp [hk1, hl0, hi1, hh _ x hx hk1]
      have hn : t'.n r.ino = none := by
       rw [← e]
       unfold unholdT freeP
       rw [if_pos hg, PT.del_n, if_pos rfl]
      have hno : ∀ j q, entP t j q ≠ some r.ino := fun j q c => by
       obtain ⟨M, _, n2, n3⟩ := h.links r.ino x hx hk1
       have hent : Ent t j q r.ino := by
        unfold entP at c
        cases hj : t.n j with
        | none => rw [hj] at c; cases c
        | some w =>
         rw [hj] at c
         exact ⟨w, hj, c⟩
       have := List.length_pos_of_mem ((n2 (j, q)).2 hent)
       omega
      refine NT_eq K.room (fun j a => .inl a.1) (fun j a => ?_) (fun j a b => K.hd j fun c => b (hwI j c ▸ hL)) fun j q a b => ?_
      · by_cases c : j = r.ino
        · exact .inr (c ▸ hn)
        · exact .inl ⟨a, c⟩
      · rw [K.ent j q (hwE j q)]
        cases he : entP t j q with
        | none => rfl
        | some v =>
         have hv : v ≠ r.ino := fun c => hno j q (c ▸ he)
         by_cases hLv : L v
         · rw [cutO_in hLv, cutO_in ⟨hLv, hv⟩]
         · rw [cutO_out hLv, cutO_out (fun c => hLv c.1)]
    · rename_i c
      injection e with c1 _
      exact absurd c1 c
end
section
structure IdleP (l : List R) (k tz : Nat) : Prop where
 lt : k < tz
 len : tz < l.length
 mak : (rAt l k).act = 1 ∧ (rAt l k).kind = 1
 fr : (rAt l tz).act = 7 ∧ (rAt l tz).ino = (rAt l k).ino
 mid : ∀ i, k < i → i < tz → ((rAt l i).dir ≠ (rAt l k).ino ∧ (rAt l i).dir2 ≠ (rAt l k).ino ∧ (rAt l i).old ≠ (rAt l k).ino) ∧ ((rAt l i).ino = (rAt l k).ino → (rAt l i).act = 2 ∨ (rAt l i).act = 3 ∨ (rAt l i).act = 5 ∨ (rAt l i).act = 6)
variable {l : List R} {idle : Nat → Option Nat}
def InL (l : List R) (idle : Nat → Option Nat) (i : Nat) (x : Int) : Prop := ∃ k tz, idle k = some tz ∧ k < i ∧ i ≤ tz ∧ (rAt l k).ino = x
def GoneP (l : List R) (idle : Nat → Option Nat) (i : Nat) : Prop := ∃ k tz, idle k = some tz ∧ k ≤ i ∧ i ≤ tz ∧ (rAt l i).ino = (rAt l k).ino
variable {t0 t : PT}
def keptTo (l : List R) (gone : Nat → Bool) (i : Nat) : List R := ((List.range i).filter fun k => !gone k).map (rAt l)
theorem keptTo_succ (l : List R) (gone : Nat → Bool) (i : Nat) : keptTo l gone (i + 1) = keptTo l gone i ++ if gone i = true then [] else [rAt l i] := by
 unfold keptTo
 rw [List.range_succ, List.filter_append, List.map_append]
 congr 1
 cases h : gone i <;> simp [h]
theorem take_succ_rAt {i : Nat} (hi : i < l.length) : l.take (i + 1) = l.take i ++ [rAt l i] := by
 rw [List.take_add_one, List.getElem?_eq_getElem hi]
 congr 1
 unfold rAt
 rw [List.getD_eq_getElem?_getD, List.getElem?_eq_getElem hi]
 rfl
theorem idle_rest (hid : ∀ k tz, idle k = some tz → IdleP l k tz) {gone : Nat → Bool} (hg : ∀ i, i < l.length → (gone i = true ↔ GoneP l idle i)) (h0 : WellP t0) (hh0 : Held1 t0) (ho : ∀ r ∈ l, r.Ok) :
  ∀ {i : Nat} {t : PT}, i ≤ l.length → runA t0 (l.take i) = some t → runA t0 (keptTo l gone i) = some (NT (InL l idle i) t) ∧ WellP t ∧ Held1 t ∧ ∀ x, InL l idle i x → ∃ y, t.n x = some y ∧ y.kind = 1
 | 0, t, _, e => by
  have : t0 = t := by simpa [runA] using e
  subst this
  refine ⟨?_, h0, hh0, fun x hx => ?_⟩
  · rw [NT_none h0 fun x hx => by obtain ⟨k, tz, _, hk, _⟩ := hx; omega]
    rfl
  · obtain ⟨k, tz, _, hk, _⟩ := hx
    omega
 | i + 1, t', hi, e => by
  have hil : i < l.length := by omega
  rw [take_succ_rAt hil] at e
  obtain ⟨t, e1, e2⟩ := runA_append.1 e
  obtain ⟨ih, hw, hh, hL⟩ := idle_rest hid hg h0 hh0 ho (by omega) e1
  obtain ⟨r, hr⟩ : ∃ r, rAt l i = r := ⟨_, rfl⟩
  have hro : r.Ok := by rw [← hr]; exact ho _ (rAt_memJ hil)
  rw [hr] at e2
  have hc := runA_check e2 r (by simp)
  obtain ⟨e3, e4⟩ := runA_one.1 e2
  rw [playA_check hc] at e3 e4
  have he : actA t r = (0, t') := Prod.ext e3 e4
  have hw' : WellP t' := by
   have := hw.actA_ (r := r) hro
   rw [he] at this
   exact this
  obtain ⟨hh', hst⟩ := held_act hw hh hro hc he
  rw [keptTo_succ, hr]
  -- those that go on
  have on : ∀ x, InL l idle i x → ¬ (r.act = 7 ∧ r.ino = x) → ∃ y, t'.n x = some y ∧ y.kind = 1 := fun x hx hn => by
   obtain ⟨y, hy, hk⟩ := hL x hx
   exact hst x y hy hk hn
  by_cases hgone : GoneP l idle i
  · rw [if_pos ((hg i hil).2 hgone), List.append_nil, ih]
    obtain ⟨k, tz, hk, k1, k2, k3⟩ := hgone
    have hI := hid k tz hk
    rw [hr] at k3
    by_cases c1 : k = i
    · -- it begins
      subst c1
      have hm := hI.mak
      rw [hr] at hm
      obtain ⟨m1, m2, m3⟩ := life_make (L := InL l idle k) hw hc hm.1 hm.2 he
      have hset : InL l idle (k + 1) = fun x => InL l idle k x ∨ x = r.ino := by
       funext x
       refine propext ⟨fun ⟨k', tz', a1, a2, a3, a4⟩ => ?_, fun h => ?_⟩
       · by_cases c : k' = k
         · subst c
           exact .inr (by rw [← a4, hr])
         · exact .inl ⟨k', tz', a1, by omega, by omega, a4⟩
       · rcases h with ⟨k', tz', a1, a2, a3, a4⟩ | h
         · have hI' := hid k' tz' a1
           refine ⟨k', tz', a1, by omega, ?_, a4⟩
           by_cases c : k = tz'
           · have := hI'.fr.1
             rw [← c, hr] at this
             omega
           · omega
         · exact ⟨k, tz, hk, by omega, by have := hI.lt; omega, by rw [hr]; exact h.symm⟩
      refine ⟨?_, hw', hh', fun x hx => ?_⟩
      · rw [hset, m3]
      · rw [hset] at hx
        rcases hx with hx | hx
        · exact on x hx (fun c => by omega)
        · rw [hx]; exact m2
    · have hLi : InL l idle i r.ino := ⟨k, tz, hk, by omega, k2, k3.symm⟩
      by_cases c2 : i = tz
      · -- it ends
        subst c2
        have hf := hI.fr
        rw [hr] at hf
        have m3 := life_free (L := InL l idle i) hw hh hc hf.1 hLi he
        have hset : InL l idle (i + 1) = fun x => InL l idle i x ∧ x ≠ r.ino := by
         funext x
         refine propext ⟨fun ⟨k', tz', a1, a2, a3, a4⟩ => ?_, fun ⟨⟨k', tz', a1, a2, a3, a4⟩, hx⟩ => ?_⟩
         · have hI' := hid k' tz' a1
           by_cases c : k' = i
           · have := hI'.mak.1
             rw [c, hr] at this
             omega
           · refine ⟨⟨k', tz', a1, by omega, by omega, a4⟩, fun hx => ?_⟩
             have := (hI'.mid i (by omega) (by omega)).2 (by rw [hr, a4, hx])
             rw [hr] at this
             omega
         · refine ⟨k', tz', a1, by omega, ?_, a4⟩
           by_cases c : i = tz'
           · have := (hid k' tz' a1).fr.2
             rw [← c, hr] at this
             exact absurd (a4.symm.trans this.symm) hx
           · omega
        refine ⟨?_, hw', hh', fun x hx => ?_⟩
        · rw [hset, m3]
        · rw [hset] at hx
          exact on x hx.1 (fun c => hx.2 c.2.symm)
      · -- in the midst
        have hm := hI.mid i (by omega) (by omega)
        rw [hr] at hm
        have ha := hm.2 k3
        have m3 := life_mid (L := InL l idle i) hw hc hLi (hL _ hLi) ha he
        have hset : InL l idle (i + 1) = InL l idle i := by
         funext x
         refine propext ⟨fun ⟨k', tz', a1, a2, a3, a4⟩ => ?_, fun ⟨k', tz', a1, a2, a3, a4⟩ => ?_⟩
         · by_cases c : k' = i
           · have := (hid k' tz' a1).mak.1
             rw [c, hr] at this
             omega
           · exact ⟨k', tz', a1, by omega, by omega, a4⟩
         · refine ⟨k', tz', a1, by omega, ?_, a4⟩
           by_cases c : i = tz'
           · have := (hid k' tz' a1).fr.1
             rw [← c, hr] at this
             omega
           · omega
        refine ⟨?_, hw', hh', fun x hx => ?_⟩
        · rw [hset, m3]
        · rw [hset] at hx
          exact on x hx (fun c => by omega)
  · have hgf : gone i = false := by
     cases c : gone i
     · rfl
     · exact absurd ((hg i hil).1 c) hgone
    rw [hgf, if_neg (by simp)]
    have hnot : ¬ InL l idle i r.ino := fun ⟨k, tz, a1, a2, a3, a4⟩ => hgone ⟨k, tz, a1, by omega, a3, by rw [hr]; exact a4.symm⟩
    have hmid : ∀ x, InL l idle i x → r.dir ≠ x ∧ r.dir2 ≠ x ∧ r.old ≠ x := fun x ⟨k, tz, a1, a2, a3, a4⟩ => by
     have hI := hid k tz a1
     by_cases c : i = tz
     · exfalso
       have := hI.fr.2
       rw [← c, hr] at this
       exact hnot ⟨k, tz, a1, a2, a3, this.symm⟩
     · have := (hI.mid i a2 (by omega)).1
       rw [hr, a4] at this
       exact this
    have hfl : FilesL (InL l idle i) t := fun x hx y hy => by
     obtain ⟨z, hz, hk⟩ := hL x hx
     rw [hz] at hy
     cases hy
     omega
    have hino0 : r.ino ≠ 0 := by
     unfold checkB inoB at hc
     simp only [Bool.and_eq_true, decide_eq_true_eq] at hc
     have := hc.1.1.1.1.1.2
     omega
    have hact := FT_act (i := 0) (P := fun _ => none) (z := 0) hw hfl hc hnot (fun _ c => (hmid _ c).1 rfl) (fun _ => ⟨fun c => (hmid _ c).2.1 rfl, fun c => (hmid _ c).2.2 rfl⟩) (fun _ => hino0) he
    have hset : InL l idle (i + 1) = InL l idle i := by
     funext x
     refine propext ⟨fun ⟨k', tz', a1, a2, a3, a4⟩ => ?_, fun ⟨k', tz', a1, a2, a3, a4⟩ => ?_⟩
     · by_cases c : k' = i
       · exfalso
         have hI := hid k' tz' a1
         exact hgone ⟨k', tz', a1, by omega, by have := hI.lt; omega, by rw [c]⟩
       · exact ⟨k', tz', a1, by omega, by omega, a4⟩
     · refine ⟨k', tz', a1, by omega, ?_, a4⟩
       by_cases c : i = tz'
       · exfalso
         have := (hid k' tz' a1).fr.2
         rw [← c, hr] at this
         exact hnot ⟨k', tz', a1, a2, a3, this.symm⟩
       · omega
    refine ⟨?_, hw', hh', fun x hx => ?_⟩
    · refine runA_append.2 ⟨_, ih, runA_one.2 ?_⟩
      rw [playA_check hc, hset]
      show (actA (NT (InL l idle i) t) r).1 = 0 ∧ _
      have hact' : actA (NT (InL l idle i) t) r = (0, NT (InL l idle i) t') := hact
      rw [hact']
      exact ⟨rfl, rfl⟩
    · rw [hset] at hx
      exact on x hx (fun c => hnot (c.2 ▸ hx))
theorem idle_same (hid : ∀ k tz, idle k = some tz → IdleP l k tz) {gone : Nat → Bool} (hg : ∀ i, i < l.length → (gone i = true ↔ GoneP l idle i)) (h0 : WellP t0) (hh0 : Held1 t0) (ho : ∀ r ∈ l, r.Ok) {t : PT} (e : runA t0 l = some t) :
  runA t0 (keptTo l gone l.length) = some t := by
 obtain ⟨h1, h2, _⟩ := idle_rest hid hg h0 hh0 ho (Nat.le_refl l.length) (t := t) (by rw [List.take_length]; exact e)
 rw [h1, NT_none h2 fun x hx => by obtain ⟨k, tz, a1, a2, a3, _⟩ := hx; have := (hid k tz a1).len; omega]
end
end Go.Proofs.YtogljgiefmfafaaGreat

