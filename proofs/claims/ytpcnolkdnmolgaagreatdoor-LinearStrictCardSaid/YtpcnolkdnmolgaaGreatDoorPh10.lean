/- The program's tree, plain: what holds of whatever was done. -/
import Derived.Test.YtpcnolkdnmolgaaGreatDoorPh09
import Derived.Shelf.SlMaps.Clone
namespace Go.Proofs.YtpcnolkdnmolgaaGreatDoor
section
open Go.RowKit Go.Maps
def Ent (t : PT) (d : Int) (k : List UInt8) (i : Int) : Prop := ∃ x, t.n d = some x ∧ x.l k = some i
structure WellP (t : PT) : Prop where
 room : 2 ≤ t.room ∧ t.room ≤ 256
 root : ∃ x, t.n 1 = some x ∧ x.kind = 2 ∧ x.up = 0
 range : ∀ i x, t.n i = some x → 1 ≤ i ∧ i ≤ t.room
 kind : ∀ i x, t.n i = some x → x.kind = 1 ∨ x.kind = 2
 ent : ∀ d x k v, t.n d = some x → x.l k = some v → x.kind = 2 ∧ v ≠ 1 ∧ v ≠ d ∧ ∃ y, t.n v = some y ∧ (y.kind = 2 → y.up = d)
 one : ∀ d k k' v y, Ent t d k v → Ent t d k' v → t.n v = some y → y.kind = 2 → k = k'
 up : ∀ i x, t.n i = some x → x.kind = 2 → i ≠ 1 → ∃ k, Ent t x.up k i
 rank : ∃ r : Int → Nat, ∀ i x, t.n i = some x → x.kind = 2 → x.up ≠ 0 → r x.up < r i
 links : ∀ i x, t.n i = some x → x.kind = 1 → ∃ L : List (Int × List UInt8), L.Nodup ∧ (∀ p, p ∈ L ↔ Ent t p.1 p.2 i) ∧ (L.length : Int) = x.links
 most : ∀ i x, t.n i = some x → 0 ≤ x.links ∧ x.links ≤ 1000000
 dirs : ∀ i x, t.n i = some x → x.kind = 2 → x.links = 1 ∧ x.held = 0
 held : ∀ i x, t.n i = some x → 0 ≤ x.held
 there : ∀ i x, t.n i = some x → x.kind = 1 → x.links = 0 → 0 < x.held
 pages : ∀ i x, t.n i = some x → PagesOk x
theorem WellP.good {t : PT} (h : WellP t) : GoodP t := by
 refine ⟨fun d x k v hd hl => ?_, fun i x hx => h.most i x hx⟩
 obtain ⟨_, h1, h2, y, hy, _⟩ := h.ent d x k v hd hl
 have hr := h.range v y hy
 have hm := h.room
 exact ⟨h2, hr.1, by omega, by rw [hy]; rfl⟩
theorem WellP.ends {t : PT} (h : WellP t) : ∃ r : Int → Nat, ∀ n i, (i = 0 ∨ ∃ x, t.n i = some x ∧ x.kind = 2 ∧ r i < n) → Ends t n i := by
 obtain ⟨r, hr⟩ := h.rank
 refine ⟨r, fun n => ?_⟩
 induction n with
 | zero =>
  rintro i (rfl | ⟨x, _, _, hlt⟩)
  · rfl
  · omega
 | succ n ih =>
  rintro i (rfl | ⟨x, hx, hk, hlt⟩)
  · exact .inl rfl
  · refine .inr ⟨by rw [hx]; rfl, ih _ ?_⟩
    rw [show upAt t i = x.up by unfold upAt; rw [hx]]
    by_cases h0 : x.up = 0
    · exact .inl h0
    · have h1 : i ≠ 1 := by
       rintro rfl
       obtain ⟨z, hz, _, hz0⟩ := h.root
       rw [hx] at hz
       cases hz
       exact h0 hz0
      obtain ⟨k, p, hp, hl⟩ := h.up i x hx hk h1
      have hlt2 := hr i x hx hk h0
      exact .inr ⟨p, hp, (h.ent _ p k i hp hl).1, by omega⟩
end
section
open Go.RowKit Go.Maps
variable {t : PT} {d i : Int} {s : ByteArray} {x y : PN}
theorem leave_n (_hne : i ≠ d) (j : Int) : (leaveT t d x s i y).n j = if j = d then some { x with l := delL x.l s.data.toList } else if j = i then some (outN y) else t.n j := by
 unfold leaveT
 rw [PT.set_n, PT.set_n]
theorem drop_n (hne : i ≠ d) (j : Int) : (dropT t d x s i y).n j = if j = d then some { x with l := delL x.l s.data.toList } else if j = i then (if goneB i (outN y) = true then none else some (outN y)) else t.n j := by
 unfold dropT freeP
 split
 · rw [PT.del_n, leave_n hne]
   by_cases h1 : j = d
   · rw [if_pos h1, if_neg (by omega)]
     simp [h1]
   · rw [if_neg h1, if_neg h1]
     by_cases h2 : j = i
     · rw [if_pos h2, if_pos h2]
     · rw [if_neg h2, if_neg h2, if_neg h2]
 · rw [leave_n hne]
theorem drop_ent (hne : i ≠ d) (hd : t.n d = some x) (hi : t.n i = some y) (he : goneB i (outN y) = true → ∀ q, y.l q = none) (a : Int) (q : List UInt8) (v : Int) :
  Ent (dropT t d x s i y) a q v ↔ Ent t a q v ∧ ¬ (a = d ∧ q = s.data.toList) := by
 unfold Ent
 rw [drop_n hne]
 have ho : (outN y).l = y.l := by unfold outN; split <;> rfl
 by_cases h1 : a = d
 · subst h1
   rw [if_pos rfl, hd]
   constructor
   · rintro ⟨z, hz, hl⟩
     cases hz
     have hl' : (if q = s.data.toList then none else x.l q) = some v := hl
     split at hl'
     · cases hl'
     · rename_i hq
       exact ⟨⟨x, rfl, hl'⟩, fun h => hq h.2⟩
   · rintro ⟨⟨z, hz, hl⟩, hn⟩
     cases hz
     refine ⟨_, rfl, ?_⟩
     show (if q = s.data.toList then none else x.l q) = some v
     rw [if_neg (fun h => hn ⟨rfl, h⟩)]
     exact hl
 · rw [if_neg h1]
   by_cases h2 : a = i
   · subst h2
     rw [if_pos rfl, hi]
     split
     · rename_i hg
       constructor
       · rintro ⟨z, hz, _⟩
         cases hz
       · rintro ⟨⟨z, hz, hl⟩, _⟩
         cases hz
         rw [he hg q] at hl
         cases hl
     · constructor
       · rintro ⟨z, hz, hl⟩
         cases hz
         rw [ho] at hl
         exact ⟨⟨y, rfl, hl⟩, fun h => h1 h.1⟩
       · rintro ⟨⟨z, hz, hl⟩, _⟩
         cases hz
         exact ⟨_, rfl, by rw [ho]; exact hl⟩
   · rw [if_neg h2]
     exact ⟨fun h => ⟨h, fun g => h1 g.1⟩, fun h => h.1⟩
structure Like (z z0 : PN) : Prop where
 kind : z.kind = z0.kind
 up : z.up = z0.up
 held : z.held = z0.held
 size : z.size = z0.size
 pages : z.pages = z0.pages
theorem Like.ok {z z0 : PN} (h : Like z z0) (k : PagesOk z0) : PagesOk z := ⟨fun p b hb => k.len p b (by rw [← h.pages]; exact hb), by rw [h.size]; exact k.size⟩
theorem Ent.fun_ {d : Int} {k : List UInt8} {i j : Int} (h : Ent t d k i) (g : Ent t d k j) : i = j := by
 obtain ⟨a, ha, hi⟩ := h
 obtain ⟨b, hb, hj⟩ := g
 rw [ha] at hb
 cases hb
 rw [hi] at hj
 cases hj
 rfl
theorem WellP.drop (h : WellP t) (hd : t.n d = some x) (hl : x.l s.data.toList = some i) (hi : t.n i = some y) (hempty : y.kind = 2 → ∀ q, y.l q = none) : WellP (dropT t d x s i y) := by
 obtain ⟨hxk, hi1, hid, y', hy', hup⟩ := h.ent d x _ i hd hl
 rw [hi] at hy'
 cases hy'
 have hent : Ent t d s.data.toList i := ⟨x, hd, hl⟩
 have hgd : y.kind = 2 → goneB i (outN y) = true := fun hk => by
  have hh := (h.dirs i y hi hk).2
  unfold goneB outN
  rw [if_pos hk]
  simp [hi1, hh, hk]
 have he : goneB i (outN y) = true → ∀ q, y.l q = none := fun _ q => by
  by_cases hk : y.kind = 2
  · exact hempty hk q
  · cases hq : y.l q with
    | none => rfl
    | some v => exact absurd (h.ent i y q v hi hq).1 hk
 have hE := fun a q v => drop_ent (s := s) (x := x) hid hd hi he a q v
 have hnode : ∀ j z, (dropT t d x s i y).n j = some z → ∃ z0, t.n j = some z0 ∧ Like z z0 ∧ (j ≠ i → z.links = z0.links) ∧ (j = i → z.links = z0.links - 1 ∧ z0.kind = 1 ∧ goneB i (outN y) = false) := fun j z hz => by
  rw [drop_n hid] at hz
  by_cases h1 : j = d
  · subst h1
    rw [if_pos rfl] at hz
    cases hz
    exact ⟨x, hd, ⟨rfl, rfl, rfl, rfl, rfl⟩, fun _ => rfl, fun e => absurd e.symm hid⟩
  · rw [if_neg h1] at hz
    by_cases h2 : j = i
    · subst h2
      rw [if_pos rfl] at hz
      split at hz
      · cases hz
      · rename_i hg
        cases hz
        have hk : ¬ y.kind = 2 := fun hk => hg (hgd hk)
        have hk1 : y.kind = 1 := (h.kind j y hi).resolve_right hk
        refine ⟨y, hi, ?_, fun e => absurd rfl e, fun _ => ⟨?_, hk1, by simpa using hg⟩⟩
        · unfold outN; rw [if_neg hk]; exact ⟨rfl, rfl, rfl, rfl, rfl⟩
        · unfold outN; rw [if_neg hk]
    · rw [if_neg h2] at hz
      exact ⟨z, hz, ⟨rfl, rfl, rfl, rfl, rfl⟩, fun _ => rfl, fun e => absurd e h2⟩
 have hkeep : ∀ j z0, t.n j = some z0 → (j = i → goneB i (outN y) = false) → ∃ z, (dropT t d x s i y).n j = some z ∧ z.kind = z0.kind := fun j z0 hz hg => by
  rw [drop_n hid]
  by_cases h1 : j = d
  · subst h1
    rw [hd] at hz
    cases hz
    exact ⟨_, if_pos rfl, rfl⟩
  · rw [if_neg h1]
    by_cases h2 : j = i
    · subst h2
      rw [if_pos rfl, hg rfl]
      rw [hi] at hz
      cases hz
      exact ⟨_, rfl, by unfold outN; split <;> rfl⟩
    · rw [if_neg h2]
      exact ⟨z0, hz, rfl⟩
 refine ⟨?_, ?_, ?_, ?_, ?_, ?_, ?_, ?_, ?_, ?_, ?_, ?_, ?_, ?_⟩
 · have : (dropT t d x s i y).room = t.room := by unfold dropT freeP; split <;> rfl
   rw [this]; exact h.room
 · obtain ⟨z, hz, hzk, hzu⟩ := h.root
   obtain ⟨z1, h1, h2⟩ := hkeep 1 z hz (fun e => absurd e.symm hi1)
   obtain ⟨z0, h3, h4, _⟩ := hnode 1 z1 h1
   rw [hz] at h3
   cases h3
   exact ⟨z1, h1, h4.kind.trans hzk, h4.up.trans hzu⟩
 · intro j z hz
   obtain ⟨z0, h3, _⟩ := hnode j z hz
   have : (dropT t d x s i y).room = t.room := by unfold dropT freeP; split <;> rfl
   rw [this]; exact h.range j z0 h3
 · intro j z hz
   obtain ⟨z0, h3, h4, _⟩ := hnode j z hz
   rw [h4.kind]; exact h.kind j z0 h3
 · intro d' x' k v hd' hl'
   obtain ⟨x0, h3, h4, _⟩ := hnode d' x' hd'
   obtain ⟨hen, hno⟩ := (hE d' k v).1 ⟨x', hd', hl'⟩
   have hen0 := hen
   obtain ⟨x1, hx1, hl1⟩ := hen
   rw [h3] at hx1
   cases hx1
   obtain ⟨g1, g2, g3, y2, g4, g5⟩ := h.ent d' x0 k v h3 hl1
   refine ⟨h4.kind.trans g1, g2, g3, ?_⟩
   have hg : v = i → goneB i (outN y) = false := by
    rintro rfl
    rw [hi] at g4
    cases g4
    rcases h.kind v y hi with hk | hk
    · obtain ⟨L, n1, n2, n3⟩ := h.links v y hi hk
      have m1 : (d, s.data.toList) ∈ L := (n2 _).2 hent
      have m2 : (d', k) ∈ L := (n2 _).2 hen0
      have hne : (d', k) ≠ (d, s.data.toList) := fun e => hno (by injection e with a b; exact ⟨a, b⟩)
      have m3 : (d', k) ∈ L.erase (d, s.data.toList) := (List.mem_erase_of_ne hne).2 m2
      have l1 := List.length_erase_of_mem m1
      have l2 := List.length_pos_of_mem m3
      unfold goneB outN
      rw [if_neg (by omega)]
      have : ¬ (y.links - 1 = 0) := by omega
      simp [this, hk]
    · exfalso
      have u1 := hup hk
      have u2 := g5 hk
      rw [u1] at u2
      subst u2
      exact hno ⟨rfl, h.one d k _ v y hen0 hent hi hk⟩
   obtain ⟨z, hz, hzk⟩ := hkeep v y2 g4 hg
   obtain ⟨z0, h5, h6, _⟩ := hnode v z hz
   rw [g4] at h5
   cases h5
   exact ⟨z, hz, fun hk => h6.up.trans (g5 (h6.kind ▸ hk))⟩
 · intro d' k k' v z e1 e2 hz hk
   obtain ⟨z0, h3, h4, _⟩ := hnode v z hz
   exact h.one d' k k' v z0 ((hE _ _ _).1 e1).1 ((hE _ _ _).1 e2).1 h3 (h4.kind ▸ hk)
 · intro j z hz hk hj
   obtain ⟨z0, h3, h4, _, h6⟩ := hnode j z hz
   obtain ⟨k, hen⟩ := h.up j z0 h3 (h4.kind ▸ hk) hj
   refine ⟨k, (hE _ _ _).2 ⟨by rw [h4.up]; exact hen, ?_⟩⟩
   rintro ⟨e1, e2⟩
   rw [h4.up] at e1
   rw [e1, e2] at hen
   have := hen.fun_ hent
   have := (h6 this).2.1
   rw [← h4.kind] at this
   omega
 · obtain ⟨r, hr⟩ := h.rank
   refine ⟨r, fun j z hz hk hu => ?_⟩
   obtain ⟨z0, h3, h4, _⟩ := hnode j z hz
   rw [h4.up]
   exact hr j z0 h3 (h4.kind ▸ hk) (h4.up ▸ hu)
 · intro j z hz hk
   obtain ⟨z0, h3, h4, h5, h6⟩ := hnode j z hz
   obtain ⟨L, n1, n2, n3⟩ := h.links j z0 h3 (h4.kind ▸ hk)
   by_cases hj : j = i
   · subst hj
     have m1 : (d, s.data.toList) ∈ L := (n2 _).2 hent
     refine ⟨L.erase (d, s.data.toList), n1.erase _, fun p => ?_, ?_⟩
     · rw [n1.mem_erase_iff, n2, hE]
       constructor
       · rintro ⟨a, b⟩
         exact ⟨b, fun e => a (Prod.ext e.1 e.2)⟩
       · rintro ⟨a, b⟩
         exact ⟨fun e => b (by rw [e]; exact ⟨rfl, rfl⟩), a⟩
     · have l1 := List.length_erase_of_mem m1
       have l2 := List.length_pos_of_mem m1
       rw [(h6 rfl).1, ← n3]
       omega
   · refine ⟨L, n1, fun p => ?_, n3.trans (h5 hj).symm⟩
     rw [n2, hE]
     refine ⟨fun a => ⟨a, ?_⟩, fun a => a.1⟩
     rintro ⟨e1, e2⟩
     rw [e1, e2] at a
     exact hj (a.fun_ hent)
 · intro j z hz
   obtain ⟨z0, h3, h4, h5, h6⟩ := hnode j z hz
   have := h.most j z0 h3
   by_cases hj : j = i
   · obtain ⟨a, b, _⟩ := h6 hj
     obtain ⟨L, n1, n2, n3⟩ := h.links j z0 h3 b
     subst hj
     have l2 := List.length_pos_of_mem ((n2 (d, s.data.toList)).2 hent)
     omega
   · rw [h5 hj]; exact this
 · intro j z hz hk
   obtain ⟨z0, h3, h4, h5, h6⟩ := hnode j z hz
   have hk0 : z0.kind = 2 := h4.kind ▸ hk
   have hj : j ≠ i := fun e => by have := (h6 e).2.1; omega
   obtain ⟨a, b⟩ := h.dirs j z0 h3 hk0
   exact ⟨(h5 hj).trans a, h4.held.trans b⟩
 · intro j z hz
   obtain ⟨z0, h3, h4, _⟩ := hnode j z hz
   rw [h4.held]; exact h.held j z0 h3
 · intro j z hz hk hz0
   obtain ⟨z0, h3, h4, h5, h6⟩ := hnode j z hz
   by_cases hj : j = i
   · obtain ⟨a, b, g⟩ := h6 hj
     subst hj
     rw [hi] at h3
     cases h3
     have hh := h.held j y hi
     rw [h4.held]
     unfold goneB outN at g
     rw [if_neg (by omega)] at g
     have q : y.links - 1 = 0 := by omega
     simp [hi1, b, q] at g
     omega
   · rw [h4.held]
     exact h.there j z0 h3 (h4.kind ▸ hk) ((h5 hj) ▸ hz0)
 · intro j z hz
   obtain ⟨z0, h3, h4, _⟩ := hnode j z hz
   exact h4.ok (h.pages j z0 h3)
end
section
open Go.RowKit Go.Maps
variable {t : PT} {i : Int} {x x' : PN}
theorem set_ent (hx : t.n i = some x) (hl : x'.l = x.l) (a : Int) (q : List UInt8) (v : Int) : Ent (t.set i x') a q v ↔ Ent t a q v := by
 unfold Ent
 rw [PT.set_n]
 by_cases h : a = i
 · subst h
   rw [if_pos rfl, hx]
   constructor
   · rintro ⟨z, hz, hv⟩
     cases hz
     exact ⟨x, rfl, by rw [← hl]; exact hv⟩
   · rintro ⟨z, hz, hv⟩
     cases hz
     exact ⟨x', rfl, by rw [hl]; exact hv⟩
 · rw [if_neg h]
theorem WellP.put (h : WellP t) (hx : t.n i = some x) (hk : x'.kind = x.kind) (hl : x'.l = x.l) (hn : x'.links = x.links) (hu : x'.up = x.up)
  (hh : 0 ≤ x'.held) (hd : x.kind = 2 → x'.held = 0) (ht : x.kind = 1 → x.links = 0 → 0 < x'.held) (hp : PagesOk x') : WellP (t.set i x') := by
 have hE := fun a q v => set_ent (t := t) (x := x) (x' := x') hx hl a q v
 have hnode : ∀ j z, (t.set i x').n j = some z → ∃ z0, t.n j = some z0 ∧ z.kind = z0.kind ∧ z.up = z0.up ∧ z.links = z0.links ∧ z.l = z0.l ∧ (j = i ∧ z = x' ∧ z0 = x ∨ z = z0) := fun j z hz => by
  rw [PT.set_n] at hz
  by_cases e : j = i
  · subst e
    rw [if_pos rfl] at hz
    cases hz
    exact ⟨x, hx, hk, hu, hn, hl, .inl ⟨rfl, rfl, rfl⟩⟩
  · rw [if_neg e] at hz
    exact ⟨z, hz, rfl, rfl, rfl, rfl, .inr rfl⟩
 have hkeep : ∀ j z0, t.n j = some z0 → ∃ z, (t.set i x').n j = some z ∧ z.kind = z0.kind ∧ z.up = z0.up := fun j z0 hz => by
  rw [PT.set_n]
  by_cases e : j = i
  · subst e
    rw [hx] at hz
    cases hz
    exact ⟨x', if_pos rfl, hk, hu⟩
  · exact ⟨z0, by rw [if_neg e]; exact hz, rfl, rfl⟩
 refine ⟨h.room, ?_, ?_, ?_, ?_, ?_, ?_, ?_, ?_, ?_, ?_, ?_, ?_, ?_⟩
 · obtain ⟨z, hz, hzk, hzu⟩ := h.root
   obtain ⟨z1, h1, h2, h3⟩ := hkeep 1 z hz
   exact ⟨z1, h1, h2.trans hzk, h3.trans hzu⟩
 · intro j z hz
   obtain ⟨z0, h3, _⟩ := hnode j z hz
   exact h.range j z0 h3
 · intro j z hz
   obtain ⟨z0, h3, h4, _⟩ := hnode j z hz
   rw [h4]; exact h.kind j z0 h3
 · intro d' y k v hd' hl'
   obtain ⟨z0, h3, h4, _, _, h5, _⟩ := hnode d' y hd'
   rw [h5] at hl'
   obtain ⟨g1, g2, g3, y2, g4, g5⟩ := h.ent d' z0 k v h3 hl'
   obtain ⟨z, hz, hzk, hzu⟩ := hkeep v y2 g4
   exact ⟨h4.trans g1, g2, g3, z, hz, fun hk2 => hzu.trans (g5 (hzk ▸ hk2))⟩
 · intro d' k k' v z e1 e2 hz hk2
   obtain ⟨z0, h3, h4, _⟩ := hnode v z hz
   exact h.one d' k k' v z0 ((hE _ _ _).1 e1) ((hE _ _ _).1 e2) h3 (h4 ▸ hk2)
 · intro j z hz hk2 hj
   obtain ⟨z0, h3, h4, h5, _⟩ := hnode j z hz
   obtain ⟨k, hen⟩ := h.up j z0 h3 (h4 ▸ hk2) hj
   exact ⟨k, (hE _ _ _).2 (by rw [h5]; exact hen)⟩
 · obtain ⟨r, hr⟩ := h.rank
   refine ⟨r, fun j z hz hk2 hu2 => ?_⟩
   obtain ⟨z0, h3, h4, h5, _⟩ := hnode j z hz
   rw [h5]
   exact hr j z0 h3 (h4 ▸ hk2) (h5 ▸ hu2)
 · intro j z hz hk2
   obtain ⟨z0, h3, h4, _, h6, _⟩ := hnode j z hz
   obtain ⟨L, n1, n2, n3⟩ := h.links j z0 h3 (h4 ▸ hk2)
   exact ⟨L, n1, fun p => by rw [n2, hE], n3.trans h6.symm⟩
 · intro j z hz
   obtain ⟨z0, h3, _, _, h6, _⟩ := hnode j z hz
   rw [h6]; exact h.most j z0 h3
 · intro j z hz hk2
   obtain ⟨z0, h3, h4, _, h6, _, h7⟩ := hnode j z hz
   obtain ⟨a, b⟩ := h.dirs j z0 h3 (h4 ▸ hk2)
   refine ⟨h6.trans a, ?_⟩
   rcases h7 with ⟨_, e1, e2⟩ | e
   · rw [e1]; exact hd (by rw [← e2, ← h4]; exact hk2)
   · rw [e]; exact b
 · intro j z hz
   obtain ⟨z0, h3, _, _, _, _, h7⟩ := hnode j z hz
   rcases h7 with ⟨_, e1, _⟩ | e
   · rw [e1]; exact hh
   · rw [e]; exact h.held j z0 h3
 · intro j z hz hk2 hz0
   obtain ⟨z0, h3, h4, _, h6, _, h7⟩ := hnode j z hz
   rcases h7 with ⟨_, e1, e2⟩ | e
   · rw [e1]; exact ht (by rw [← e2, ← h4]; exact hk2) (by rw [← e2, ← h6]; exact hz0)
   · rw [e]; exact h.there j z0 h3 (h4 ▸ hk2) (h6 ▸ hz0)
 · intro j z hz
   obtain ⟨z0, h3, _, _, _, _, h7⟩ := hnode j z hz
   rcases h7 with ⟨_, e1, _⟩ | e
   · rw [e1]; exact hp
   · rw [e]; exact h.pages j z0 h3
end
section
open Go.RowKit Go.Maps
variable {t : PT} {d i : Int} {s : ByteArray} {x y : PN}
theorem enter_n (j : Int) : (enterT t d x s i y).n j = if j = i then some (inN y d) else if j = d then some { x with l := updL x.l s.data.toList i } else t.n j := by
 unfold enterT
 rw [PT.set_n, PT.set_n]
theorem enter_ent (hne : i ≠ d) (hd : t.n d = some x) (hi : t.n i = some y) (a : Int) (q : List UInt8) (v : Int) :
  Ent (enterT t d x s i y) a q v ↔ (if a = d ∧ q = s.data.toList then v = i else Ent t a q v) := by
 unfold Ent
 rw [enter_n]
 have ho : (inN y d).l = y.l := by unfold inN; split <;> rfl
 by_cases h1 : a = i
 · subst h1
   rw [if_pos rfl, if_neg (fun h => hne h.1), hi]
   constructor
   · rintro ⟨z, hz, hl⟩
     cases hz
     exact ⟨y, rfl, by rw [← ho]; exact hl⟩
   · rintro ⟨z, hz, hl⟩
     cases hz
     exact ⟨_, rfl, by rw [ho]; exact hl⟩
 · rw [if_neg h1]
   by_cases h2 : a = d
   · subst h2
     rw [if_pos rfl, hd]
     by_cases h3 : q = s.data.toList
     · rw [if_pos ⟨rfl, h3⟩]
       constructor
       · rintro ⟨z, hz, hl⟩
         cases hz
         have hl' : (if q = s.data.toList then some i else x.l q) = some v := hl
         rw [if_pos h3] at hl'
         injection hl' with e
         exact e.symm
       · rintro rfl
         exact ⟨_, rfl, by show (if q = s.data.toList then some v else x.l q) = some v; rw [if_pos h3]⟩
     · rw [if_neg (fun h => h3 h.2)]
       constructor
       · rintro ⟨z, hz, hl⟩
         cases hz
         have hl' : (if q = s.data.toList then some i else x.l q) = some v := hl
         rw [if_neg h3] at hl'
         exact ⟨x, rfl, hl'⟩
       · rintro ⟨z, hz, hl⟩
         cases hz
         exact ⟨_, rfl, by show (if q = s.data.toList then some i else x.l q) = some v; rw [if_neg h3]; exact hl⟩
   · rw [if_neg h2, if_neg (fun h => h2 h.1)]
theorem WellP.link (h : WellP t) (hd : t.n d = some x) (hxk : x.kind = 2) (hl : x.l s.data.toList = none) (hi : t.n i = some y) (hyk : y.kind = 1) (hm : y.links < 1000000) : WellP (enterT t d x s i y) := by
 have hid : i ≠ d := fun e => by subst e; rw [hd] at hi; cases hi; omega
 have hi1 : i ≠ 1 := fun e => by
  obtain ⟨z, hz, hzk, _⟩ := h.root
  rw [← e, hi] at hz; cases hz; omega
 have hE := fun a q v => enter_ent (s := s) hid hd hi a q v
 have hfree : ∀ v, ¬ Ent t d s.data.toList v := fun v ⟨z, hz, hv⟩ => by rw [hd] at hz; cases hz; rw [hl] at hv; cases hv
 have hnew : Ent (enterT t d x s i y) d s.data.toList i := (hE _ _ _).2 (by rw [if_pos ⟨rfl, rfl⟩])
 have hold : ∀ a q v, Ent t a q v → Ent (enterT t d x s i y) a q v := fun a q v e => (hE _ _ _).2 (by
  split
  · rename_i hc; rw [hc.1, hc.2] at e; exact absurd e (hfree v)
  · exact e)
 have hpart : ∀ a q v, Ent (enterT t d x s i y) a q v → Ent t a q v ∨ (a = d ∧ q = s.data.toList ∧ v = i) := fun a q v e => by
  have := (hE _ _ _).1 e
  split at this
  · rename_i hc; exact .inr ⟨hc.1, hc.2, this⟩
  · exact .inl this
 have hin : inN y d = { y with links := y.links + 1 } := by unfold inN; rw [if_neg (by omega)]
 have hnode : ∀ j z, (enterT t d x s i y).n j = some z → ∃ z0, t.n j = some z0 ∧ Like z z0 ∧ (j ≠ i → z.links = z0.links) ∧ (j = i → z.links = z0.links + 1 ∧ z0 = y) := fun j z hz => by
  rw [enter_n] at hz
  by_cases h1 : j = i
  · subst h1
    rw [if_pos rfl, hin] at hz
    cases hz
    exact ⟨y, hi, ⟨rfl, rfl, rfl, rfl, rfl⟩, fun e => absurd rfl e, fun _ => ⟨rfl, rfl⟩⟩
  · rw [if_neg h1] at hz
    by_cases h2 : j = d
    · subst h2
      rw [if_pos rfl] at hz
      cases hz
      exact ⟨x, hd, ⟨rfl, rfl, rfl, rfl, rfl⟩, fun _ => rfl, fun e => absurd e h1⟩
    · rw [if_neg h2] at hz
      exact ⟨z, hz, ⟨rfl, rfl, rfl, rfl, rfl⟩, fun _ => rfl, fun e => absurd e h1⟩
 have hkeep : ∀ j z0, t.n j = some z0 → ∃ z, (enterT t d x s i y).n j = some z ∧ z.kind = z0.kind ∧ z.up = z0.up := fun j z0 hz => by
  rw [enter_n]
  by_cases h1 : j = i
  · subst h1
    rw [hi] at hz
    cases hz
    exact ⟨_, if_pos rfl, by rw [hin], by rw [hin]⟩
  · rw [if_neg h1]
    by_cases h2 : j = d
    · subst h2
      rw [hd] at hz
      cases hz
      exact ⟨_, if_pos rfl, rfl, rfl⟩
    · exact ⟨z0, by rw [if_neg h2]; exact hz, rfl, rfl⟩
 refine ⟨h.room, ?_, ?_, ?_, ?_, ?_, ?_, ?_, ?_, ?_, ?_, ?_, ?_, ?_⟩
 · obtain ⟨z, hz, hzk, hzu⟩ := h.root
   obtain ⟨z1, h1, h2, h3⟩ := hkeep 1 z hz
   exact ⟨z1, h1, h2.trans hzk, h3.trans hzu⟩
 · intro j z hz
   obtain ⟨z0, h3, _⟩ := hnode j z hz
   exact h.range j z0 h3
 · intro j z hz
   obtain ⟨z0, h3, h4, _⟩ := hnode j z hz
   rw [h4.kind]; exact h.kind j z0 h3
 · intro d' y' k v hd' hl'
   obtain ⟨z0, h3, h4, _⟩ := hnode d' y' hd'
   rcases hpart d' k v ⟨y', hd', hl'⟩ with ⟨w, hw, hwl⟩ | ⟨e1, e2, e3⟩
   · rw [h3] at hw
     cases hw
     obtain ⟨g1, g2, g3, y2, g4, g5⟩ := h.ent d' z0 k v h3 hwl
     obtain ⟨z, hz, hzk, hzu⟩ := hkeep v y2 g4
     exact ⟨h4.kind.trans g1, g2, g3, z, hz, fun hk2 => hzu.trans (g5 (hzk ▸ hk2))⟩
   · subst e1; subst e3
     rw [hd] at h3
     cases h3
     obtain ⟨z, hz, hzk, _⟩ := hkeep v y hi
     exact ⟨h4.kind.trans hxk, hi1, hid, z, hz, fun hk2 => by rw [hzk, hyk] at hk2; omega⟩
 · intro d' k k' v z e1 e2 hz hk2
   obtain ⟨z0, h3, h4, _, h6⟩ := hnode v z hz
   have hvi : v ≠ i := fun e => by have := (h6 e).2; subst this; rw [h4.kind] at hk2; omega
   rcases hpart _ _ _ e1 with e1 | e1
   · rcases hpart _ _ _ e2 with e2 | e2
     · exact h.one d' k k' v z0 e1 e2 h3 (h4.kind ▸ hk2)
     · exact absurd e2.2.2 hvi
   · exact absurd e1.2.2 hvi
 · intro j z hz hk2 hj
   obtain ⟨z0, h3, h4, _⟩ := hnode j z hz
   obtain ⟨k, hen⟩ := h.up j z0 h3 (h4.kind ▸ hk2) hj
   exact ⟨k, hold _ _ _ (by rw [h4.up]; exact hen)⟩
 · obtain ⟨r, hr⟩ := h.rank
   refine ⟨r, fun j z hz hk2 hu2 => ?_⟩
   obtain ⟨z0, h3, h4, _⟩ := hnode j z hz
   rw [h4.up]
   exact hr j z0 h3 (h4.kind ▸ hk2) (h4.up ▸ hu2)
 · intro j z hz hk2
   obtain ⟨z0, h3, h4, h5, h6⟩ := hnode j z hz
   obtain ⟨L, n1, n2, n3⟩ := h.links j z0 h3 (h4.kind ▸ hk2)
   by_cases hj : j = i
   · obtain ⟨q1, q2⟩ := h6 hj
     subst hj
     refine ⟨(d, s.data.toList) :: L, List.nodup_cons.2 ⟨fun hm => hfree _ ((n2 _).1 hm), n1⟩, fun p => ?_, ?_⟩
     · rw [List.mem_cons, n2]
       constructor
       · rintro (e | e)
         · rw [e]; exact hnew
         · exact hold _ _ _ e
       · intro e
         rcases hpart _ _ _ e with e | ⟨e1, e2, _⟩
         · exact .inr e
         · exact .inl (Prod.ext e1 e2)
     · rw [q1, ← n3]
       simp
   · refine ⟨L, n1, fun p => ?_, n3.trans (h5 hj).symm⟩
     rw [n2]
     exact ⟨hold _ _ _, fun e => (hpart _ _ _ e).resolve_right (fun c => hj c.2.2)⟩
 · intro j z hz
   obtain ⟨z0, h3, h4, h5, h6⟩ := hnode j z hz
   have := h.most j z0 h3
   by_cases hj : j = i
   · obtain ⟨q1, q2⟩ := h6 hj
     subst q2
     omega
   · rw [h5 hj]; exact this
 · intro j z hz hk2
   obtain ⟨z0, h3, h4, h5, h6⟩ := hnode j z hz
   have hj : j ≠ i := fun e => by have := (h6 e).2; subst this; rw [h4.kind] at hk2; omega
   obtain ⟨a, b⟩ := h.dirs j z0 h3 (h4.kind ▸ hk2)
   exact ⟨(h5 hj).trans a, h4.held.trans b⟩
 · intro j z hz
   obtain ⟨z0, h3, h4, _⟩ := hnode j z hz
   rw [h4.held]; exact h.held j z0 h3
 · intro j z hz hk2 hz0
   obtain ⟨z0, h3, h4, h5, h6⟩ := hnode j z hz
   by_cases hj : j = i
   · obtain ⟨q1, q2⟩ := h6 hj
     have := (h.most j z0 h3).1
     omega
   · rw [h4.held]
     exact h.there j z0 h3 (h4.kind ▸ hk2) ((h5 hj) ▸ hz0)
 · intro j z hz
   obtain ⟨z0, h3, h4, _⟩ := hnode j z hz
   exact h4.ok (h.pages j z0 h3)
end
section
open Go.RowKit Go.Maps
variable {t : PT} {d i : Int} {s : ByteArray} {x : PN}
theorem WellP.mkdir (h : WellP t) (hd : t.n d = some x) (hxk : x.kind = 2) (hl : x.l s.data.toList = none) (hi : t.n i = none) (hr1 : 1 ≤ i ∧ i ≤ t.room) : WellP (enterT (t.set i (newN 2)) d x s i (newN 2)) := by
 have hid : i ≠ d := fun e => by subst e; rw [hd] at hi; cases hi
 have hi1 : i ≠ 1 := fun e => by
  obtain ⟨z, hz, _⟩ := h.root
  rw [← e, hi] at hz; cases hz
 have hd' : (t.set i (newN 2)).n d = some x := by rw [PT.set_n, if_neg (fun e => hid e.symm)]; exact hd
 have hi' : (t.set i (newN 2)).n i = some (newN 2) := by rw [PT.set_n, if_pos rfl]
 have hno : ∀ k v, ¬ Ent t i k v := fun k v ⟨z, hz, _⟩ => by rw [hi] at hz; cases hz
 have hno2 : ∀ a k, ¬ Ent t a k i := fun a k ⟨z, hz, hv⟩ => by
  obtain ⟨_, _, _, y, hy, _⟩ := h.ent a z k i hz hv
  rw [hi] at hy; cases hy
 have hfree : ∀ v, ¬ Ent t d s.data.toList v := fun v ⟨z, hz, hv⟩ => by rw [hd] at hz; cases hz; rw [hl] at hv; cases hv
 have h1e : ∀ a q v, Ent (t.set i (newN 2)) a q v ↔ Ent t a q v := fun a q v => by
  by_cases e : a = i
  · subst e
    constructor
    · rintro ⟨z, hz, hv⟩
      rw [hi'] at hz
      cases hz
      cases hv
    · intro c; exact absurd c (hno q v)
  · unfold Ent
    rw [PT.set_n, if_neg e]
 have hE := fun a q v => enter_ent (s := s) hid hd' hi' a q v
 have hnew : Ent (enterT (t.set i (newN 2)) d x s i (newN 2)) d s.data.toList i := (hE _ _ _).2 (by rw [if_pos ⟨rfl, rfl⟩])
 have hold : ∀ a q v, Ent t a q v → Ent (enterT (t.set i (newN 2)) d x s i (newN 2)) a q v := fun a q v e => (hE _ _ _).2 (by
  split
  · rename_i hc; rw [hc.1, hc.2] at e; exact absurd e (hfree v)
  · exact (h1e _ _ _).2 e)
 have hpart : ∀ a q v, Ent (enterT (t.set i (newN 2)) d x s i (newN 2)) a q v → Ent t a q v ∨ (a = d ∧ q = s.data.toList ∧ v = i) := fun a q v e => by
  have := (hE _ _ _).1 e
  split at this
  · rename_i hc; exact .inr ⟨hc.1, hc.2, this⟩
  · exact .inl ((h1e _ _ _).1 this)
 have hnode : ∀ j z, (enterT (t.set i (newN 2)) d x s i (newN 2)).n j = some z → (j = i ∧ z = { newN 2 with up := d }) ∨ (j ≠ i ∧ ∃ z0, t.n j = some z0 ∧ Like z z0 ∧ z.links = z0.links) := fun j z hz => by
  rw [enter_n] at hz
  by_cases h1 : j = i
  · rw [if_pos h1] at hz
    have e : inN (newN 2) d = { newN 2 with up := d } := rfl
    rw [e] at hz
    cases hz
    exact .inl ⟨h1, rfl⟩
  · rw [if_neg h1] at hz
    refine .inr ⟨h1, ?_⟩
    by_cases h2 : j = d
    · subst h2
      rw [if_pos rfl] at hz
      cases hz
      exact ⟨x, hd, ⟨rfl, rfl, rfl, rfl, rfl⟩, rfl⟩
    · rw [if_neg h2, PT.set_n, if_neg h1] at hz
      exact ⟨z, hz, ⟨rfl, rfl, rfl, rfl, rfl⟩, rfl⟩
 have hni : (enterT (t.set i (newN 2)) d x s i (newN 2)).n i = some { newN 2 with up := d } := by rw [enter_n, if_pos rfl]; rfl
 have hkeep : ∀ j z0, t.n j = some z0 → ∃ z, (enterT (t.set i (newN 2)) d x s i (newN 2)).n j = some z ∧ z.kind = z0.kind ∧ z.up = z0.up := fun j z0 hz => by
  have h1 : j ≠ i := fun e => by subst e; rw [hi] at hz; cases hz
  rw [enter_n, if_neg h1]
  by_cases h2 : j = d
  · subst h2
    rw [hd] at hz
    cases hz
    exact ⟨_, if_pos rfl, rfl, rfl⟩
  · exact ⟨z0, by rw [if_neg h2, PT.set_n, if_neg h1]; exact hz, rfl, rfl⟩
 refine ⟨h.room, ?_, ?_, ?_, ?_, ?_, ?_, ?_, ?_, ?_, ?_, ?_, ?_, ?_⟩
 · obtain ⟨z, hz, hzk, hzu⟩ := h.root
   obtain ⟨z1, h1, h2, h3⟩ := hkeep 1 z hz
   exact ⟨z1, h1, h2.trans hzk, h3.trans hzu⟩
 · intro j z hz
   rcases hnode j z hz with ⟨e, _⟩ | ⟨_, z0, h3, _⟩
   · subst e; exact hr1
   · exact h.range j z0 h3
 · intro j z hz
   rcases hnode j z hz with ⟨_, e⟩ | ⟨_, z0, h3, h4, _⟩
   · subst e; exact .inr rfl
   · rw [h4.kind]; exact h.kind j z0 h3
 · intro d' y' k v hdy hly
   rcases hpart d' k v ⟨y', hdy, hly⟩ with ⟨w, hw, hwl⟩ | ⟨e1, e2, e3⟩
   · obtain ⟨g1, g2, g3, y2, g4, g5⟩ := h.ent d' w k v hw hwl
     obtain ⟨z, hz, hzk, hzu⟩ := hkeep v y2 g4
     obtain ⟨z2, hz2, hzk2, _⟩ := hkeep d' w hw
     rw [hdy] at hz2
     cases hz2
     exact ⟨hzk2.trans g1, g2, g3, z, hz, fun hk2 => hzu.trans (g5 (hzk ▸ hk2))⟩
   · subst e1; subst e3
     obtain ⟨z2, hz2, hzk2, _⟩ := hkeep d' x hd
     rw [hdy] at hz2
     cases hz2
     exact ⟨hzk2.trans hxk, hi1, hid, _, hni, fun _ => rfl⟩
 · intro d' k k' v z e1 e2 hz hk2
   rcases hpart _ _ _ e1 with e1 | e1
   · rcases hpart _ _ _ e2 with e2 | e2
     · rcases hnode v z hz with ⟨e, _⟩ | ⟨_, z0, h3, h4, _⟩
       · rw [e] at e1; exact absurd e1 (hno2 _ _)
       · exact h.one d' k k' v z0 e1 e2 h3 (h4.kind ▸ hk2)
     · rw [e2.2.2] at e1; exact absurd e1 (hno2 _ _)
   · rcases hpart _ _ _ e2 with e2 | e2
     · rw [e1.2.2] at e2; exact absurd e2 (hno2 _ _)
     · exact e1.2.1.trans e2.2.1.symm
 · intro j z hz hk2 hj
   rcases hnode j z hz with ⟨e, e2⟩ | ⟨_, z0, h3, h4, _⟩
   · subst e; subst e2
     exact ⟨_, hnew⟩
   · obtain ⟨k, hen⟩ := h.up j z0 h3 (h4.kind ▸ hk2) hj
     exact ⟨k, hold _ _ _ (by rw [h4.up]; exact hen)⟩
 · obtain ⟨r, hr⟩ := h.rank
   refine ⟨fun j => if j = i then r d + 1 else r j, fun j z hz hk2 hu2 => ?_⟩
   rcases hnode j z hz with ⟨e, e2⟩ | ⟨hj, z0, h3, h4, _⟩
   · subst e; subst e2
     show (if d = j then r d + 1 else r d) < (if j = j then r d + 1 else r j)
     rw [if_neg (fun c => hid c.symm), if_pos rfl]
     omega
   · have hr2 := hr j z0 h3 (h4.kind ▸ hk2) (h4.up ▸ hu2)
     have hj1 : j ≠ 1 := fun c => by
      subst c
      obtain ⟨q, hq, _, hq0⟩ := h.root
      rw [h3] at hq; cases hq
      exact hu2 (h4.up.trans hq0)
     obtain ⟨k, p, hp, _⟩ := h.up j z0 h3 (h4.kind ▸ hk2) hj1
     have hui : z0.up ≠ i := fun c => by rw [c, hi] at hp; cases hp
     show (if z.up = i then r d + 1 else r z.up) < (if j = i then r d + 1 else r j)
     rw [h4.up, if_neg hui, if_neg hj]
     exact hr2
 · intro j z hz hk2
   rcases hnode j z hz with ⟨_, e⟩ | ⟨hj, z0, h3, h4, h5⟩
   · subst e; cases hk2
   · obtain ⟨L, n1, n2, n3⟩ := h.links j z0 h3 (h4.kind ▸ hk2)
     refine ⟨L, n1, fun p => ?_, n3.trans h5.symm⟩
     rw [n2]
     exact ⟨hold _ _ _, fun e => (hpart _ _ _ e).resolve_right (fun c => hj c.2.2)⟩
 · intro j z hz
   rcases hnode j z hz with ⟨_, e⟩ | ⟨hj, z0, h3, h4, h5⟩
   · subst e; show (0 : Int) ≤ 1 ∧ (1 : Int) ≤ 1000000; decide
   · rw [h5]; exact h.most j z0 h3
 · intro j z hz hk2
   rcases hnode j z hz with ⟨_, e⟩ | ⟨hj, z0, h3, h4, h5⟩
   · subst e; exact ⟨rfl, rfl⟩
   · obtain ⟨a, b⟩ := h.dirs j z0 h3 (h4.kind ▸ hk2)
     exact ⟨h5.trans a, h4.held.trans b⟩
 · intro j z hz
   rcases hnode j z hz with ⟨_, e⟩ | ⟨hj, z0, h3, h4, h5⟩
   · subst e; exact Int.le_refl _
   · rw [h4.held]; exact h.held j z0 h3
 · intro j z hz hk2 hz0
   rcases hnode j z hz with ⟨_, e⟩ | ⟨hj, z0, h3, h4, h5⟩
   · subst e; cases hk2
   · rw [h4.held]
     exact h.there j z0 h3 (h4.kind ▸ hk2) (h5 ▸ hz0)
 · intro j z hz
   rcases hnode j z hz with ⟨_, e⟩ | ⟨hj, z0, h3, h4, h5⟩
   · subst e; exact ⟨fun p b hb => (by cases hb), by show (0 : Int) ≤ 0 ∧ (0 : Int) ≤ 2304; decide⟩
   · exact h4.ok (h.pages j z0 h3)
end
section
open Go.RowKit Go.Maps
variable {t : PT} {i : Int}
theorem WellP.new (n : Int) (h1 : 2 ≤ n) (h2 : n ≤ 256) : WellP (newT n) := by
 have hn : ∀ j z, (newT n).n j = some z → j = 1 ∧ z = newN 2 := fun j z hz => by
  have hz' : (if j = 1 then some (newN 2) else none) = some z := hz
  split at hz'
  · rename_i e; cases hz'; exact ⟨e, rfl⟩
  · cases hz'
 have hno : ∀ d x k v, (newT n).n d = some x → ¬ x.l k = some v := fun d x k v hd hl => by
  obtain ⟨_, e⟩ := hn d x hd
  subst e; cases hl
 refine ⟨⟨h1, h2⟩, ⟨newN 2, rfl, rfl, rfl⟩, ?_, ?_, ?_, ?_, ?_, ?_, ?_, ?_, ?_, ?_, ?_, ?_⟩
 · intro j z hz
   obtain ⟨e, _⟩ := hn j z hz
   subst e
   show (1 : Int) ≤ 1 ∧ (1 : Int) ≤ n
   omega
 · intro j z hz
   obtain ⟨_, e⟩ := hn j z hz
   subst e; exact .inr rfl
 · intro d x k v hd hl
   exact absurd hl (hno d x k v hd)
 · rintro d k k' v y ⟨x, hx, hl⟩
   exact absurd hl (hno d x k v hx)
 · intro j z hz _ hj
   exact absurd (hn j z hz).1 hj
 · refine ⟨fun _ => 0, fun j z hz _ hu => ?_⟩
   obtain ⟨_, e⟩ := hn j z hz
   subst e; exact absurd rfl hu
 · intro j z hz hk
   obtain ⟨_, e⟩ := hn j z hz
   subst e; cases hk
 · intro j z hz
   obtain ⟨_, e⟩ := hn j z hz
   subst e; decide
 · intro j z hz _
   obtain ⟨_, e⟩ := hn j z hz
   subst e; exact ⟨rfl, rfl⟩
 · intro j z hz
   obtain ⟨_, e⟩ := hn j z hz
   subst e; decide
 · intro j z hz hk
   obtain ⟨_, e⟩ := hn j z hz
   subst e; cases hk
 · intro j z hz
   obtain ⟨_, e⟩ := hn j z hz
   subst e; exact ⟨fun p b hb => (by cases hb), by decide⟩
theorem WellP.fresh (h : WellP t) (hi : t.n i = none) (hr1 : 1 ≤ i ∧ i ≤ t.room) : WellP (t.set i { newN 1 with held := 1 }) := by
 have hi1 : i ≠ 1 := fun e => by
  obtain ⟨z, hz, _⟩ := h.root
  rw [← e, hi] at hz; cases hz
 have hnode : ∀ j z, (t.set i { newN 1 with held := 1 }).n j = some z → (j = i ∧ z = { newN 1 with held := 1 }) ∨ (j ≠ i ∧ t.n j = some z) := fun j z hz => by
  rw [PT.set_n] at hz
  by_cases e : j = i
  · rw [if_pos e] at hz
    cases hz
    exact .inl ⟨e, rfl⟩
  · rw [if_neg e] at hz
    exact .inr ⟨e, hz⟩
 have hkeep : ∀ j z, t.n j = some z → (t.set i { newN 1 with held := 1 }).n j = some z := fun j z hz => by
  rw [PT.set_n, if_neg (fun e => by rw [e, hi] at hz; cases hz)]
  exact hz
 have hE : ∀ a q v, Ent (t.set i { newN 1 with held := 1 }) a q v ↔ Ent t a q v := fun a q v => by
  constructor
  · rintro ⟨z, hz, hv⟩
    rcases hnode a z hz with ⟨_, e⟩ | ⟨_, h3⟩
    · subst e; cases hv
    · exact ⟨z, h3, hv⟩
  · rintro ⟨z, hz, hv⟩
    exact ⟨z, hkeep a z hz, hv⟩
 refine ⟨h.room, ?_, ?_, ?_, ?_, ?_, ?_, ?_, ?_, ?_, ?_, ?_, ?_, ?_⟩
 · obtain ⟨z, hz, r⟩ := h.root
   exact ⟨z, hkeep 1 z hz, r⟩
 · intro j z hz
   rcases hnode j z hz with ⟨e, _⟩ | ⟨_, h3⟩
   · subst e; exact hr1
   · exact h.range j z h3
 · intro j z hz
   rcases hnode j z hz with ⟨_, e⟩ | ⟨_, h3⟩
   · subst e; exact .inl rfl
   · exact h.kind j z h3
 · intro d x k v hd hl
   rcases hnode d x hd with ⟨_, e⟩ | ⟨_, h3⟩
   · subst e; cases hl
   · obtain ⟨g1, g2, g3, y, g4, g5⟩ := h.ent d x k v h3 hl
     exact ⟨g1, g2, g3, y, hkeep v y g4, g5⟩
 · intro d k k' v y e1 e2 hy hk
   rcases hnode v y hy with ⟨_, e⟩ | ⟨_, h3⟩
   · subst e; cases hk
   · exact h.one d k k' v y ((hE _ _ _).1 e1) ((hE _ _ _).1 e2) h3 hk
 · intro j z hz hk hj
   rcases hnode j z hz with ⟨_, e⟩ | ⟨_, h3⟩
   · subst e; cases hk
   · obtain ⟨k, hen⟩ := h.up j z h3 hk hj
     exact ⟨k, (hE _ _ _).2 hen⟩
 · obtain ⟨r, hr⟩ := h.rank
   refine ⟨r, fun j z hz hk hu => ?_⟩
   rcases hnode j z hz with ⟨_, e⟩ | ⟨_, h3⟩
   · subst e; cases hk
   · exact hr j z h3 hk hu
 · intro j z hz hk
   rcases hnode j z hz with ⟨e, e2⟩ | ⟨_, h3⟩
   · subst e2
     refine ⟨[], List.nodup_nil, fun p => ⟨fun c => (by cases c), fun c => ?_⟩, rfl⟩
     obtain ⟨z, hz2, hv⟩ := (hE _ _ _).1 c
     obtain ⟨_, _, _, y, hy, _⟩ := h.ent _ z _ j hz2 hv
     rw [e, hi] at hy; cases hy
   · obtain ⟨L, n1, n2, n3⟩ := h.links j z h3 hk
     exact ⟨L, n1, fun p => by rw [n2, hE], n3⟩
 · intro j z hz
   rcases hnode j z hz with ⟨_, e⟩ | ⟨_, h3⟩
   · subst e; decide
   · exact h.most j z h3
 · intro j z hz hk
   rcases hnode j z hz with ⟨_, e⟩ | ⟨_, h3⟩
   · subst e; cases hk
   · exact h.dirs j z h3 hk
 · intro j z hz
   rcases hnode j z hz with ⟨_, e⟩ | ⟨_, h3⟩
   · subst e; decide
   · exact h.held j z h3
 · intro j z hz hk h0
   rcases hnode j z hz with ⟨_, e⟩ | ⟨_, h3⟩
   · subst e; decide
   · exact h.there j z h3 hk h0
 · intro j z hz
   rcases hnode j z hz with ⟨_, e⟩ | ⟨_, h3⟩
   · subst e; exact ⟨fun p b hb => (by cases hb), by decide⟩
   · exact h.pages j z h3
end
section
open Go.RowKit Go.Maps
variable {t : PT} {a b i : Int} {s s2 : ByteArray} {xa xb y : PN}
theorem leave_ent (hne : i ≠ a) (hd : t.n a = some xa) (hi : t.n i = some y) (p : Int) (q : List UInt8) (v : Int) :
  Ent (leaveT t a xa s i y) p q v ↔ Ent t p q v ∧ ¬ (p = a ∧ q = s.data.toList) := by
 unfold Ent
 rw [leave_n hne]
 have ho : (outN y).l = y.l := by unfold outN; split <;> rfl
 by_cases h1 : p = a
 · subst h1
   rw [if_pos rfl, hd]
   constructor
   · rintro ⟨z, hz, hl⟩
     cases hz
     have hl' : (if q = s.data.toList then none else xa.l q) = some v := hl
     split at hl'
     · cases hl'
     · rename_i hq
       exact ⟨⟨xa, rfl, hl'⟩, fun h => hq h.2⟩
   · rintro ⟨⟨z, hz, hl⟩, hn⟩
     cases hz
     refine ⟨_, rfl, ?_⟩
     show (if q = s.data.toList then none else xa.l q) = some v
     rw [if_neg (fun h => hn ⟨rfl, h⟩)]
     exact hl
 · rw [if_neg h1]
   by_cases h2 : p = i
   · subst h2
     rw [if_pos rfl, hi]
     constructor
     · rintro ⟨z, hz, hl⟩
       cases hz
       rw [ho] at hl
       exact ⟨⟨y, rfl, hl⟩, fun h => h1 h.1⟩
     · rintro ⟨⟨z, hz, hl⟩, _⟩
       cases hz
       exact ⟨_, rfl, by rw [ho]; exact hl⟩
   · rw [if_neg h2]
     exact ⟨fun h => ⟨h, fun g => h1 g.1⟩, fun h => h.1⟩
def Bel (t : PT) (i j : Int) : Prop := ∃ n, belowP t i n j = true
theorem bel_self (h : i ≠ 0) : Bel t i i := ⟨1, by unfold belowP; rw [if_neg h, if_pos rfl]⟩
theorem bel_up {j : Int} {z : PN} (hz : t.n j = some z) (h0 : j ≠ 0) (hj : j ≠ i) : Bel t i j ↔ Bel t i z.up := by
 have hu : upAt t j = z.up := by unfold upAt; rw [hz]
 constructor
 · rintro ⟨n, hn⟩
   cases n with
   | zero => cases hn
   | succ n =>
    unfold belowP at hn
    rw [if_neg h0, if_neg hj, hu] at hn
    exact ⟨n, hn⟩
 · rintro ⟨n, hn⟩
   refine ⟨n + 1, ?_⟩
   unfold belowP
   rw [if_neg h0, if_neg hj, hu]
   exact hn
theorem WellP.mvdir (h : WellP t) (ha : t.n a = some xa) (hl : xa.l s.data.toList = some i) (hi : t.n i = some y) (hk : y.kind = 2) (hb : t.n b = some xb) (hbk : xb.kind = 2) (hf : xb.l s2.data.toList = none) (hnb : ¬ Bel t i b) {xb3 : PN} (h3 : (leaveT t a xa s i y).n b = some xb3) :
  WellP (enterT (leaveT t a xa s i y) b xb3 s2 i (outN y)) := by
 obtain ⟨hak, hi1, hia, y', hy', hup⟩ := h.ent a xa _ i ha hl
 rw [hi] at hy'
 cases hy'
 have hi0 : i ≠ 0 := fun e => by have := (h.range i y hi).1; omega
 have hib : i ≠ b := fun e => hnb (e ▸ bel_self hi0)
 have hent : Ent t a s.data.toList i := ⟨xa, ha, hl⟩
 have hi3 : (leaveT t a xa s i y).n i = some (outN y) := by rw [leave_n hia, if_neg hia, if_pos rfl]
 have hio : inN (outN y) b = { y with up := b } := by unfold outN; rw [if_pos hk]; unfold inN; rw [if_pos hk]
 have hfree : ∀ v, ¬ Ent t b s2.data.toList v := fun v ⟨z, hz, hv⟩ => by rw [hb] at hz; cases hz; rw [hf] at hv; cases hv
 have hE := fun p q v => enter_ent (s := s2) hib h3 hi3 p q v
 have hL := fun p q v => leave_ent (s := s) hia ha hi p q v
 have hnew : Ent (enterT (leaveT t a xa s i y) b xb3 s2 i (outN y)) b s2.data.toList i := (hE _ _ _).2 (by rw [if_pos ⟨rfl, rfl⟩])
 have hold : ∀ p q v, Ent t p q v → ¬ (p = a ∧ q = s.data.toList) → Ent (enterT (leaveT t a xa s i y) b xb3 s2 i (outN y)) p q v := fun p q v e hn => (hE _ _ _).2 (by
  split
  · rename_i hc; rw [hc.1, hc.2] at e; exact absurd e (hfree v)
  · exact (hL _ _ _).2 ⟨e, hn⟩)
 have hpart : ∀ p q v, Ent (enterT (leaveT t a xa s i y) b xb3 s2 i (outN y)) p q v → (Ent t p q v ∧ ¬ (p = a ∧ q = s.data.toList)) ∨ (p = b ∧ q = s2.data.toList ∧ v = i) := fun p q v e => by
  have := (hE _ _ _).1 e
  split at this
  · rename_i hc; exact .inr ⟨hc.1, hc.2, this⟩
  · exact .inl ((hL _ _ _).1 this)
 have hx3 : Like xb3 xb ∧ xb3.links = xb.links := by
  have h4 := h3
  rw [leave_n hia] at h4
  by_cases e : b = a
  · rw [if_pos e] at h4
    cases h4
    rw [e, ha] at hb
    cases hb
    exact ⟨⟨rfl, rfl, rfl, rfl, rfl⟩, rfl⟩
  · rw [if_neg e, if_neg (fun c => hib c.symm), hb] at h4
    cases h4
    exact ⟨⟨rfl, rfl, rfl, rfl, rfl⟩, rfl⟩
 have hpair : ∀ j, j ≠ i → (∀ z, (enterT (leaveT t a xa s i y) b xb3 s2 i (outN y)).n j = some z → ∃ z0, t.n j = some z0 ∧ Like z z0 ∧ z.links = z0.links) ∧ (∀ z0, t.n j = some z0 → ∃ z, (enterT (leaveT t a xa s i y) b xb3 s2 i (outN y)).n j = some z) := fun j hj => by
  rw [enter_n, if_neg hj]
  by_cases e : j = b
  · rw [if_pos e]
    refine ⟨fun z hz => ?_, fun z0 _ => ⟨_, rfl⟩⟩
    cases hz
    exact ⟨xb, by rw [e]; exact hb, ⟨hx3.1.kind, hx3.1.up, hx3.1.held, hx3.1.size, hx3.1.pages⟩, hx3.2⟩
  · rw [if_neg e, leave_n hia]
    by_cases e2 : j = a
    · rw [if_pos e2]
      refine ⟨fun z hz => ?_, fun z0 _ => ⟨_, rfl⟩⟩
      cases hz
      exact ⟨xa, by rw [e2]; exact ha, ⟨rfl, rfl, rfl, rfl, rfl⟩, rfl⟩
    · rw [if_neg e2, if_neg hj]
      exact ⟨fun z hz => ⟨z, hz, ⟨rfl, rfl, rfl, rfl, rfl⟩, rfl⟩, fun z0 hz => ⟨z0, hz⟩⟩
 have hni : (enterT (leaveT t a xa s i y) b xb3 s2 i (outN y)).n i = some { y with up := b } := by rw [enter_n, if_pos rfl, hio]
 have hnode : ∀ j z, (enterT (leaveT t a xa s i y) b xb3 s2 i (outN y)).n j = some z → (j = i ∧ z = { y with up := b }) ∨ (j ≠ i ∧ ∃ z0, t.n j = some z0 ∧ Like z z0 ∧ z.links = z0.links) := fun j z hz => by
  by_cases e : j = i
  · rw [e, hni] at hz
    cases hz
    exact .inl ⟨e, rfl⟩
  · exact .inr ⟨e, (hpair j e).1 z hz⟩
 have hroom : (enterT (leaveT t a xa s i y) b xb3 s2 i (outN y)).room = t.room := rfl
 have hsame : ∀ j z, (enterT (leaveT t a xa s i y) b xb3 s2 i (outN y)).n j = some z → ∃ z0, t.n j = some z0 ∧ z.kind = z0.kind ∧ z.links = z0.links ∧ z.held = z0.held ∧ (PagesOk z0 → PagesOk z) := fun j z hz => by
  rcases hnode j z hz with ⟨e, e2⟩ | ⟨_, z0, g1, g2, g3⟩
  · rw [e, e2]
    exact ⟨y, hi, rfl, rfl, rfl, fun k => ⟨k.len, k.size⟩⟩
  · exact ⟨z0, g1, g2.kind, g3, g2.held, g2.ok⟩
 refine ⟨?_, ?_, ?_, ?_, ?_, ?_, ?_, ?_, ?_, ?_, ?_, ?_, ?_, ?_⟩
 · rw [hroom]; exact h.room
 · obtain ⟨z, hz, hzk, hzu⟩ := h.root
   obtain ⟨z1, h1⟩ := (hpair 1 (fun e => hi1 e.symm)).2 z hz
   obtain ⟨z0, h4, h5, _⟩ := (hpair 1 (fun e => hi1 e.symm)).1 z1 h1
   rw [hz] at h4
   cases h4
   exact ⟨z1, h1, h5.kind.trans hzk, h5.up.trans hzu⟩
 · intro j z hz
   obtain ⟨z0, g, _⟩ := hsame j z hz
   rw [hroom]; exact h.range j z0 g
 · intro j z hz
   obtain ⟨z0, g, g1, _⟩ := hsame j z hz
   rw [g1]; exact h.kind j z0 g
 · intro d x k v hd hv
   obtain ⟨x0, g, gk, _⟩ := hsame d x hd
   rcases hpart d k v ⟨x, hd, hv⟩ with ⟨⟨w, hw, hwl⟩, hno⟩ | ⟨e1, e2, e3⟩
   · rw [g] at hw
     cases hw
     obtain ⟨g1, g2, g3, y2, g4, g5⟩ := h.ent d x0 k v g hwl
     refine ⟨gk.trans g1, g2, g3, ?_⟩
     by_cases e : v = i
     · exfalso
       subst e
       have u1 := hup hk
       rw [hi] at g4
       cases g4
       have u2 := g5 hk
       rw [u1] at u2
       subst u2
       exact hno ⟨rfl, h.one a k _ v y ⟨x0, g, hwl⟩ hent hi hk⟩
     · obtain ⟨z, hz⟩ := (hpair v e).2 y2 g4
       obtain ⟨z0, q1, q2, _⟩ := (hpair v e).1 z hz
       rw [g4] at q1
       cases q1
       exact ⟨z, hz, fun hk2 => q2.up.trans (g5 (q2.kind ▸ hk2))⟩
   · subst e1; subst e3
     rw [hb] at g
     cases g
     exact ⟨gk.trans hbk, hi1, hib, _, hni, fun _ => rfl⟩
 · intro d k k' v z e1 e2 hz hk2
   have hone : ∀ q p, Ent t p q i → p = a ∧ q = s.data.toList := fun q p e => by
    obtain ⟨w, hw, hwl⟩ := e
    obtain ⟨_, _, _, y2, g4, g5⟩ := h.ent p w q i hw hwl
    rw [hi] at g4
    cases g4
    have u1 := hup hk
    have u2 := g5 hk
    rw [u1] at u2
    subst u2
    exact ⟨rfl, h.one a q _ i y ⟨w, hw, hwl⟩ hent hi hk⟩
   obtain ⟨z0, g, g1, _⟩ := hsame v z hz
   rcases hpart _ _ _ e1 with ⟨e1, n1⟩ | e1
   · rcases hpart _ _ _ e2 with ⟨e2, n2⟩ | e2
     · exact h.one d k k' v z0 e1 e2 g (g1 ▸ hk2)
     · rw [e2.2.2] at e1; exact absurd (hone _ _ e1) n1
   · rcases hpart _ _ _ e2 with ⟨e2, n2⟩ | e2
     · rw [e1.2.2] at e2; exact absurd (hone _ _ e2) n2
     · exact e1.2.1.trans e2.2.1.symm
 · intro j z hz hk2 hj
   rcases hnode j z hz with ⟨e, e2⟩ | ⟨hji, z0, g1, g2, _⟩
   · subst e; subst e2
     exact ⟨_, hnew⟩
   · obtain ⟨k, hen⟩ := h.up j z0 g1 (g2.kind ▸ hk2) hj
     refine ⟨k, hold _ _ _ (by rw [g2.up]; exact hen) ?_⟩
     rintro ⟨e1, e2⟩
     rw [g2.up] at e1
     rw [e1, e2] at hen
     exact hji (hen.fun_ hent)
 · obtain ⟨r, hr⟩ := h.rank
   classical
   refine ⟨fun j => if Bel t i j then r j + r b + 1 else r j, fun j z hz hk2 hu2 => ?_⟩
   rcases hnode j z hz with ⟨e, e2⟩ | ⟨hji, z0, g1, g2, _⟩
   · subst e; subst e2
     show (if Bel t j b then r b + r b + 1 else r b) < (if Bel t j j then r j + r b + 1 else r j)
     rw [if_neg hnb, if_pos (bel_self hi0)]
     omega
   · have hr2 := hr j z0 g1 (g2.kind ▸ hk2) (g2.up ▸ hu2)
     have hj0 : j ≠ 0 := fun e => by have := (h.range j z0 g1).1; omega
     have hbu := bel_up (i := i) g1 hj0 hji
     show (if Bel t i z.up then r z.up + r b + 1 else r z.up) < (if Bel t i j then r j + r b + 1 else r j)
     rw [g2.up]
     by_cases hB : Bel t i j
     · rw [if_pos hB, if_pos (hbu.1 hB)]
       omega
     · rw [if_neg hB, if_neg (fun c => hB (hbu.2 c))]
       exact hr2
 · intro j z hz hk2
   obtain ⟨z0, g, g1, g2, _⟩ := hsame j z hz
   obtain ⟨L, n1, n2, n3⟩ := h.links j z0 g (g1 ▸ hk2)
   have hji : j ≠ i := fun e => by rw [e, hi] at g; cases g; rw [g1] at hk2; omega
   refine ⟨L, n1, fun p => ?_, n3.trans g2.symm⟩
   rw [n2]
   refine ⟨fun e => hold _ _ _ e ?_, fun e => ((hpart _ _ _ e).resolve_right (fun c => hji c.2.2)).1⟩
   rintro ⟨e1, e2⟩
   rw [e1, e2] at e
   exact hji (e.fun_ hent)
 · intro j z hz
   obtain ⟨z0, g, _, g2, _⟩ := hsame j z hz
   rw [g2]; exact h.most j z0 g
 · intro j z hz hk2
   obtain ⟨z0, g, g1, g2, g3, _⟩ := hsame j z hz
   obtain ⟨q1, q2⟩ := h.dirs j z0 g (g1 ▸ hk2)
   exact ⟨g2.trans q1, g3.trans q2⟩
 · intro j z hz
   obtain ⟨z0, g, _, _, g3, _⟩ := hsame j z hz
   rw [g3]; exact h.held j z0 g
 · intro j z hz hk2 h0
   obtain ⟨z0, g, g1, g2, g3, _⟩ := hsame j z hz
   rw [g3]; exact h.there j z0 g (g1 ▸ hk2) (g2 ▸ h0)
 · intro j z hz
   obtain ⟨z0, g, _, _, _, g4⟩ := hsame j z hz
   exact g4 (h.pages j z0 g)
end
section
open Go.RowKit Go.Maps
variable {t : PT}
theorem WellP.dropP_ (h : WellP t) (dir : Int) (s : ByteArray) (q : PN → Int) (hq : ∀ x : PN, q x = 0 → x.kind = 2 → ∀ k, x.l k = none) : WellP (dropP t dir s q).2 := by
 unfold dropP
 by_cases h0 : (lookP t dir s).2 ≠ 0
 · rw [if_pos h0]; exact h
 · rw [if_neg h0]
   obtain ⟨xd, xi, h1, h2, h3, _⟩ := look_okP h.good (Decidable.not_not.1 h0)
   rw [h1, h3]
   simp only
   by_cases hz : q xi ≠ 0
   · rw [if_pos hz]; exact h
   · rw [if_neg hz]
     exact h.drop h1 h2 h3 (hq xi (Decidable.not_not.1 hz))
theorem WellP.unlinkP (h : WellP t) (dir : Int) (s : ByteArray) : WellP (dropP t dir s unlinkE).2 :=
 h.dropP_ dir s unlinkE fun x h0 hk => by
  unfold unlinkE at h0
  rw [hk] at h0
  simp at h0
theorem WellP.rmdirP (h : WellP t) (dir : Int) (s : ByteArray) : WellP (dropP t dir s rmdirE).2 :=
 h.dropP_ dir s rmdirE fun x h0 hk k => by
  unfold rmdirE at h0
  rw [hk] at h0
  cases he : emptyB x.l with
  | true => exact emptyB_iff.1 he k
  | false => rw [he] at h0; simp at h0
end
section
open Go.RowKit Go.Maps
variable {t : PT}
theorem WellP.free_of (h : WellP t) {d : Int} {x : PN} {s : ByteArray} (hd : t.n d = some x) (hf : freshE' t d s = 0) : x.l s.data.toList = none := by
 unfold freshE' at hf
 rw [hd] at hf
 simp only at hf
 unfold freshE at hf
 cases hl : x.l s.data.toList with
 | none => rfl
 | some v =>
  obtain ⟨_, _, _, y, hy, _⟩ := h.ent d x _ v hd hl
  have := (h.range v y hy).1
  rw [hl] at hf
  simp at hf
  omega
theorem WellP.linkP_ (h : WellP t) (dir : Int) (s : ByteArray) (ino : Int) : WellP (linkP t dir s ino).2 := by
 unfold linkP
 by_cases h0 : linkE t dir s ino = 0
 · rw [if_pos h0]
   unfold linkE at h0
   obtain ⟨_, h0⟩ := firstE_cons h0
   obtain ⟨z2, h0⟩ := firstE_cons h0
   obtain ⟨z3, h0⟩ := firstE_cons h0
   obtain ⟨z4, h0⟩ := firstE_cons h0
   obtain ⟨z5, h0⟩ := firstE_cons h0
   obtain ⟨z6, _⟩ := firstE_cons h0
   have hall := there_all z2
   obtain ⟨x, hx⟩ := Option.isSome_iff_exists.1 (hall dir (by simp))
   obtain ⟨y, hy⟩ := Option.isSome_iff_exists.1 (hall ino (by simp))
   show WellP (linkT t dir s ino)
   unfold linkT
   rw [hx, hy]
   simp only
   have hk := dirs_zero z3 (by simp) hx
   have hyk := (h.kind ino y hy).resolve_right (file_zero hy z4)
   refine h.link hx hk (h.free_of hx z5) hy hyk ?_
   unfold linksE' linksE at z6
   rw [hy] at z6
   simp at z6
   omega
 · rw [if_neg h0]; exact h
end
section
open Go.RowKit Go.Maps
variable {t : PT}
theorem WellP.none_of (h : WellP t) {d : Int} {x : PN} {k : List UInt8} (hd : t.n d = some x) (hf : (x.l k).getD 0 = 0) : x.l k = none := by
 cases hl : x.l k with
 | none => rfl
 | some v =>
  obtain ⟨_, _, _, y, hy, _⟩ := h.ent d x _ v hd hl
  have := (h.range v y hy).1
  rw [hl] at hf
  simp at hf
  omega
theorem WellP.makeAtP_ (h : WellP t) (dir : Int) (s : ByteArray) (kind ino : Int) : WellP (makeAtP t dir s kind ino).2 := by
 unfold makeAtP
 by_cases h0 : makeAtE t dir s kind ino = 0
 · rw [if_pos h0]
   obtain ⟨hk, h1, h2, ⟨xd, hd, hdk, hf⟩, hn⟩ := makeAtE_zero h0
   have hfn := h.none_of hd hf
   show WellP (makeT t dir s kind ino)
   unfold makeT
   rw [hd]
   simp only
   rcases hk with rfl | rfl
   · have hw := h.fresh hn ⟨h1, h2⟩
     have hne : dir ≠ ino := fun e => by rw [e, hn] at hd; cases hd
     have hl := hw.link (d := dir) (i := ino) (s := s) (x := xd) (y := { newN 1 with held := 1 }) (by rw [PT.set_n, if_neg hne]; exact hd) hdk hfn (by rw [PT.set_n, if_pos rfl]) rfl (by decide)
     have hp := hl.put (i := ino) (x := { newN 1 with held := 1, links := 1 }) (x' := { newN 1 with links := 1 }) (by rw [enter_n, if_pos rfl]; rfl) rfl rfl rfl rfl (by decide) (fun c => by cases c) (fun _ c => by cases c) ⟨fun p b hb => (by cases hb), by decide⟩
     have e : (enterT (t.set ino { newN 1 with held := 1 }) dir xd s ino { newN 1 with held := 1 }).set ino { newN 1 with links := 1 } = enterT (t.set ino (newN 1)) dir xd s ino (newN 1) := by
      unfold enterT
      unfold PT.set
      congr 1
      funext j
      by_cases h1 : j = ino
      · simp [h1]; rfl
      · by_cases h2 : j = dir
        · subst h2; simp [h1]
        · simp [h1, h2]
     rw [← e]
     exact hp
   · exact h.mkdir hd hdk hfn hn ⟨h1, h2⟩
 · rw [if_neg h0]; exact h
theorem WellP.makeP_ (h : WellP t) (dir : Int) (s : ByteArray) (kind m : Int) : WellP (makeP t dir s kind m).2 := by
 unfold makeP
 split
 · exact h.makeAtP_ dir s kind m
 · exact h
end
section
open Go.RowKit Go.Maps
variable {t : PT}
theorem cut_ok {x : PN} (k : PagesOk x) {n : Int} (h0 : 0 ≤ n) (h1 : n ≤ 2304) : PagesOk { x with pages := cutP n x.pages, size := n } := by
 refine ⟨fun p b hb => ?_, h0, h1⟩
 have hb' : cutP n x.pages p = some b := hb
 unfold cutP at hb'
 cases hx : x.pages p with
 | none => rw [hx] at hb'; cases hb'
 | some c =>
  rw [hx] at hb'
  have hk := k.len p c hx
  simp only at hb'
  split at hb'
  · cases hb'
  · split at hb'
    · cases hb'
      exact ⟨cutB_length hk.1 (by omega), hk.2⟩
    · cases hb'
      exact hk
theorem WellP.resizeP_ (h : WellP t) (i n : Int) (hn : 0 ≤ n) : WellP (resizeP t i n).2 := by
 unfold resizeP
 by_cases h0 : resizeE t i n = 0
 · rw [if_pos h0]
   unfold resizeE at h0
   obtain ⟨z1, h0⟩ := firstE_cons h0
   obtain ⟨z2, h0⟩ := firstE_cons h0
   obtain ⟨z3, _⟩ := firstE_cons h0
   obtain ⟨x, hx⟩ := Option.isSome_iff_exists.1 (there_one z1)
   have hn1 : n ≤ 2304 := by
    unfold sizedE at z3
    by_cases a : 2304 < n
    · rw [if_pos a] at z3; cases z3
    · omega
   show WellP (resizeT t i n)
   unfold resizeT
   rw [hx]
   simp only
   exact h.put hx rfl rfl rfl rfl (h.held i x hx) (fun hk => (h.dirs i x hx hk).2) (fun hk hl => h.there i x hx hk hl) (cut_ok (h.pages i x hx) hn hn1)
 · rw [if_neg h0]; exact h
theorem put_ok {x : PN} (k : PagesOk x) {p n : Int} {b : List UInt8} (hb : b.length = 64) (hp : 0 ≤ p ∧ p < 36) (h0 : 0 ≤ n ∧ n ≤ 2304) : PagesOk { x with pages := updP x.pages p b, size := n } := by
 refine ⟨fun q c hc => ?_, h0⟩
 have hc' : (if q = p then some b else x.pages q) = some c := hc
 split at hc'
 · cases hc'
   rename_i e
   exact ⟨hb, by omega, by omega⟩
 · exact k.len q c hc'
theorem WellP.writeP_ (h : WellP t) (i p : Int) (d : ByteArray) : WellP (writeP t i p d).2 := by
 unfold writeP
 by_cases h0 : writeE t i p d = 0
 · rw [if_pos h0]
   unfold writeE at h0
   obtain ⟨z1, h0⟩ := firstE_cons h0
   obtain ⟨z2, h0⟩ := firstE_cons h0
   obtain ⟨z3, h0⟩ := firstE_cons h0
   obtain ⟨z4, _⟩ := firstE_cons h0
   obtain ⟨x, hx⟩ := Option.isSome_iff_exists.1 (there_one z1)
   have hp : 0 ≤ p ∧ p < 36 := by
    unfold pagedE at z3
    by_cases a : p < 0 ∨ 36 ≤ p
    · rw [if_pos a] at z3; cases z3
    · omega
   have hdz : 0 < d.size ∧ d.size ≤ 64 := by
    unfold dataE at z4
    by_cases a : d.size = 0 ∨ 64 < d.size
    · rw [if_pos a] at z4; cases z4
    · omega
   have hk := h.pages i x hx
   have hlen : ((x.pages p).getD z64).length = 64 := by
    cases hb : x.pages p with
    | none => rfl
    | some b => exact (hk.len p b hb).1
   have hdl : d.data.toList.length = d.size := by simp
   have hs := hk.size
   show WellP (writeT t i p d)
   unfold writeT
   rw [hx]
   simp only
   exact h.put hx rfl rfl rfl rfl (h.held i x hx) (fun hk => (h.dirs i x hx hk).2) (fun hk hl => h.there i x hx hk hl) (put_ok hk (by rw [over_length (by rw [hlen]; omega), hlen]) hp ⟨by omega, by omega⟩)
 · rw [if_neg h0]; exact h
end
end Go.Proofs.YtpcnolkdnmolgaaGreatDoor
