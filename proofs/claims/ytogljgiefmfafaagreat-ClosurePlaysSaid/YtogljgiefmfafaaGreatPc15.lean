/- Records that do not meet, plain: in either order they come to the same. -/
import Derived.Test.YtogljgiefmfafaaGreatPc13
import Derived.Test.YtogljgiefmfafaaGreatPc14
namespace Go.Proofs.YtogljgiefmfafaaGreat
section
open Go.RowKit Go.Maps
section
variable {t u : PT} {r : R}
theorem AgreeR.ino (h : AgreeR r t u) : u.n r.ino = t.n r.ino := h.own _ (wI_ino r)
theorem agree_makeAt (h : AgreeR r t u) (hr : 1 ≤ r.act ∧ r.act ≤ 4) : (makeAtP u r.dir r.name r.kind r.ino).1 = (makeAtP t r.dir r.name r.kind r.ino).1 ∧ AgreeR r (makeAtP t r.dir r.name r.kind r.ino).2 (makeAtP u r.dir r.name r.kind r.ino).2 := by
 have hd := h.dir r.dir ⟨hr, .inl rfl⟩
 have he := h.ent r.dir _ ⟨hr, .inl ⟨rfl, rfl⟩⟩
 have e : makeAtE u r.dir r.name r.kind r.ino = makeAtE t r.dir r.name r.kind r.ino := by
  unfold makeAtE
  rw [there_congr (u := u) (t := t) (is := [r.dir]) (by simpa using hd_same hd), dirs_congr (u := u) (t := t) (is := [r.dir]) (by simpa using hd), fresh_congr hd he]
  unfold roomE haveE
  rw [h.room, AgreeR.ino h]
 unfold makeAtP
 rw [e]
 split
 · rename_i h0
   refine ⟨rfl, ?_⟩
   obtain ⟨_, _, _, ⟨xd, hx, _, _⟩, hn⟩ := makeAtE_zero h0
   obtain ⟨z, hz, hb⟩ := h.get ⟨hr, .inl rfl⟩ hx
   have hne : r.dir ≠ r.ino := fun c => by rw [← c, hx] at hn; cases hn
   show AgreeR r (makeT t r.dir r.name r.kind r.ino) (makeT u r.dir r.name r.kind r.ino)
   unfold makeT
   rw [hx, hz]
   exact (h.set _ _).enter (by rw [PT.set_n, if_neg hne]; exact hx) (by rw [PT.set_n, if_neg hne]; exact hz) hb _ _ _
 · exact ⟨rfl, h⟩
theorem agree_hold (h : AgreeR r t u) : (holdP u r.ino).1 = (holdP t r.ino).1 ∧ AgreeR r (holdP t r.ino).2 (holdP u r.ino).2 := by
 have hi := AgreeR.ino h
 have e : holdE u r.ino = holdE t r.ino := by
  unfold holdE fileE'
  rw [there_congr (u := u) (t := t) (is := [r.ino]) (by simp [hi]), hi]
 unfold holdP
 rw [e, hi]
 split
 · refine ⟨rfl, ?_⟩
   show AgreeR r (match t.n r.ino with | some x => t.set r.ino { x with held := x.held + 1 } | none => t) (match t.n r.ino with | some x => u.set r.ino { x with held := x.held + 1 } | none => u)
   cases t.n r.ino with
   | none => exact h
   | some x => exact h.set _ _
 · exact ⟨rfl, h⟩
theorem agree_link (h : AgreeR r t u) (hr : 1 ≤ r.act ∧ r.act ≤ 4) : (linkA u r).1 = (linkA t r).1 ∧ AgreeR r (linkA t r).2 (linkA u r).2 := by
 have hd := h.dir r.dir ⟨hr, .inl rfl⟩
 have he := h.ent r.dir _ ⟨hr, .inl ⟨rfl, rfl⟩⟩
 have hi := AgreeR.ino h
 have e : linkE u r.dir r.name r.ino = linkE t r.dir r.name r.ino := by
  unfold linkE fileE' linksE'
  rw [there_congr (u := u) (t := t) (is := [r.dir, r.ino]) (by simp [hd_same hd, hi]), dirs_congr (u := u) (t := t) (is := [r.dir]) (by simpa using hd), fresh_congr hd he, hi]
 unfold linkA linkP
 rw [e]
 split
 · refine ⟨rfl, ?_⟩
   show AgreeR r (linkT t r.dir r.name r.ino) (linkT u r.dir r.name r.ino)
   unfold linkT
   rw [hi]
   cases hx : t.n r.dir with
   | none =>
    have := hd_same hd
    rw [hx] at this
    cases hu : u.n r.dir with
    | none => exact h
    | some z => rw [hu] at this; cases this
   | some xd =>
    obtain ⟨z, hz, hb⟩ := hd_get hd hx
    rw [hz]
    cases t.n r.ino with
    | none => exact h
    | some xi => exact h.enter hx hz hb _ _ _
 · exact ⟨rfl, h⟩
theorem agree_look (h : AgreeR r t u) (hr : 1 ≤ r.act ∧ r.act ≤ 4) : lookP u r.dir r.name = lookP t r.dir r.name ∧ lookA u r = lookA t r := by
 have e := look_congr (h.dir r.dir ⟨hr, .inl rfl⟩) (h.ent r.dir _ ⟨hr, .inl ⟨rfl, rfl⟩⟩)
 refine ⟨e, ?_⟩
 unfold lookA
 rw [e]
theorem agree_drop (hW : WellP t) (h : AgreeR r t u) (hr : 1 ≤ r.act ∧ r.act ≤ 4) (hl : lookA t r = 0) (q : PN → Int) : (dropP u r.dir r.name q).1 = (dropP t r.dir r.name q).1 ∧ AgreeR r (dropP t r.dir r.name q).2 (dropP u r.dir r.name q).2 := by
 obtain ⟨h0, h1⟩ := lookA_zero hl
 obtain ⟨xd, xi, hd, hx, hi, hne, _⟩ := look_zero hW h0
 obtain ⟨e, _⟩ := agree_look h hr
 obtain ⟨z, hz, hb⟩ := h.get ⟨hr, .inl rfl⟩ hd
 unfold dropP
 rw [e, h1]
 rw [h1] at hi hne
 rw [AgreeR.ino h, hi, hd, hz, if_neg (by rw [h0]; simp), if_neg (by rw [h0]; simp)]
 simp only
 split
 · exact ⟨rfl, h⟩
 · exact ⟨rfl, h.drop hd hz hb _ _ hne _⟩
theorem agree_move (h : AgreeR r t u) (hr : r.act = 4) {i : Int} {xa xb y : PN} (ha : t.n r.dir = some xa) (hi : t.n i = some y) (hb : t.n r.dir2 = some xb) (hia : i ≠ r.dir) (hib : i ≠ r.dir2) (hw : wIr r i) :
  AgreeR r (moveT t r.dir r.name r.dir2 r.name2 i) (moveT u r.dir r.name r.dir2 r.name2 i) := by
 have hr4 : 1 ≤ r.act ∧ r.act ≤ 4 := by omega
 obtain ⟨za, hza, hba⟩ := h.get ⟨hr4, .inl rfl⟩ ha
 have hiu : u.n i = some y := (h.own i hw).trans hi
 have L := h.leave ha hza hba r.name i hia y
 have h3 : ∃ xb', (leaveT t r.dir xa r.name i y).n r.dir2 = some xb' := by
  rw [leave_n hia]
  split
  · exact ⟨_, rfl⟩
  · rw [if_neg (fun e => hib e.symm)]
    exact ⟨_, hb⟩
 obtain ⟨xb', h3⟩ := h3
 obtain ⟨zb', h4, hb'⟩ := L.get (d := r.dir2) ⟨hr4, .inr ⟨hr, rfl⟩⟩ h3
 unfold moveT
 rw [ha, hi, hza, hiu]
 simp only
 rw [h3, h4]
 exact L.enter h3 h4 hb' _ _ _
theorem agree_rename (hW : WellP t) (h : AgreeR r t u) (hr : r.act = 4) (hbel : r.kind = 2 → ∀ xb, t.n r.dir2 = some xb → xb.kind = 2 → (Bel u r.ino r.dir2 ↔ Bel t r.ino r.dir2)) : (renameA u r).1 = (renameA t r).1 ∧ AgreeR r (renameA t r).2 (renameA u r).2 := by
 have hr4 : 1 ≤ r.act ∧ r.act ≤ 4 := by omega
 obtain ⟨e, e2⟩ := agree_look h hr4
 have hd := h.dir r.dir ⟨hr4, .inl rfl⟩
 have hd2 := h.dir r.dir2 ⟨hr4, .inr ⟨hr, rfl⟩⟩
 have he2 := h.ent r.dir2 _ ⟨hr4, .inr ⟨hr, rfl, rfl⟩⟩
 have e3 := look_congr hd2 he2
 have hko : kindAt u r.ino = kindAt t r.ino := by unfold kindAt; rw [AgreeR.ino h]
 have hoo : oldAt u r = oldAt t r := by unfold oldAt; rw [e3]
 unfold renameA
 rw [e2, hko, hoo]
 split
 · exact ⟨rfl, h⟩
 · rename_i hl
   have hl := Decidable.not_not.1 hl
   obtain ⟨l0, l1⟩ := lookA_zero hl
   obtain ⟨xd, xi, hxd, hx, hi, hne, _⟩ := look_zero hW l0
   split
   · exact ⟨rfl, h⟩
   · rename_i hko2
     have hold : oldAt t r = r.old := Decidable.byContradiction fun c => hko2 (.inr c)
     have hkind : kindAt t r.ino = r.kind := Decidable.byContradiction fun c => hko2 (.inl c)
     unfold renameP
     rw [there_congr (u := u) (t := t) (is := [r.dir, r.dir2]) (by simp [hd_same hd, hd_same hd2]), dirs_congr (u := u) (t := t) (is := [r.dir, r.dir2]) (by simp [hd, hd2]), e]
     split
     · exact ⟨rfl, h⟩
     · rename_i h2
       have h2 := Decidable.not_not.1 h2
       obtain ⟨xa, xb, hxa, hxb, hak, hbk⟩ := rename_dirs h2
       obtain ⟨zb, hzb, hbb⟩ := hd_get hd2 hxb
       rw [if_neg (by rw [l0]; simp), if_neg (by rw [l0]; simp)]
       rw [l1] at hx hi hne ⊢
       have hik : xi.kind = r.kind := by
        unfold kindAt at hkind
        rw [hi] at hkind
        exact hkind
       rw [AgreeR.ino h, hi, hxb, hzb]
       simp only
       have hcond : (xi.kind = 2 ∧ Bel u r.ino r.dir2) ↔ (xi.kind = 2 ∧ Bel t r.ino r.dir2) := by
        constructor
        · rintro ⟨a, b⟩
          exact ⟨a, (hbel (by omega) xb hxb hbk).1 b⟩
        · rintro ⟨a, b⟩
          exact ⟨a, (hbel (by omega) xb hxb hbk).2 b⟩
       by_cases hnb : xi.kind = 2 ∧ Bel t r.ino r.dir2
       · rw [if_pos hnb, if_pos (hcond.2 hnb)]
         exact ⟨rfl, h⟩
       · rw [if_neg hnb, if_neg (fun c => hnb (hcond.1 c))]
         have hib : r.ino ≠ r.dir2 := fun e => by
          rw [← e, hi] at hxb
          cases hxb
          have := (hW.range _ _ hi).1
          exact hnb ⟨hbk, e ▸ bel_self (by omega)⟩
         have hle : zb.l r.name2.data.toList = xb.l r.name2.data.toList := by
          rw [← ent_some (k := r.name2.data.toList) hzb, ← ent_some (k := r.name2.data.toList) hxb]
          exact he2
         rw [hle]
         cases ho : xb.l r.name2.data.toList with
         | none => exact ⟨rfl, agree_move h hr hxd hi hxb hne hib (wI_ino r)⟩
         | some old =>
          simp only
          by_cases hne2 : old = r.ino
          · rw [if_pos hne2, if_pos hne2]
            exact ⟨rfl, h⟩
          · rw [if_neg hne2, if_neg hne2]
            obtain ⟨n1, n2, n3⟩ := names_both' (firstE_cons h2).1
            have e1 := old_of hW n2 hxb hbk ho
            have e2 : old = r.old := by
             unfold oldAt at hold
             rw [e1] at hold
             simpa using hold
            obtain ⟨_, _, hob, xo, hxo, _⟩ := hW.ent _ _ _ _ hxb ho
            have ho0 : r.old ≠ 0 := by
             have := (hW.range _ _ hxo).1
             omega
            have hwo : wIr r old := .inr ⟨ho0, e2⟩
            rw [h.own old hwo, hxo]
            simp only
            by_cases hg : givesE xi xo ≠ 0
            · rw [if_pos hg, if_pos hg]
              exact ⟨rfl, h⟩
            · rw [if_neg hg, if_neg hg]
              have hg := Decidable.not_not.1 hg
              obtain ⟨gk, ge⟩ := gives_zero hg
              have hod : old ≠ r.dir := fun e => by
               rw [← e, hxo] at hxd
               cases hxd
               rw [ge] at hx
               cases hx
              have hne3 : r.ino ≠ old := fun e => hne2 e.symm
              have D := h.drop hxb hzb hbb r.name2 old hob xo
              have n1 : (dropT t r.dir2 xb r.name2 old xo).n r.ino = some xi := by
               rw [drop_n hob, if_neg hib, if_neg hne3]
               exact hi
              have n2 : ∃ xa', (dropT t r.dir2 xb r.name2 old xo).n r.dir = some xa' := by
               rw [drop_n hob]
               split
               · exact ⟨_, rfl⟩
               · rw [if_neg (fun e => hod e.symm)]
                 exact ⟨_, hxd⟩
              have n3 : ∃ xb', (dropT t r.dir2 xb r.name2 old xo).n r.dir2 = some xb' := by
               rw [drop_n hob, if_pos rfl]
               exact ⟨_, rfl⟩
              obtain ⟨_, n2⟩ := n2
              obtain ⟨_, n3⟩ := n3
              exact ⟨rfl, agree_move D hr n2 n1 n3 hne hib (wI_ino r)⟩
theorem agree_resize (h : AgreeR r t u) : (resizeP u r.ino r.size).1 = (resizeP t r.ino r.size).1 ∧ AgreeR r (resizeP t r.ino r.size).2 (resizeP u r.ino r.size).2 := by
 have hi := AgreeR.ino h
 have e : resizeE u r.ino r.size = resizeE t r.ino r.size := by
  unfold resizeE fileE'
  rw [there_congr (u := u) (t := t) (is := [r.ino]) (by simp [hi]), hi]
 unfold resizeP
 rw [e]
 split
 · refine ⟨rfl, ?_⟩
   show AgreeR r (resizeT t r.ino r.size) (resizeT u r.ino r.size)
   unfold resizeT
   rw [hi]
   cases t.n r.ino with
   | none => exact h
   | some x => exact h.set _ _
 · exact ⟨rfl, h⟩
theorem agree_write (h : AgreeR r t u) : (writeP u r.ino r.page r.data).1 = (writeP t r.ino r.page r.data).1 ∧ AgreeR r (writeP t r.ino r.page r.data).2 (writeP u r.ino r.page r.data).2 := by
 have hi := AgreeR.ino h
 have e : writeE u r.ino r.page r.data = writeE t r.ino r.page r.data := by
  unfold writeE fileE'
  rw [there_congr (u := u) (t := t) (is := [r.ino]) (by simp [hi]), hi]
 unfold writeP
 rw [e]
 split
 · refine ⟨rfl, ?_⟩
   show AgreeR r (writeT t r.ino r.page r.data) (writeT u r.ino r.page r.data)
   unfold writeT
   rw [hi]
   cases t.n r.ino with
   | none => exact h
   | some x => exact h.set _ _
 · exact ⟨rfl, h⟩
theorem agree_free (h : AgreeR r t u) : (freeA u r).1 = (freeA t r).1 ∧ AgreeR r (freeA t r).2 (freeA u r).2 := by
 have hi := AgreeR.ino h
 have e : unholdE u r.ino = unholdE t r.ino := by
  unfold unholdE heldE'
  rw [there_congr (u := u) (t := t) (is := [r.ino]) (by simp [hi]), hi]
 unfold freeA
 rw [hi]
 cases hx : t.n r.ino with
 | none => exact ⟨rfl, h⟩
 | some x =>
  simp only
  split
  · exact ⟨rfl, h⟩
  · unfold unholdP
    rw [e, hi, hx]
    split
    · refine ⟨rfl, ?_⟩
      show AgreeR r (unholdT t r.ino x) (unholdT u r.ino x)
      unfold unholdT
      exact (h.set _ _).free _ _
    · exact ⟨rfl, h⟩
theorem agree_act (hW : WellP t) (h : AgreeR r t u) (hbel : mvB r → ∀ xb, t.n r.dir2 = some xb → xb.kind = 2 → (Bel u r.ino r.dir2 ↔ Bel t r.ino r.dir2)) : (actA u r).1 = (actA t r).1 ∧ AgreeR r (actA t r).2 (actA u r).2 := by
 unfold actA
 split
 · rename_i h1
   obtain ⟨g1, g2⟩ := agree_makeAt h (by omega)
   unfold madeA
   rw [g1]
   split
   · exact ⟨g1, g2⟩
   · exact agree_hold g2
 · split
   · exact agree_link h (by omega)
   · split
     · rename_i h3
       obtain ⟨_, e⟩ := agree_look h (by omega)
       unfold unlinkA
       rw [e]
       split
       · exact ⟨rfl, h⟩
       · rename_i hl
         have hl := Decidable.not_not.1 hl
         split
         · obtain ⟨g1, g2⟩ := agree_drop hW h (by omega) hl rmdirE
           exact ⟨by simp only [g1], g2⟩
         · obtain ⟨g1, g2⟩ := agree_drop hW h (by omega) hl unlinkE
           exact ⟨by simp only [g1], g2⟩
     · split
       · rename_i h4
         exact agree_rename hW h h4 fun hk => hbel ⟨h4, hk⟩
       · split
         · exact agree_resize h
         · split
           · obtain ⟨g1, g2⟩ := agree_write h
             unfold pageA
             rw [g1]
             split
             · exact ⟨g1, g2⟩
             · exact agree_resize g2
           · exact agree_free h
end
section
variable {t u : PT} {a b : R}
theorem check_act (hc : checkB b = true) : (1 ≤ b.act ∧ b.act ≤ 7) ∧ (b.old ≠ 0 → b.act = 4) := by
 unfold checkB fitB kMove at hc
 simp only [Bool.and_eq_true, Bool.or_eq_true, decide_eq_true_eq, Bool.not_eq_true', beq_iff_eq, decide_eq_false_iff_not] at hc
 refine ⟨hc.1.1.1.1.1.1, fun h => ?_⟩
 rcases hc.1.1.2 with ⟨e, _⟩ | ⟨_, e⟩
 · exact e
 · exact absurd e.2 h
theorem act_dir (h : WellP t) (hc : checkB b = true) (hmv : ¬ mvB b) {j : Int} {x : PN} (hx : t.n j = some x) (hk : x.kind = 2) (hs : ∃ k v, x.l k = some v) (hw : wIr b j) : (actA t b).2 = t := by
 obtain ⟨hact, hold⟩ := check_act hc
 have hino : b.act ≠ 4 → j = b.ino := fun h4 => by
  rcases hw with e | ⟨e, _⟩
  · exact e
  · exact absurd (hold e) h4
 have hfile : ∀ i, i = j → fileE' t i ≠ 0 := fun i e c => by
  subst e
  exact file_zero hx c hk
 unfold actA
 split
 · rename_i h1
   have e := hino (by omega)
   have h0 : makeAtE t b.dir b.name b.kind b.ino ≠ 0 := fun c => by
    obtain ⟨_, _, _, _, hn⟩ := makeAtE_zero c
    rw [← e, hx] at hn
    cases hn
   unfold madeA makeAtP
   rw [if_neg h0, if_pos (.inl h0)]
 · split
   · rename_i h1
     have e := hino (by omega)
     have h0 : linkE t b.dir b.name b.ino ≠ 0 := fun c => by
      unfold linkE at c
      obtain ⟨_, c⟩ := firstE_cons c
      obtain ⟨_, c⟩ := firstE_cons c
      obtain ⟨_, c⟩ := firstE_cons c
      obtain ⟨c, _⟩ := firstE_cons c
      exact hfile _ e.symm c
     unfold linkA linkP
     rw [if_neg h0]
   · split
     · rename_i h1
       have e := hino (by omega)
       unfold unlinkA
       split
       · rfl
       · rename_i hl
         have hl := Decidable.not_not.1 hl
         obtain ⟨h0, h1⟩ := lookA_zero hl
         obtain ⟨xd, xi, hd, hx2, hi, hne, _⟩ := look_zero h h0
         rw [h1, ← e, hx] at hi
         obtain rfl := Option.some.inj hi
         have q1 : rmdirE x ≠ 0 := fun c => by
          obtain ⟨k, v, hv⟩ := hs
          rw [gone_ents h hx _ (.inr rfl) c] at hv
          cases hv
         have q2 : unlinkE x ≠ 0 := fun c => by
          unfold unlinkE at c
          rw [hk] at c
          cases c
         have gen : ∀ q : PN → Int, q x ≠ 0 → (dropP t b.dir b.name q).2 = t := fun q hq => by
          unfold dropP
          rw [if_neg (by rw [h0]; simp), hd, h1, ← e, hx]
          simp only
          rw [if_pos hq]
         split
         · exact gen _ q1
         · exact gen _ q2
     · split
       · rename_i h4
         have hbk : b.kind ≠ 2 := fun c => hmv ⟨h4, c⟩
         unfold renameA
         split
         · rfl
         · rename_i hl
           have hl := Decidable.not_not.1 hl
           obtain ⟨l0, l1⟩ := lookA_zero hl
           obtain ⟨xd, xi, hxd, hx2, hi, hne, _⟩ := look_zero h l0
           split
           · rfl
           · rename_i hko2
             have hkind : kindAt t b.ino = b.kind := Decidable.byContradiction fun c => hko2 (.inl c)
             have holdA : oldAt t b = b.old := Decidable.byContradiction fun c => hko2 (.inr c)
             rw [l1] at hi
             have hik : xi.kind = b.kind := by
              unfold kindAt at hkind
              rw [hi] at hkind
              exact hkind
             have hjo : j = b.old := by
              rcases hw with e | ⟨_, e⟩
              · rw [← e, hx] at hi
                obtain rfl := Option.some.inj hi
                omega
              · exact e
             unfold renameP
             split
             · rfl
             · rename_i h2
               have h2 := Decidable.not_not.1 h2
               obtain ⟨xa, xb, hxa, hxb, hak, hbk2⟩ := rename_dirs h2
               rw [if_neg (by rw [l0]; simp), l1, hi, hxb]
               simp only
               split
               · rfl
               · cases ho : xb.l b.name2.data.toList with
                 | none =>
                  exfalso
                  obtain ⟨n1, n2, n3⟩ := names_both' (firstE_cons h2).1
                  have e1 := look_of' n2 hxb hbk2
                  rw [ho] at e1
                  unfold oldAt at holdA
                  rw [e1] at holdA
                  simp at holdA
                  have := (h.range _ _ hx).1
                  omega
                 | some old =>
                  simp only
                  split
                  · rfl
                  · obtain ⟨n1, n2, n3⟩ := names_both' (firstE_cons h2).1
                    have e1 := old_of h n2 hxb hbk2 ho
                    have e2 : old = b.old := by
                     unfold oldAt at holdA
                     rw [e1] at holdA
                     simpa using holdA
                    rw [e2, ← hjo, hx]
                    simp only
                    rw [if_pos]
                    intro hg
                    have := (gives_zero hg).1.1 hk
                    omega
       · have hr : ∀ e : j = b.ino, resizeE t b.ino b.size ≠ 0 := fun e c => by
          unfold resizeE at c
          obtain ⟨_, c⟩ := firstE_cons c
          obtain ⟨c, _⟩ := firstE_cons c
          exact hfile _ e.symm c
         have hwr : ∀ e : j = b.ino, writeE t b.ino b.page b.data ≠ 0 := fun e c => by
          unfold writeE at c
          obtain ⟨_, c⟩ := firstE_cons c
          obtain ⟨c, _⟩ := firstE_cons c
          exact hfile _ e.symm c
         split
         · rename_i h5
           unfold sizeA resizeP
           rw [if_neg (hr (hino (by omega)))]
         · split
           · rename_i h6
             have h0 := hwr (hino (by omega))
             unfold pageA writeP
             rw [if_neg h0, if_pos h0]
           · have e := hino (by omega)
             unfold freeA
             rw [← e, hx]
             simp only
             split
             · rfl
             · unfold unholdP
               rw [if_neg]
               intro c
               unfold unholdE at c
               obtain ⟨_, c⟩ := firstE_cons c
               obtain ⟨c, _⟩ := firstE_cons c
               unfold heldE' at c
               rw [hx] at c
               unfold heldE at c
               simp [(h.dirs j x hx hk).2] at c
theorem up_of_hd {j : Int} (h : hdP u j = hdP t j) : upAt u j = upAt t j := by
 unfold upAt
 cases hx : t.n j with
 | none =>
  have := hd_same h
  rw [hx] at this
  cases hu : u.n j with
  | none => rfl
  | some z => rw [hu] at this; cases this
 | some x =>
  obtain ⟨z, hz, hb⟩ := hd_get h hx
  rw [hz]
  exact bare_up hb
theorem bel_keeps (h : WellP t) {d : Int} {xb : PN} (hu : ∀ j x, t.n j = some x → x.kind = 2 → (j = d ∨ ∃ k v, x.l k = some v) → upAt u j = upAt t j) (hb : t.n d = some xb) (hk : xb.kind = 2) (top : Int) : Bel u top d ↔ Bel t top d := by
 have key : ∀ (n : Nat) (j : Int), (j = 0 ∨ ∃ x, t.n j = some x ∧ x.kind = 2 ∧ (j = d ∨ ∃ k v, x.l k = some v)) → belowP u top n j = belowP t top n j := by
  intro n
  induction n with
  | zero => intro j _; rfl
  | succ n ih =>
   rintro j (rfl | ⟨x, hx, hxk, hs⟩)
   · rw [belowP_zero, belowP_zero]
   · unfold belowP
     rw [hu j x hx hxk hs]
     split
     · rfl
     · rename_i hj0
       split
       · rfl
       · refine ih _ ?_
         have e : upAt t j = x.up := by unfold upAt; rw [hx]
         rw [e]
         by_cases hup : x.up = 0
         · exact .inl hup
         · have hj1 : j ≠ 1 := fun e1 => by
            obtain ⟨x1, h1, _, h3⟩ := h.root
            rw [e1, h1] at hx
            cases hx
            exact hup h3
           obtain ⟨k, xu, hxu, hlu⟩ := h.up j x hx hxk hj1
           exact .inr ⟨xu, hxu, (h.ent _ _ _ _ hxu hlu).1, .inr ⟨k, j, hlu⟩⟩
 unfold Bel
 constructor
 · rintro ⟨n, hn⟩
   exact ⟨n, by rw [← key n d (.inr ⟨xb, hb, hk, .inl rfl⟩)]; exact hn⟩
 · rintro ⟨n, hn⟩
   exact ⟨n, by rw [key n d (.inr ⟨xb, hb, hk, .inl rfl⟩)]; exact hn⟩
structure ApartR (a b : R) : Prop where
 ww : ∀ j, wIr a j → ¬ wIr b j
 wr : ∀ j, wIr a j → ¬ rIr b j
 rw_ : ∀ j, rIr a j → ¬ wIr b j
 ee : ∀ d k, wEr a d k → ¬ wEr b d k
 mv : ¬ (mvB a ∧ mvB b)
theorem ApartR.symm (h : ApartR a b) : ApartR b a := ⟨fun j x y => h.ww j y x, fun j x y => h.rw_ j y x, fun j x y => h.wr j y x, fun d k x y => h.ee d k y x, fun x => h.mv ⟨x.2, x.1⟩⟩
theorem apart_agree (h : WellP t) (hb : checkB b = true) (hp : ApartR a b) : AgreeR a t (actA t b).2 ∧ (mvB a → ∀ xb, t.n a.dir2 = some xb → xb.kind = 2 → (Bel (actA t b).2 a.ino a.dir2 ↔ Bel t a.ino a.dir2)) := by
 have K := keeps_actA (r := b) h hb
 have hown : ∀ j, wIr a j → (actA t b).2.n j = t.n j := fun j hj => by
  have e1 := K.hd j (hp.ww j hj)
  have e2 : ∀ k, entP (actA t b).2 j k = entP t j k := fun k => K.ent j k fun hw => by
   obtain ⟨h1, h2⟩ := hw
   refine hp.wr j hj ⟨h1, ?_⟩
   rcases h2 with ⟨e, _⟩ | ⟨e4, e, _⟩
   · exact .inl e
   · exact .inr ⟨e4, e⟩
  cases hx : t.n j with
  | none =>
   have := hd_same e1
   rw [hx] at this
   simpa using this
  | some x =>
   obtain ⟨z, hz, hbz⟩ := hd_get e1 hx
   rw [hz]
   congr 1
   refine bare_ext hbz fun k => ?_
   rw [← ent_some (k := k) hz, ← ent_some (k := k) hx]
   exact e2 k
 refine ⟨⟨K.room, hown, fun j hj => K.hd j (hp.rw_ j hj), fun d k hk => K.ent d k (hp.ee d k hk)⟩, fun hm xb hxb hk => ?_⟩
 refine bel_keeps h (fun j x hx hxk hs => ?_) hxb hk _
 by_cases hw : wIr b j
 · rcases hs with rfl | hs
   · exact absurd hw (hp.rw_ _ ⟨by have := hm.1; omega, .inr ⟨hm.1, rfl⟩⟩)
   · rw [act_dir h hb (fun c => hp.mv ⟨hm, c⟩) hx hxk hs hw]
 · exact up_of_hd (K.hd j hw)
theorem apart_act (h : WellP t) (hra : a.Ok) (hrb : b.Ok) (ha : checkB a = true) (hb : checkB b = true) (hp : ApartR a b) :
  (actA (actA t b).2 a).1 = (actA t a).1 ∧ (actA (actA t a).2 b).1 = (actA t b).1 ∧ (actA (actA t b).2 a).2 = (actA (actA t a).2 b).2 := by
 obtain ⟨A1, B1⟩ := apart_agree h hb hp
 obtain ⟨A2, B2⟩ := apart_agree h ha hp.symm
 obtain ⟨x1, R1⟩ := agree_act h A1 B1
 obtain ⟨x2, R2⟩ := agree_act h A2 B2
 have Ka := keeps_actA (r := a) h ha
 have Kb := keeps_actA (r := b) h hb
 have Ka' := keeps_actA (r := a) (h.actA_ hrb) ha
 have Kb' := keeps_actA (r := b) (h.actA_ hra) hb
 refine ⟨x1, x2, cells_ext ?_ (fun j => ?_) fun d k => ?_⟩
 · rw [Ka'.room, Kb.room, Kb'.room, Ka.room]
 · by_cases h1 : wIr a j
   · rw [Kb'.hd j (hp.ww j h1)]
     unfold hdP
     rw [R1.own j h1]
   · rw [Ka'.hd j h1]
     by_cases h2 : wIr b j
     · unfold hdP
       rw [R2.own j h2]
     · rw [Kb.hd j h2, Kb'.hd j h2, Ka.hd j h1]
 · by_cases h1 : wEr a d k
   · rw [Kb'.ent d k (hp.ee d k h1), R1.ent d k h1]
   · rw [Ka'.ent d k h1]
     by_cases h2 : wEr b d k
     · rw [R2.ent d k h2]
     · rw [Kb.ent d k h2, Kb'.ent d k h2, Ka.ent d k h1]
end
section
variable {r a b : R}
theorem parts_ino (hc : checkB r = true) {j : Int} (h : wIr r j) : ⟨2, j, ⟨#[]⟩, true⟩ ∈ partsL r := by
 obtain ⟨hact, hold⟩ := check_act hc
 unfold partsL
 rw [if_pos hc]
 by_cases he : kEntry r.act = true
 · rw [if_pos he]
   rcases h with e | ⟨e0, e⟩
   · subst e; simp
   · subst e
     have : (r.old != 0) = true := by simpa using e0
     simp [this]
 · rw [if_neg he]
   rcases h with e | ⟨e0, _⟩
   · subst e; simp
   · exfalso
     have := hold e0
     exact he (by unfold kEntry; simp; omega)
theorem parts_dir (hc : checkB r = true) {j : Int} (h : rIr r j) : ⟨2, j, ⟨#[]⟩, false⟩ ∈ partsL r := by
 obtain ⟨h1, h2⟩ := h
 have he : kEntry r.act = true := by unfold kEntry; simp; omega
 unfold partsL
 rw [if_pos hc, if_pos he]
 rcases h2 with e | ⟨e4, e⟩
 · subst e; simp
 · subst e
   have : (r.act == 4) = true := by simpa using e4
   simp [this]
theorem parts_ent (hc : checkB r = true) {d : Int} {k : List UInt8} (h : wEr r d k) : ∃ s : ByteArray, s.data.toList = k ∧ ⟨1, d, s, true⟩ ∈ partsL r := by
 obtain ⟨h1, h2⟩ := h
 have he : kEntry r.act = true := by unfold kEntry; simp; omega
 unfold partsL
 rw [if_pos hc, if_pos he]
 rcases h2 with ⟨e, e2⟩ | ⟨e4, e, e2⟩
 · subst e; exact ⟨_, e2.symm, by simp⟩
 · subst e
   have : (r.act == 4) = true := by simpa using e4
   exact ⟨_, e2.symm, by simp [this]⟩
theorem parts_mv (hc : checkB r = true) (h : mvB r) : ⟨3, 0, ⟨#[]⟩, true⟩ ∈ partsL r := by
 obtain ⟨h4, h2⟩ := h
 have he : kEntry r.act = true := by unfold kEntry; simp; omega
 have e1 : (r.act == 4 && r.kind == 2) = true := by simp [h4, h2]
 unfold partsL
 rw [if_pos hc, if_pos he, e1]
 simp
theorem meet_at {x y : Pt} (hx : x ∈ partsL a) (hy : y ∈ partsL b) (h : meetPt x y = true) : meetB a b = true :=
 List.any_eq_true.2 ⟨x, hx, List.any_eq_true.2 ⟨y, hy, h⟩⟩
theorem apart_of (ha : checkB a = true) (hb : checkB b = true) (hm : meetB a b = false) : ApartR a b := by
 have no : ∀ {x y : Pt}, x ∈ partsL a → y ∈ partsL b → meetPt x y = true → False := fun hx hy h => by rw [meet_at hx hy h] at hm; cases hm
 refine ⟨fun j h1 h2 => no (parts_ino ha h1) (parts_ino hb h2) (by simp [meetPt]), fun j h1 h2 => no (parts_ino ha h1) (parts_dir hb h2) (by simp [meetPt]), fun j h1 h2 => no (parts_dir ha h1) (parts_ino hb h2) (by simp [meetPt]), fun d k h1 h2 => ?_, fun h => no (parts_mv ha h.1) (parts_mv hb h.2) (by simp [meetPt])⟩
 obtain ⟨s1, e1, m1⟩ := parts_ent ha h1
 obtain ⟨s2, e2, m2⟩ := parts_ent hb h2
 have e : s1 = s2 := ByteArray.ext (Array.ext' (e1.trans e2.symm))
 subst e
 exact no m1 m2 (by simp [meetPt])
theorem apart_play {t : PT} (h : WellP t) (hra : a.Ok) (hrb : b.Ok) (hm : meetB a b = false) :
  (playA (playA t b).2 a).1 = (playA t a).1 ∧ (playA (playA t a).2 b).1 = (playA t b).1 ∧ (playA (playA t b).2 a).2 = (playA (playA t a).2 b).2 := by
 cases ha : checkB a
 · unfold playA
   simp [ha]
 · cases hb : checkB b
   · unfold playA
     simp [hb]
   · have := apart_act h hra hrb ha hb (apart_of ha hb hm)
     unfold playA
     simp only [ha, hb, if_true]
     exact this
end
end

section
open Go.RowKit Go.Maps
def RecOk (r : R) : Prop := r.Ok ∧ r.name.size ≤ maxLen ∧ r.name2.size ≤ maxLen ∧ r.data.size ≤ maxLen
structure RecsAt (w : World) (A : Option Addr) (l : List R) : Prop where
 at_ : l ≠ [] → ∃ b o, A = some ⟨b, o, none⟩ ∧ b < w.heap.size ∧ ∀ (k : Nat) (r : R), l[k]? = some r → ∀ (i : Nat) (v : Value), (cellsR r)[i]? = some v → w.cell? ⟨b, o + k * 12 + i, none⟩ = some v
 ok : ∀ r ∈ l, RecOk r
theorem RecsAt.below {w w' : World} {A : Option Addr} {l : List R} (h : RecsAt w A l) (hb : Below w.heap.size w w') : RecsAt w' A l :=
 ⟨fun hn => by
  obtain ⟨b, o, h1, h2, h3⟩ := h.at_ hn
  exact ⟨b, o, h1, Nat.lt_of_lt_of_le h2 hb.size, fun k r hk i v hv => (World.cell?_of_block (a := ⟨b, _, none⟩) (hb.block b h2)).trans (h3 k r hk i v hv)⟩, h.ok⟩
def rAt (l : List R) (k : Nat) : R := l.getD k ⟨0, 0, 0, ⟨#[]⟩, 0, 0, 0, ⟨#[]⟩, 0, 0, 0, ⟨#[]⟩⟩
def onL (l : List R) (k : Nat) : List Nat := (List.range k).filter fun i => meetB (rAt l i) (rAt l k)
def natV (l : List Nat) : List Value := l.map fun (n : Nat) => Value.int .i64 (n : Int)
theorem infoI : ∃ i, Tryz.prog.info? 3 = some i ∧ i.zero = some (.int .i64 0) ∧ i.size = 1 ∧ i.bytes = 8 := by
 have : (Tryz.prog.info? 3).map (fun i => (i.zero, i.size, i.bytes)) = some (some (.int .i64 0), 1, 8) := by kernel_rfl
 obtain ⟨i, hi, he⟩ := Option.map_eq_some_iff.1 this
 simp only [Prod.mk.injEq] at he
 exact ⟨i, hi, he.1, he.2.1, he.2.2⟩
theorem run_append_int (base ty : Nat) (w : World) (v : Value) (l : List Nat) (n : Nat) (hn : l.length = n) (hown : w.ownsRow base 3 1 v n (natV l)) (q : Nat) (x : Nat) (hq : w.heap[q]? = some (.cells #[.int .i64 (x : Int)] 3 (0, 0)))
  (hl : n ≤ 100000) (hbase : base ≤ w.heap.size) :
  ∃ v' w', (Builtin.append_ #[60, 60] ty #[v, .slice (some ⟨q, 0, none⟩) 1 1]).run Tryz.prog w = .ok v' w' ∧ w'.ownsRow base 3 1 v' (n + 1) (natV (l ++ [x])) ∧ w.grownBy w' v.ownBlock := by
 subst hn
 obtain ⟨i0, hi, hz0, hz1, hz2⟩ := infoI
 obtain ⟨v', w', hrun, h2, h3, _, _⟩ := run_append_own_at (P := Tryz.prog) w base 60 ty 3 i0 _ 1 8 Tryz.underlying60 hi hz0 hz1 hz2 rfl (by decide) v l.length (natV l) hown ⟨q, 0, none⟩ 1 1 [.int .i64 (x : Int)]
  rfl (fun j u hu => by
   rw [Addr.add_mid, Nat.zero_add]
   simp only [World.cell?, hq]
   simpa using hu) (by simp [Value.oneCell']) (by unfold maxLen; omega) (by omega) hbase
 exact ⟨v', w', hrun, by unfold natV at h2 ⊢; rw [List.map_append]; exact h2, h3⟩
theorem wpList_append_int {ops : Array Oper} {rest : List Oper} {o : Oper} {a : Act} {Q : Exit → Act → World → Prop} {w : World} (hgd : o.guard = none) (s x : Operand)
  (ho : o.op = .call { callee := .builtin .append, args := #[s, x], argTypes := #[60, 60] })
  (base : Nat) (v : Value) (l : List Nat) (n k : Nat) (hn : l.length = n) (hk : n + 1 = k) (hs : a.eval s = v) (hown : w.ownsRow base 3 1 v n (natV l)) (q p : Nat) (hx : a.eval x = .slice (some ⟨q, 0, none⟩) 1 1)
  (hq : w.heap[q]? = some (.cells #[.int .i64 (p : Int)] 3 (0, 0))) (hl : n ≤ 100000) (hbase : base ≤ w.heap.size)
  (h : ∀ A1 c1 w', w'.ownsRow base 3 1 (.slice A1 k c1) k (natV (l ++ [p])) → w.grownBy w' v.ownBlock → wpList Tryz.prog ops Q rest (a.put o.dst (.slice A1 k c1)) w') : wpList Tryz.prog ops Q (o :: rest) a w :=
 wpList_plain hgd fun _ hK => by
  subst hk
  obtain ⟨v', w', hrun, h2, h3⟩ := run_append_int base o.type w v l n hn hown q p hq hl hbase
  unfold Oper.wp execOp
  simp only [ho, resolve, invoke, builtin, Sem.run_bind, Sem.run_pure, Result.andThen_ok, List.map_toArray, List.map_cons, List.map_nil, hs, hx, hrun]
  obtain ⟨A1, c1, rfl⟩ := row_slice h2
  exact hK _ _ (h A1 c1 w' h2 h3)
theorem row_below {w w' : World} {base size n : Nat} {e : TypeId} {v : Value} {xs : List Value} (h : w.ownsRow base e size v n xs) (hb : Below w.heap.size w w') : w'.ownsRow base e size v n xs :=
 h.kept (row := none) ⟨hb.os, hb.tape, hb.output, hb.size, fun k hk _ => hb.block k hk⟩ (by cases hv : v.ownBlock with | none => exact .inl rfl | some x => exact .inr (by simp))
def onTo (l : List R) (k i : Nat) : List Nat := (List.range i).filter fun i => meetB (rAt l i) (rAt l k)
theorem onTo_succ (l : List R) (k i : Nat) : onTo l k (i + 1) = onTo l k i ++ (if meetB (rAt l i) (rAt l k) = true then [i] else []) := by
 unfold onTo
 rw [List.range_succ, List.filter_append]
 congr 1
 cases h : meetB (rAt l i) (rAt l k) <;> simp [h]
theorem onTo_len (l : List R) (k i : Nat) : (onTo l k i).length ≤ i := by
 unfold onTo
 exact Nat.le_trans (List.length_filter_le _ _) (by simp)
theorem rAt_get {l : List R} {i : Nat} {x : R} (h : l[i]? = some x) : rAt l i = x := by
 unfold rAt
 rw [List.getD_eq_getElem?_getD, h]
 rfl
theorem meetR (w : World) {x y : R} (hx : RecOk x) (hy : RecOk y) : Calls Tryz.prog 30 #[x.val, y.val] w fun e w' => e = .returned (.bool (meetB x y)) ∧ Below w.heap.size w w' :=
 t_meet x y hx.1 hx.2.1 hx.2.2.1 hy.1 hy.2.1 hy.2.2.1 w
set_option maxRecDepth 100000 in
set_option maxHeartbeats 4000000 in
theorem t_on (A : Option Addr) (c n k : Nat) (l : List R) (w : World) (hl : RecsAt w A l) (hn : l.length = n) (hn2 : n ≤ 60000) (hnc : n ≤ c) (hk : k < n) :
  Calls Tryz.prog 44 #[.slice A n c, .int .i64 (k : Int)] w fun e w' => ∃ v, e = .returned v ∧ w'.ownsRow w.heap.size 3 1 v (onL l k).length (natV (onL l k)) ∧ Below w.heap.size w w' := by
 have hk0 : ¬ (k : Int) < 0 := by omega
 have hk1 : ¬ (n : Int) ≤ k := by omega
 have hk2 : (k : Int) ≤ c := by omega
 have hc0 : ¬ c = 0 := by omega
 obtain ⟨b, o, rfl, hbl, hc⟩ := hl.at_ (fun e => by rw [e] at hn; simp at hn; omega)
 obtain ⟨z, hz⟩ : ∃ z, l[k]? = some z := ⟨l[k]'(by omega), List.getElem?_eq_getElem _⟩
 have HL := zz hl
 have HC := zz (And.intro hbl hc)
 have HN := zz hn
 have HZ := zz hz
 clear hl hc hn hz hbl
 go_enter Tryz.func44, Tryz.ntmps44
 go_wp2
 go_loopw [4, 19] (fun v x wr => ∃ (i m : Nat) (A1 : Option Addr) (d1 : Nat), x = .int .i64 (i : Int) ∧ v = .slice A1 m d1 ∧ i ≤ k ∧ Hid ((onTo l k i).length = m ∧ wr.ownsRow w.heap.size 3 1 (.slice A1 m d1) m (natV (onTo l k i)) ∧ Below w.heap.size w wr)) (fun _ x _ => k - (intOf x).toNat)
 case atStart => exact ⟨0, 0, none, 0, rfl, rfl, Nat.zero_le _, rfl, World.ownsRow_nil _ _ _ _, Below.refl _ _⟩
 case round =>
  obtain ⟨i, m, A1, d1, rfl, rfl, hi, HI⟩ := hrel
  by_cases he : i = k
  · have hf : Hid (onTo l k i = onL l k) := by show _ = _; rw [he]; rfl
    go_wp2
    go_ret
    refine ⟨_, rfl, ?_, HI.out.2.2⟩
    rw [← hf.out, HI.out.1]
    exact HI.out.2.1
  · have hi2 : i < k := by omega
    obtain ⟨x, hx⟩ : ∃ x, l[i]? = some x := ⟨l[i]'(by rw [HN.out]; omega), List.getElem?_eq_getElem _⟩
    have hce : ∀ (k : Nat) (r : R), l[k]? = some r → ∀ (i : Nat) (v : Value), (cellsR r)[i]? = some v → wr.cell? ⟨b, o + k * 12 + i, none⟩ = some v := fun k r h1 i v h2 => (World.cell?_of_block (a := ⟨b, _, none⟩) (HI.out.2.2.block b HC.out.1)).trans (HC.out.2 k r h1 i v h2)
    have c0 : wr.cell? ⟨b, o + i * 12, none⟩ = some (.int .u64 x.stamp) := hce i x hx 0 _ rfl
    have c1 := hce i x hx 1 _ rfl
    have c2 := hce i x hx 2 _ rfl
    have c3 := hce i x hx 3 _ rfl
    have c4 := hce i x hx 4 _ rfl
    have c5 := hce i x hx 5 _ rfl
    have c6 := hce i x hx 6 _ rfl
    have c7 := hce i x hx 7 _ rfl
    have c8 := hce i x hx 8 _ rfl
    have c9 := hce i x hx 9 _ rfl
    have c10 := hce i x hx 10 _ rfl
    have c11 := hce i x hx 11 _ rfl
    have HX := zz hx
    have HZC : Hid (∀ (i : Nat) (v : Value), (cellsR z)[i]? = some v → (wr.alloc (.cells #[.int .u64 x.stamp, .int .u8 x.act, .int .u32 x.dir, .string x.name, .int .u32 x.ino, .int .u8 x.kind, .int .u32 x.dir2, .string x.name2, .int .u32 x.old, .int .u32 x.size, .int .i64 x.page, .string x.data] 50)).cell? ⟨b, o + k * 12 + i, none⟩ = some v) := fun i v h2 => (World.cell?_of_block (a := ⟨b, _, none⟩) (heap_alloc_old wr _ (Nat.lt_of_lt_of_le HC.out.1 HI.out.2.2.size))).trans (hce k z HZ.out i v h2)
    have HBL2 : Hid (b < (wr.alloc (.cells #[.int .u64 x.stamp, .int .u8 x.act, .int .u32 x.dir, .string x.name, .int .u32 x.ino, .int .u8 x.kind, .int .u32 x.dir2, .string x.name2, .int .u32 x.old, .int .u32 x.size, .int .i64 x.page, .string x.data] 50)).heap.size) := by show _ < _; rw [World.alloc_size']; have := HI.out.2.2.size; have := HC.out.1; omega
    have HXB : Hid ((wr.alloc (.cells #[.int .u64 x.stamp, .int .u8 x.act, .int .u32 x.dir, .string x.name, .int .u32 x.ino, .int .u8 x.kind, .int .u32 x.dir2, .string x.name2, .int .u32 x.old, .int .u32 x.size, .int .i64 x.page, .string x.data] 50)).heap[wr.heap.size]? = some (.cells (cellsR x) 50 (0, 0))) := heap_alloc_new _ _
    clear hce hx
    go_wp2
    have hxo := HL.out.ok x (List.mem_of_getElem? HX.out)
    have hzo := HL.out.ok z (List.mem_of_getElem? HZ.out)
    refine wp_region_rel RelB (phi [isV (.agg #[.int .u64 x.stamp, .int .u8 x.act, .int .u32 x.dir, .string x.name, .int .u32 x.ino, .int .u8 x.kind, .int .u32 x.dir2, .string x.name2, .int .u32 x.old, .int .u32 x.size, .int .i64 x.page, .string x.data]), isV (.slice (some ⟨b, o, none⟩) n c), isV (.int .i64 (k : Int)), isV (.pointer (some ⟨b, o + k * 12, none⟩)), isV (.agg #[.int .u64 z.stamp, .int .u8 z.act, .int .u32 z.dir, .string z.name, .int .u32 z.ino, .int .u8 z.kind, .int .u32 z.dir2, .string z.name2, .int .u32 z.old, .int .u32 z.size, .int .i64 z.page, .string z.data]), isV (.bool (meetB x z))]) (by kernel_rfl) (by kernel_rfl) (by kernel_rfl) (RelB.of (below_drew _)) (fun _ _ _ a b => a.trans b) ?_ ?_ ?_
    · refine stays_phiR ?_
      simp only [List.forall_mem_cons]
      exact ⟨kv, kv, kv, kv, kv, kv, fun _ h => absurd h (by simp)⟩
    · refine ⟨?_, ?_, ?_, ?_, ?_, ?_, trivial⟩
      · refine opR_mk rfl fun a W2 hB hp hq K hK => ?_
        have e6 : a.tmps[6]?.getD undef = .pointer (some ⟨wr.heap.size, 0, none⟩) := hp 6 (by kernel_rfl)
        have x0 := rec_cell0 (RelB.rec hB HXB.out) 0 _ rfl
        have x1 := rec_cell0 (RelB.rec hB HXB.out) 1 _ rfl
        have x2 := rec_cell0 (RelB.rec hB HXB.out) 2 _ rfl
        have x3 := rec_cell0 (RelB.rec hB HXB.out) 3 _ rfl
        have x4 := rec_cell0 (RelB.rec hB HXB.out) 4 _ rfl
        have x5 := rec_cell0 (RelB.rec hB HXB.out) 5 _ rfl
        have x6 := rec_cell0 (RelB.rec hB HXB.out) 6 _ rfl
        have x7 := rec_cell0 (RelB.rec hB HXB.out) 7 _ rfl
        have x8 := rec_cell0 (RelB.rec hB HXB.out) 8 _ rfl
        have x9 := rec_cell0 (RelB.rec hB HXB.out) 9 _ rfl
        have x10 := rec_cell0 (RelB.rec hB HXB.out) 10 _ rfl
        have x11 := rec_cell0 (RelB.rec hB HXB.out) 11 _ rfl
        clear hp hq
        go_simp
        exact hK _ _ (RelB.refl _) rfl
      · refine opR_mk rfl fun a W2 hB hp hq K hK => ?_
        have e0 : a.tmps[0]?.getD undef = .slice (some ⟨b, o, none⟩) n c := hp 0 (by kernel_rfl)
        clear hp hq
        go_simp
        exact hK _ _ (RelB.refl _) rfl
      · refine opR_mk rfl fun a W2 hB hp hq K hK => ?_
        have e1 : a.tmps[1]?.getD undef = .int .i64 (k : Int) := hp 1 (by kernel_rfl)
        clear hp hq
        go_simp
        exact hK _ _ (RelB.refl _) rfl
      · refine opR_mk rfl fun a W2 hB hp hq K hK => ?_
        have e25 : a.tmps[25]?.getD undef = .slice (some ⟨b, o, none⟩) n c := hq 1 _ (by kernel_rfl) rfl
        have e26 : a.tmps[26]?.getD undef = .int .i64 (k : Int) := hq 2 _ (by kernel_rfl) rfl
        clear hp hq
        go_simp
        exact hK _ _ (RelB.refl _) rfl
      · refine opR_mk rfl fun a W2 hB hp hq K hK => ?_
        have e27 : a.tmps[27]?.getD undef = .pointer (some ⟨b, o + k * 12, none⟩) := hq 3 _ (by kernel_rfl) rfl
        have z0 : W2.cell? ⟨b, o + k * 12, none⟩ = some (.int .u64 z.stamp) := (World.cell?_of_block (a := ⟨b, _, none⟩) (Below.block hB b HBL2.out)).trans (HZC.out 0 _ rfl)
        have z1 := (World.cell?_of_block (a := ⟨b, _, none⟩) (Below.block hB b HBL2.out)).trans (HZC.out 1 _ rfl)
        have z2 := (World.cell?_of_block (a := ⟨b, _, none⟩) (Below.block hB b HBL2.out)).trans (HZC.out 2 _ rfl)
        have z3 := (World.cell?_of_block (a := ⟨b, _, none⟩) (Below.block hB b HBL2.out)).trans (HZC.out 3 _ rfl)
        have z4 := (World.cell?_of_block (a := ⟨b, _, none⟩) (Below.block hB b HBL2.out)).trans (HZC.out 4 _ rfl)
        have z5 := (World.cell?_of_block (a := ⟨b, _, none⟩) (Below.block hB b HBL2.out)).trans (HZC.out 5 _ rfl)
        have z6 := (World.cell?_of_block (a := ⟨b, _, none⟩) (Below.block hB b HBL2.out)).trans (HZC.out 6 _ rfl)
        have z7 := (World.cell?_of_block (a := ⟨b, _, none⟩) (Below.block hB b HBL2.out)).trans (HZC.out 7 _ rfl)
        have z8 := (World.cell?_of_block (a := ⟨b, _, none⟩) (Below.block hB b HBL2.out)).trans (HZC.out 8 _ rfl)
        have z9 := (World.cell?_of_block (a := ⟨b, _, none⟩) (Below.block hB b HBL2.out)).trans (HZC.out 9 _ rfl)
        have z10 := (World.cell?_of_block (a := ⟨b, _, none⟩) (Below.block hB b HBL2.out)).trans (HZC.out 10 _ rfl)
        have z11 := (World.cell?_of_block (a := ⟨b, _, none⟩) (Below.block hB b HBL2.out)).trans (HZC.out 11 _ rfl)
        clear hp hq
        go_simp
        exact hK _ _ (RelB.refl _) rfl
      · refine opR_mk rfl fun a W2 hB hp hq K hK => ?_
        have e24 : a.tmps[24]?.getD undef = .agg #[.int .u64 x.stamp, .int .u8 x.act, .int .u32 x.dir, .string x.name, .int .u32 x.ino, .int .u8 x.kind, .int .u32 x.dir2, .string x.name2, .int .u32 x.old, .int .u32 x.size, .int .i64 x.page, .string x.data] := hq 0 _ (by kernel_rfl) rfl
        have e28 : a.tmps[28]?.getD undef = .agg #[.int .u64 z.stamp, .int .u8 z.act, .int .u32 z.dir, .string z.name, .int .u32 z.ino, .int .u8 z.kind, .int .u32 z.dir2, .string z.name2, .int .u32 z.old, .int .u32 z.size, .int .i64 z.page, .string z.data] := hq 4 _ (by kernel_rfl) rfl
        clear hp hq
        go_simp
        refine (meetR W2 hxo hzo).mono ?_
        rintro e w2 ⟨rfl, hb2⟩
        exact hK _ _ (RelB.of hb2) rfl
    · intro vs W3 hB3 hv3 _
      have v5 : vs 5 = .bool (meetB x z) := hv3 5 _ rfl rfl
      have hB4 : Below wr.heap.size wr W3 := (below_a1' wr _).trans ((show Below _ _ _ from hB3).mono (by rw [World.alloc_size']; omega))
      have HW3 : Hid (W3.ownsRow w.heap.size 3 1 (.slice A1 m d1) m (natV (onTo l k i)) ∧ Below w.heap.size w W3) := ⟨row_below HI.out.2.1 hB4, ptrans HI.out.2.2 hB4⟩
      have hst := onTo_succ l k i
      rw [rAt_get HX.out, rAt_get HZ.out] at hst
      have HST := zz hst
      clear hB3 hv3 hB4 hst hxo hzo
      simp only [putAll, Act.put, List.setIfInBounds_toArray, List.set_cons_succ, List.set_cons_zero, Nat.zero_add, Nat.reduceAdd, v5]
      have hm2 : m ≤ i := by have := onTo_len l k i; rw [HI.out.1] at this; exact this
      cases hm : meetB x z
      · go_wp2
        go_roundw
        case rel =>
         refine ⟨i + 1, m, A1, d1, rfl, rfl, hi2, ?_⟩
         show _ ∧ _
         rw [HST.out, if_neg (by rw [hm]; simp), List.append_nil]
         exact ⟨HI.out.1, HW3.out.1, HW3.out.2⟩
        case measure => simp only [intOf]; omega
      · go_wp2_with (at_builtin; refine wpList_append_int rfl (.tmp 30) (.tmp 32) rfl w.heap.size _ (onTo l k i) m (m + 1) HI.out.1 rfl rfl (HW3.out.1.alloc _) W3.heap.size i rfl (heap_alloc_new _ _) (by omega) (by rw [World.alloc_size']; have := HW3.out.2.size; omega) ?_; intro A2 d2 W4 g2 g3; have H4 := zz (And.intro g2 g3); clear g2 g3)
        go_roundw
        case rel =>
         refine ⟨i + 1, m + 1, A2, d2, rfl, rfl, hi2, ?_⟩
         show _ ∧ _
         rw [HST.out, if_pos hm]
         refine ⟨by rw [List.length_append, HI.out.1]; rfl, H4.out.1, ?_⟩
         exact (HW3.out.2.alloc HW3.out.2.size _).grown H4.out.2 (by rw [World.alloc_size']; have := HW3.out.2.size; omega) (fun q hq => (HW3.out.1.lt q hq).1)
        case measure => simp only [intOf]; omega
end
end Go.Proofs.YtogljgiefmfafaaGreat
