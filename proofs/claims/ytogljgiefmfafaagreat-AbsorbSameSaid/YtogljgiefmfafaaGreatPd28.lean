/- Rows of records played, plain: pages that are written again. -/
import Derived.Test.YtogljgiefmfafaaGreatPd27
namespace Go.Proofs.YtogljgiefmfafaaGreat
open Go.RowKit Go.Maps
section
variable {t u : PT} {i d : Int} {x y z : PN} {s : ByteArray} {r : R}
def Held1 (t : PT) : Prop := ∀ j x, t.n j = some x → x.kind = 1 → x.held = 1
structure Stay1 (t u : PT) : Prop where
 on : ∀ j x, t.n j = some x → x.kind = 1 → x.held = 1 → ∃ z, u.n j = some z ∧ z.kind = 1 ∧ z.held = 1
 of : ∀ j z, u.n j = some z → z.kind = 1 → ∃ x, t.n j = some x ∧ x.kind = 1 ∧ z.held = x.held
theorem Stay1.refl (t : PT) : Stay1 t t := ⟨fun _ x h1 h2 h3 => ⟨x, h1, h2, h3⟩, fun _ z h1 h2 => ⟨z, h1, h2, rfl⟩⟩
theorem Stay1.trans {v : PT} (h : Stay1 t u) (g : Stay1 u v) : Stay1 t v := by
 refine ⟨fun j x h1 h2 h3 => ?_, fun j z h1 h2 => ?_⟩
 · obtain ⟨z, a, b, c⟩ := h.on j x h1 h2 h3
   exact g.on j z a b c
 · obtain ⟨y, a, b, c⟩ := g.of j z h1 h2
   obtain ⟨x, a2, b2, c2⟩ := h.of j y a b
   exact ⟨x, a2, b2, c.trans c2⟩
theorem Stay1.held (h : Stay1 t u) (g : Held1 t) : Held1 u := fun j z h1 h2 => by
 obtain ⟨x, a, b, c⟩ := h.of j z h1 h2
 rw [c]
 exact g j x a b
theorem Stay1.set (hx : t.n i = some x) (hk : z.kind = x.kind) (hh : z.held = x.held) : Stay1 t (t.set i z) := by
 refine ⟨fun j w h1 h2 h3 => ?_, fun j w h1 h2 => ?_⟩
 · by_cases e : j = i
   · subst e
     rw [hx] at h1
     cases h1
     exact ⟨z, by rw [PT.set_n, if_pos rfl], by rw [hk]; exact h2, by rw [hh]; exact h3⟩
   · exact ⟨w, by rw [PT.set_n, if_neg e]; exact h1, h2, h3⟩
 · rw [PT.set_n] at h1
   by_cases e : j = i
   · subst e
     rw [if_pos rfl] at h1
     cases h1
     exact ⟨x, hx, by rw [← hk]; exact h2, hh⟩
   · rw [if_neg e] at h1
     exact ⟨w, h1, h2, rfl⟩
theorem kind_in (x : PN) (d : Int) : (inN x d).kind = x.kind := by unfold inN; split <;> rfl
theorem kind_out (x : PN) : (outN x).kind = x.kind := by unfold outN; split <;> rfl
theorem Stay1.enter (hd : t.n d = some x) (hi : t.n i = some y) (hne : i ≠ d) : Stay1 t (enterT t d x s i y) := by
 unfold enterT
 exact (Stay1.set (z := { x with l := updL x.l s.data.toList i }) hd rfl rfl).trans (Stay1.set (x := y) (by rw [PT.set_n, if_neg hne]; exact hi) (kind_in y d) (held_in y d))
theorem Stay1.leave (hd : t.n d = some x) (hi : t.n i = some y) (hne : i ≠ d) : Stay1 t (leaveT t d x s i y) := by
 unfold leaveT
 exact (Stay1.set hi (kind_out y) (held_out y)).trans (Stay1.set (x := x) (z := { x with l := delL x.l s.data.toList }) (by rw [PT.set_n, if_neg (fun e => hne e.symm)]; exact hd) rfl rfl)
theorem Stay1.free (hg : goneB i z = true → ∀ x, t.n i = some x → x.kind = 1 → x.held ≠ 1) : Stay1 t (freeP t i z) := by
 unfold freeP
 split
 · rename_i h
   refine ⟨fun j w h1 h2 h3 => ?_, fun j w h1 h2 => ?_⟩
   · by_cases e : j = i
     · subst e
       exact absurd h3 (hg h w h1 h2)
     · exact ⟨w, by rw [PT.del_n, if_neg e]; exact h1, h2, h3⟩
   · rw [PT.del_n] at h1
     by_cases e : j = i
     · rw [if_pos e] at h1; cases h1
     · rw [if_neg e] at h1
       exact ⟨w, h1, h2, rfl⟩
 · exact .refl t
theorem gone_held (h : goneB i z = true) : z.held = 0 := by
 unfold goneB at h
 simp only [Bool.and_eq_true, beq_iff_eq] at h
 exact h.2.1
theorem Stay1.drop (hd : t.n d = some x) (hi : t.n i = some y) (hne : i ≠ d) : Stay1 t (dropT t d x s i y) := by
 unfold dropT
 refine (Stay1.leave hd hi hne).trans (.free fun hg w hw _ h1 => ?_)
 rw [leave_n hne, if_neg hne, if_pos rfl] at hw
 cases hw
 have := gone_held hg
 omega
theorem Stay1.move {a b : Int} {s2 : ByteArray} {xa xb : PN} (ha : t.n a = some xa) (hi : t.n i = some y) (hb : t.n b = some xb) (hia : i ≠ a) (hib : i ≠ b) : Stay1 t (moveT t a s b s2 i) := by
 have h3 : ∃ xb', (leaveT t a xa s i y).n b = some xb' := by
  rw [leave_n hia]
  split
  · exact ⟨_, rfl⟩
  · rw [if_neg (fun e => hib e.symm)]
    exact ⟨_, hb⟩
 obtain ⟨xb', h3⟩ := h3
 unfold moveT
 rw [ha, hi]
 simp only
 rw [h3]
 exact (Stay1.leave ha hi hia).trans (Stay1.enter h3 (by rw [leave_n hia, if_neg hia, if_pos rfl]) hib)
theorem stay_res {n : Int} : Stay1 t (resizeP t i n).2 := by
 unfold resizeP
 split
 · show Stay1 t (resizeT t i n)
   unfold resizeT
   cases hx : t.n i with
   | none => exact .refl t
   | some x => exact .set hx rfl rfl
 · exact .refl t
theorem stay_write {p : Int} {b : ByteArray} : Stay1 t (writeP t i p b).2 := by
 unfold writeP
 split
 · show Stay1 t (writeT t i p b)
   unfold writeT
   cases hx : t.n i with
   | none => exact .refl t
   | some x => exact .set hx rfl rfl
 · exact .refl t
theorem stay_act (h : WellP t) (h1 : r.act ≠ 1) (h7 : 2 ≤ r.act ∧ r.act ≤ 6) : Stay1 t (actA t r).2 := by
 unfold actA
 rw [if_neg h1]
 split
 · unfold linkA linkP
   split
   · rename_i h0
     show Stay1 t (linkT t r.dir r.name r.ino)
     unfold linkT
     cases hd : t.n r.dir with
     | none => exact .refl t
     | some xd =>
      cases hi : t.n r.ino with
      | none => exact .refl t
      | some xi =>
       refine Stay1.enter hd hi fun e => ?_
       unfold linkE at h0
       rw [first_zero] at h0
       simp only [List.mem_cons, List.not_mem_nil, or_false, forall_eq_or_imp, forall_eq] at h0
       have k1 := dirs_zero h0.2.2.1 (i := r.dir) (by simp) hd
       have k2 := file_zero hi h0.2.2.2.1
       rw [e, hd] at hi
       cases hi
       exact k2 k1
   · exact .refl t
 · split
   · unfold unlinkA
     split
     · exact .refl t
     · rename_i hl
       have hl := Decidable.not_not.1 hl
       obtain ⟨h0, e1⟩ := lookA_zero hl
       obtain ⟨xd, xi, hd, hx, hi, hne, _⟩ := look_zero h h0
       have gen : ∀ q : PN → Int, Stay1 t (dropP t r.dir r.name q).2 := fun q => by
        unfold dropP
        rw [if_neg (by rw [h0]; simp), hd, hi]
        simp only
        split
        · exact .refl t
        · exact Stay1.drop hd hi hne
       split
       · exact gen _
       · exact gen _
   · split
     · unfold renameA
       split
       · exact .refl t
       · rename_i hl
         have hl := Decidable.not_not.1 hl
         obtain ⟨l0, l1⟩ := lookA_zero hl
         obtain ⟨xd, xi, hxd, hx, hi, hne, _⟩ := look_zero h l0
         split
         · exact .refl t
         · unfold renameP
           split
           · exact .refl t
           · rename_i h2
             have h2 := Decidable.not_not.1 h2
             obtain ⟨xa, xb, hxa, hxb, hak, hbk⟩ := rename_dirs h2
             rw [if_neg (by rw [l0]; simp)]
             rw [l1] at hx hi hne ⊢
             rw [hi, hxb]
             simp only
             split
             · exact .refl t
             · rename_i hnb
               have hib : r.ino ≠ r.dir2 := fun e => by
                rw [← e, hi] at hxb
                cases hxb
                have := (h.range _ _ hi).1
                exact hnb ⟨hbk, e ▸ bel_self (by omega)⟩
               cases ho : xb.l r.name2.data.toList with
               | none => exact Stay1.move hxd hi hxb hne hib
               | some old =>
                simp only
                split
                · exact .refl t
                · rename_i hne2
                  obtain ⟨_, _, hob, xo, hxo, _⟩ := h.ent _ _ _ _ hxb ho
                  rw [hxo]
                  simp only
                  split
                  · exact .refl t
                  · rename_i hg
                    obtain ⟨gk, ge⟩ := gives_zero (Decidable.not_not.1 hg)
                    have hod : old ≠ r.dir := fun e => by
                     rw [← e, hxo] at hxd
                     cases hxd
                     rw [ge] at hx
                     cases hx
                    have hne3 : r.ino ≠ old := fun e => hne2 e.symm
                    have n1 : (dropT t r.dir2 xb r.name2 old xo).n r.ino = some xi := by
                     rw [drop_n hob, if_neg hib, if_neg hne3]
                     exact hi
                    have n2 : ∃ xa', (dropT t r.dir2 xb r.name2 old xo).n r.dir = some xa' := by
                     rw [drop_n hob]
                     split
                     · exact ⟨_, rfl⟩
                     · rw [if_neg (fun e => hod e.symm)]
                       exact ⟨_, hxd⟩
                    have n3 : ∃ xb', (dropT t r.dir2 xb r.name2 old xo).n r.dir2 = some xb' := by
                     rw [drop_n hob, if_pos rfl]
                     exact ⟨_, rfl⟩
                    obtain ⟨_, n2⟩ := n2
                    obtain ⟨_, n3⟩ := n3
                    exact (Stay1.drop hxb hxo hob).trans (Stay1.move n2 n1 n3 hne hib)
     · split
       · exact stay_res
       · split
         · unfold pageA
           split
           · exact stay_write
           · exact stay_write.trans stay_res
         · rename_i q1 q2 q3 q4 q5
           exfalso
           omega
theorem check_size {r : R} (hc : checkB r = true) (h : r.act = 6) : r.size ≤ 2304 ∧ 0 ≤ r.page ∧ r.page < 36 ∧ r.data.size = 64 := by
 unfold checkB fitB kSized kData at hc
 simp only [Bool.and_eq_true, Bool.or_eq_true, decide_eq_true_eq, Bool.not_eq_true', beq_iff_eq, decide_eq_false_iff_not] at hc
 obtain ⟨⟨_, h1⟩, h2⟩ := hc
 have h1' : r.size ≤ 2304 := by
  rcases h1 with ⟨_, e⟩ | ⟨e, _⟩
  · exact e
  · exact absurd (.inr h) e
 have h2' : (0 ≤ r.page ∧ r.page < 36) ∧ r.data.size = 64 := by
  rcases h2 with ⟨_, e⟩ | ⟨e, _⟩
  · exact e
  · exact absurd h e
 exact ⟨h1', h2'.1.1, h2'.1.2, h2'.2⟩
theorem setP_set (t : PT) (i : Int) (a b : PN) : (t.set i a).set i b = t.set i b := PT.ext' rfl fun j => by
 show (if j = i then some b else (if j = i then some a else t.n j)) = if j = i then some b else t.n j
 split <;> rfl
def pagedN (r : R) (x : PN) : PN := { x with pages := cutP r.size (updP x.pages r.page r.data.data.toList), size := r.size }
theorem held_act (h : WellP t) (hh : Held1 t) (_hro : r.Ok) (hc : checkB r = true) {t' : PT} (e : actA t r = (0, t')) : Held1 t' ∧ ∀ j x, t.n j = some x → x.kind = 1 → ¬ (r.act = 7 ∧ r.ino = j) → ∃ z, t'.n j = some z ∧ z.kind = 1 := by
 have hact := (check_act hc).1
 have gen : Stay1 t t' → Held1 t' ∧ ∀ j x, t.n j = some x → x.kind = 1 → ¬ (r.act = 7 ∧ r.ino = j) → ∃ z, t'.n j = some z ∧ z.kind = 1 := fun g =>
  ⟨g.held hh, fun j x h1 h2 _ => by
   obtain ⟨z, a, b, _⟩ := g.on j x h1 h2 (hh j x h1 h2)
   exact ⟨z, a, b⟩⟩
 by_cases h1 : r.act = 1
 · have e0 := e
   unfold actA at e
   rw [if_pos h1] at e
   unfold madeA at e
   obtain ⟨e1, t1, hm⟩ : ∃ e1 t1, makeAtP t r.dir r.name r.kind r.ino = (e1, t1) := ⟨_, _, rfl⟩
   rw [hm] at e
   by_cases z0 : e1 = 0
   · subst z0
     have hm0 := hm
     unfold makeAtP at hm
     split at hm
     · rename_i m0
       injection hm with _ hm
       obtain ⟨hk12, _, _, ⟨xd, hd, _, _⟩, hn⟩ := makeAtE_zero m0
       have hne : r.ino ≠ r.dir := fun c => by rw [c, hd] at hn; cases hn
       -- the tree behind the make
       have ht1 : t1 = enterT (t.set r.ino (newN r.kind)) r.dir xd r.name r.ino (newN r.kind) := by
        rw [← hm]
        unfold makeT
        rw [hd]
       have hn1 : ∀ j, t1.n j = if j = r.ino then some (inN (newN r.kind) r.dir) else if j = r.dir then some { xd with l := updL xd.l r.name.data.toList r.ino } else t.n j := fun j => by
        rw [ht1]
        unfold enterT
        rw [PT.set_n, PT.set_n, PT.set_n]
        by_cases c1 : j = r.ino
        · simp only [if_pos c1]
        · simp only [if_neg c1]
       have others : ∀ (u : PT), (∀ j, j ≠ r.ino → u.n j = t1.n j) → (∀ z, u.n r.ino = some z → z.kind = 1 → z.held = 1) → Held1 u ∧ ∀ j x, t.n j = some x → x.kind = 1 → ¬ (r.act = 7 ∧ r.ino = j) → ∃ z, u.n j = some z ∧ z.kind = 1 := fun u hu hz => by
        refine ⟨fun j z hj hk => ?_, fun j x hj hk _ => ?_⟩
        · by_cases c1 : j = r.ino
          · subst c1; exact hz z hj hk
          · rw [hu j c1, hn1, if_neg c1] at hj
            by_cases c2 : j = r.dir
            · rw [if_pos c2] at hj
              cases hj
              exact hh r.dir xd hd hk
            · rw [if_neg c2] at hj
              exact hh j z hj hk
        · have c1 : j ≠ r.ino := fun c => by rw [c, hn] at hj; cases hj
          rw [hu j c1, hn1, if_neg c1]
          by_cases c2 : j = r.dir
          · rw [if_pos c2]
            subst c2
            rw [hd] at hj
            cases hj
            exact ⟨_, rfl, hk⟩
          · rw [if_neg c2]
            exact ⟨x, hj, hk⟩
       by_cases hk2 : r.kind = 2
       · rw [if_pos (.inr hk2)] at e
         injection e with _ e
         subst e
         refine others _ (fun j _ => rfl) fun z hz hk => ?_
         rw [hn1, if_pos rfl] at hz
         cases hz
         rw [kind_in] at hk
         have : (newN r.kind).kind = r.kind := rfl
         omega
       · have m : ∀ q : Int × PT, q.1 = 0 → ¬ (q.1 ≠ 0 ∨ r.kind = 2) := fun q hq c => c.elim (fun n => n hq) hk2
         rw [if_neg (m _ rfl)] at e
         simp only at e
         unfold holdP at e
         split at e
         · injection e with _ e
           have hz1 : t1.n r.ino = some (inN (newN r.kind) r.dir) := by rw [hn1, if_pos rfl]
           rw [hz1] at e
           simp only at e
           subst e
           refine others _ (fun j c1 => by rw [PT.set_n, if_neg c1]) fun z hz _ => ?_
           rw [PT.set_n, if_pos rfl] at hz
           cases hz
           show (inN (newN r.kind) r.dir).held + 1 = 1
           rw [held_in]
           rfl
         · rename_i c
           injection e with c1 _
           exact absurd c1 c
     · rename_i c
       injection hm with c1 _
       exact absurd c1 c
   · rw [if_pos (.inl z0)] at e
     injection e with e _
     exact absurd e z0
 · by_cases h7 : r.act = 7
   · unfold actA at e
     rw [if_neg (by omega), if_neg (by omega), if_neg (by omega), if_neg (by omega), if_neg (by omega), if_neg (by omega)] at e
     unfold freeA at e
     cases hx : t.n r.ino with
     | none =>
      rw [hx] at e
      injection e with e _
      cases e
     | some x =>
      rw [hx] at e
      simp only at e
      split at e
      · injection e with e _
        cases e
      · rename_i hl
        unfold unholdP at e
        split at e
        · rename_i h0
          injection e with _ e
          rw [hx] at e
          simp only at e
          have hhe : x.held ≠ 0 := fun c => by
           unfold unholdE at h0
           rw [first_zero] at h0
           simp only [List.mem_cons, List.not_mem_nil, or_false, forall_eq_or_imp, forall_eq] at h0
           have := h0.2
           unfold heldE' at this
           rw [hx] at this
           unfold heldE at this
           simp [c] at this
          have hk1 : x.kind = 1 := (h.kind _ x hx).resolve_right fun c => hhe (h.dirs _ x hx c).2
          have hl0 : x.links = 0 := by have := (h.most _ x hx).1; omega
          have hi1 : r.ino ≠ 1 := fun c => by
           obtain ⟨z, hz, hzk, _⟩ := h.root
           rw [← c, hx] at hz
           cases hz
           omega
          have hg : goneB r.ino { x with held := x.held - 1 } = true := by
           unfold goneB
           simp [hk1, hl0, hi1, hh _ x hx hk1]
          have ht' : t' = t.del r.ino := by
           rw [← e]
           unfold unholdT freeP
           rw [if_pos hg]
           refine PT.ext' rfl fun j => ?_
           rw [PT.del_n, PT.del_n]
           by_cases c : j = r.ino
           · rw [if_pos c, if_pos c]
           · rw [if_neg c, if_neg c, PT.set_n, if_neg c]
          subst ht'
          refine ⟨fun j z hj hk => ?_, fun j z hj hk hn => ⟨z, by rw [PT.del_n, if_neg (fun c => hn ⟨h7, c.symm⟩)]; exact hj, hk⟩⟩
          rw [PT.del_n] at hj
          by_cases c : j = r.ino
          · rw [if_pos c] at hj; cases hj
          · rw [if_neg c] at hj
            exact hh j z hj hk
        · rename_i c
          injection e with c1 _
          exact absurd c1 c
   · have := stay_act (r := r) h h1 (by omega)
     rw [e] at this
     exact gen this
theorem page_act (h : WellP t) (hc : checkB r = true) (h6 : r.act = 6) (hx : t.n r.ino = some x) (hk : x.kind = 1) : actA t r = (0, t.set r.ino (pagedN r x)) := by
 obtain ⟨c1, c2, c3, c4⟩ := check_size hc h6
 have hl : r.data.data.toList.length = 64 := by rw [← Lib.size_eq]; exact c4
 have e1 : thereE t [r.ino] = 0 := by simp [thereE, hx]
 have e2 : fileE' t r.ino = 0 := by unfold fileE'; rw [hx]; simp [fileQE, hk]
 have e3 : pagedE r.page = 0 := by unfold pagedE; rw [if_neg (by omega)]
 have e4 : dataE r.data = 0 := by unfold dataE; rw [if_neg (by omega)]
 have w0 : writeE t r.ino r.page r.data = 0 := by unfold writeE; rw [first_zero]; simp [e1, e2, e3, e4]
 have hov : over r.data.data.toList ((x.pages r.page).getD z64) = r.data.data.toList := by
  have hb : ((x.pages r.page).getD z64).length = 64 := by
   cases hp : x.pages r.page with
   | none => rfl
   | some b => exact ((h.pages _ x hx).len _ b hp).1
  unfold over
  rw [List.drop_of_length_le (by omega), List.append_nil]
 have ew : writeP t r.ino r.page r.data = (0, t.set r.ino { x with pages := updP x.pages r.page r.data.data.toList, size := max x.size (r.page * 64 + r.data.size) }) := by
  unfold writeP
  rw [if_pos w0]
  unfold writeT
  rw [hx]
  simp only
  rw [hov]
 unfold actA
 rw [if_neg (by omega), if_neg (by omega), if_neg (by omega), if_neg (by omega), if_neg (by omega), if_pos h6]
 unfold pageA
 rw [ew]
 have n0 : ∀ q : Int × PT, q.1 = 0 → ¬ q.1 ≠ 0 := fun _ h n => n h
 rw [if_neg (n0 _ rfl)]
 have hn : ∀ a : PN, (t.set r.ino a).n r.ino = some a := fun a => by rw [PT.set_n, if_pos rfl]
 have r0 : resizeE (t.set r.ino { x with pages := updP x.pages r.page r.data.data.toList, size := max x.size (r.page * 64 + r.data.size) }) r.ino r.size = 0 := by
  unfold resizeE
  rw [first_zero]
  have q1 : thereE (t.set r.ino { x with pages := updP x.pages r.page r.data.data.toList, size := max x.size (r.page * 64 + r.data.size) }) [r.ino] = 0 := by simp [thereE, hn]
  have q2 : fileE' (t.set r.ino { x with pages := updP x.pages r.page r.data.data.toList, size := max x.size (r.page * 64 + r.data.size) }) r.ino = 0 := by unfold fileE'; rw [hn]; simp [fileQE, hk]
  have q3 : sizedE r.size = 0 := by unfold sizedE; rw [if_neg (by omega)]
  simp [q1, q2, q3]
 unfold resizeP
 rw [if_pos r0]
 unfold resizeT
 rw [hn]
 simp only
 rw [setP_set]
 rfl
theorem page_file (h : WellP t) (_hc : checkB r = true) (h6 : r.act = 6) (e : (actA t r).1 = 0) : ∃ x, t.n r.ino = some x ∧ x.kind = 1 := by
 unfold actA at e
 rw [if_neg (by omega), if_neg (by omega), if_neg (by omega), if_neg (by omega), if_neg (by omega), if_pos h6] at e
 have w0 : writeE t r.ino r.page r.data = 0 := by
  unfold pageA at e
  by_cases c : (writeP t r.ino r.page r.data).1 = 0
  · unfold writeP at c
    split at c
    · rename_i c2; exact c2
    · exact c
  · rw [if_pos c] at e
    exact absurd e c
 unfold writeE at w0
 rw [first_zero] at w0
 simp only [List.mem_cons, List.not_mem_nil, or_false, forall_eq_or_imp, forall_eq] at w0
 obtain ⟨x, hx⟩ := Option.isSome_iff_exists.1 (there_one w0.1)
 exact ⟨x, hx, (h.kind _ x hx).resolve_right (file_zero hx w0.2.1)⟩
end
theorem cutP_at {n : Int} {m m' : Int → Option (List UInt8)} {k : Int} (h : m k = m' k) : cutP n m k = cutP n m' k := by
 unfold cutP
 rw [h]
theorem cutP_cutP {n n' : Int} (hn : n ≤ n') {m : Int → Option (List UInt8)} {k : Int} (hl : ∀ b, m k = some b → b.length = 64) : cutP n (cutP n' m) k = cutP n m k := by
 unfold cutP
 cases hm : m k with
 | none => rfl
 | some b =>
  have hb := hl b hm
  simp only
  by_cases c1 : n' - k * 64 ≤ 0
  · rw [if_pos c1]
    simp only
    rw [if_pos (by omega)]
  · rw [if_neg c1]
    by_cases c2 : n' - k * 64 < 64
    · rw [if_pos c2]
      simp only
      by_cases c3 : n - k * 64 ≤ 0
      · rw [if_pos c3, if_pos c3]
      · rw [if_neg c3, if_neg c3, if_pos (by omega), if_pos (by omega)]
        congr 1
        unfold cutB
        congr 1
        rw [List.take_append_of_le_length (by rw [List.length_take]; omega), List.take_take]
        congr 1
        omega
    · rw [if_neg c2]
section
variable {t u a b : PT} {i : Int}
def noneI : Int → Prop := fun _ => False
theorem cutL_id (l : List UInt8 → Option Int) : cutL noneI l = l := by
 funext q
 cases h : l q with
 | none => exact cutL_none h
 | some v => exact cutL_some h (fun c => c)
noncomputable def PS (i : Int) (P : Int → Option (List UInt8)) (z : Int) (t : PT) : PT := FT noneI i P z t
theorem PS_n (P : Int → Option (List UInt8)) (z : Int) (t : PT) (j : Int) : (PS i P z t).n j = (t.n j).map fun x => if j = i then { x with pages := P, size := z } else x := by
 cases h : t.n j with
 | none => exact FT_none h
 | some x =>
  show (FT noneI i P z t).n j = _
  rw [FT_some h (fun c => c)]
  unfold FN
  rw [cutL_id]
  by_cases e : j = i
  · simp [e]
  · simp [e]
theorem PS_PS (P Q : Int → Option (List UInt8)) (z w : Int) (t : PT) : PS i Q w (PS i P z t) = PS i Q w t := PT.ext' rfl fun j => by
 rw [PS_n, PS_n, PS_n]
 cases t.n j with
 | none => rfl
 | some x =>
  by_cases e : j = i
  · simp [e]
  · simp [e]
theorem PS_self {x : PN} (h : t.n i = some x) : PS i x.pages x.size t = t := PT.ext' rfl fun j => by
 rw [PS_n]
 by_cases e : j = i
 · subst e
   rw [h]
   simp
 · cases t.n j with
   | none => rfl
   | some x => simp [e]
theorem PS_get {P : Int → Option (List UInt8)} {z : Int} {x : PN} (h : t.n i = some x) : (PS i P z t).n i = some { x with pages := P, size := z } := by
 rw [PS_n, h]
 simp
theorem PS_act {P : Int → Option (List UInt8)} {z : Int} (h : WellP t) {r : R} {t' : PT} (hc : checkB r = true) (hp : r.act = 1 ∨ 5 ≤ r.act → r.ino ≠ i) (e : actA t r = (0, t')) : actA (PS i P z t) r = (0, PS i P z t') :=
 FT_act h (fun _ c => c.elim) hc (fun c => c) (fun _ c => c) (fun _ => ⟨fun c => c, fun c => c⟩) hp e
def againP (x : R) : Nat → List R → Bool
 | _, [] => false
 | c, r :: rs =>
  if r.ino ≠ x.ino then againP x c rs
  else if r.act = 5 ∨ r.act = 7 ∨ r.act = 1 then false
  else if r.act = 6 then
   if c = 0 ∧ x.size < r.size then false
   else if r.page = x.page then true
   else againP x (c + 1) rs
  else againP x c rs
def leftP : List R → List R
 | [] => []
 | x :: l => if x.act = 6 ∧ againP x 0 l = true then leftP l else x :: leftP l
def Rel2 (x : R) (c : Nat) (a b : PT) : Prop := ∃ y Pa sa, b.n x.ino = some y ∧ y.kind = 1 ∧ a = PS x.ino Pa sa b ∧
 (c = 0 → sa = x.size ∧ ∀ q, q ≠ x.page → Pa q = cutP x.size y.pages q) ∧ (0 < c → sa = y.size ∧ ∀ q, q ≠ x.page → Pa q = y.pages q)
theorem playA_check {r : R} (hc : checkB r = true) : playA t r = actA t r := by unfold playA; rw [if_pos hc]
theorem again_rel {x : R} : ∀ {l : List R} {c : Nat} {a b u : PT}, WellP a → WellP b → Held1 b → (∀ r ∈ l, r.Ok) → Rel2 x c a b → runA a l = some u → againP x c l = true → runA b l = some u
 | [], c, a, b, u, _, _, _, _, _, _, h => by cases h
 | r :: l, c, a, b, u, ha, hb, hh, ho, hr, e, hag => by
  have hc := runA_check e r (by simp)
  obtain ⟨e1, e2⟩ := runA_cons.1 e
  have hro : r.Ok := ho r (by simp)
  have hol : ∀ r ∈ l, r.Ok := fun x hx => ho x (List.mem_cons_of_mem _ hx)
  have hact := (check_act hc).1
  obtain ⟨y, Pa, sa, hy, hyk, rfl, q0, q1⟩ := hr
  obtain ⟨a', hpa⟩ : ∃ a', actA (PS x.ino Pa sa b) r = (0, a') := by
   rw [playA_check hc] at e1
   exact ⟨_, Prod.ext e1 rfl⟩
  have e2' : runA a' l = some u := by
   rw [playA_check hc, hpa] at e2
   exact e2
  have hwa' : WellP a' := by
   have := ha.actA_ (r := r) hro
   rw [hpa] at this
   exact this
  -- what does not touch the inode's pages
  have other : (r.act = 1 ∨ 5 ≤ r.act → r.ino ≠ x.ino) → (∀ c, againP x c (r :: l) = againP x c l) → runA b (r :: l) = some u := fun hp hgo => by
   have h1 := PS_act (i := x.ino) (P := y.pages) (z := y.size) ha hc hp hpa
   rw [PS_PS, PS_self hy] at h1
   have h2 := PS_act (i := x.ino) (P := Pa) (z := sa) ha hc hp hpa
   rw [PS_PS, hpa] at h2
   injection h2 with _ h2
   obtain ⟨b', hb'⟩ : ∃ b', PS x.ino y.pages y.size a' = b' := ⟨_, rfl⟩
   rw [hb'] at h1
   have h3 : a' = PS x.ino Pa sa b' := by rw [← hb', PS_PS]; exact h2
   have hwb' : WellP b' := by
    have := hb.actA_ (r := r) hro
    rw [h1] at this
    exact this
   have hst : Held1 b' ∧ ∃ y', b'.n x.ino = some y' ∧ y'.kind = 1 := by
    obtain ⟨g1, g2⟩ := held_act hb hh hro hc h1
    exact ⟨g1, g2 _ y hy hyk fun ⟨c1, c2⟩ => hp (.inr (by omega)) c2⟩
   obtain ⟨hh', y', hy', hyk'⟩ := hst
   have hpp : y'.pages = y.pages ∧ y'.size = y.size := by
    rw [← hb', PS_n] at hy'
    cases hz : a'.n x.ino with
    | none => rw [hz] at hy'; cases hy'
    | some w =>
     rw [hz] at hy'
     simp at hy'
     rw [← hy']
     exact ⟨rfl, rfl⟩
   refine runA_cons.2 ⟨by rw [playA_check hc, h1], ?_⟩
   rw [playA_check hc, h1]
   exact again_rel hwa' hwb' hh' hol ⟨y', Pa, sa, hy', hyk', h3, fun c0 => ⟨(q0 c0).1, by rw [hpp.1]; exact (q0 c0).2⟩, fun c0 => ⟨by rw [hpp.2]; exact (q1 c0).1, by rw [hpp.1]; exact (q1 c0).2⟩⟩ e2' (by rw [← hgo]; exact hag)
  by_cases hi : r.ino = x.ino
  · by_cases h571 : r.act = 5 ∨ r.act = 7 ∨ r.act = 1
    · unfold againP at hag
      rw [if_neg (by simp [hi]), if_pos h571] at hag
      cases hag
    · by_cases h6 : r.act = 6
      · -- a page of it
        have hna : (PS x.ino Pa sa b).n r.ino = some { y with pages := Pa, size := sa } := by rw [hi]; exact PS_get hy
        have hnb : b.n r.ino = some y := by rw [hi]; exact hy
        have pa := page_act ha hc h6 hna hyk
        have pb := page_act hb hc h6 hnb hyk
        rw [hpa] at pa
        injection pa with _ pa
        have hlen : ∀ q bb, y.pages q = some bb → bb.length = 64 := fun q bb hq => ((hb.pages _ y hy).len q bb hq).1
        have hdl : r.data.data.toList.length = 64 := by rw [← Lib.size_eq]; exact (check_size hc h6).2.2.2
        obtain ⟨Pa', hPa'⟩ : ∃ Pa', cutP r.size (updP Pa r.page r.data.data.toList) = Pa' := ⟨_, rfl⟩
        obtain ⟨Pb', hPb'⟩ : ∃ Pb', cutP r.size (updP y.pages r.page r.data.data.toList) = Pb' := ⟨_, rfl⟩
        have key : (c = 0 → r.size ≤ x.size) → ∀ q, q ≠ x.page ∨ q = r.page → Pa' q = Pb' q := fun hs q hq => by
         rw [← hPa', ← hPb']
         by_cases c1 : q = r.page
         · subst c1
           exact cutP_at (by unfold updP; rw [if_pos rfl, if_pos rfl])
         · have hq' := hq.resolve_right c1
           have u1 : updP Pa r.page r.data.data.toList q = Pa q := by unfold updP; rw [if_neg c1]
           have u2 : updP y.pages r.page r.data.data.toList q = y.pages q := by unfold updP; rw [if_neg c1]
           rw [cutP_at u1, cutP_at u2]
           by_cases c0 : c = 0
           · rw [cutP_at ((q0 c0).2 q hq')]
             exact cutP_cutP (hs c0) fun bb hbb => hlen q bb hbb
           · exact cutP_at ((q1 (by omega)).2 q hq')
        have hwb' : WellP (b.set r.ino (pagedN r y)) := by
         have := hb.actA_ (r := r) hro
         rw [pb] at this
         exact this
        have hh' : Held1 (b.set r.ino (pagedN r y)) := (held_act hb hh hro hc pb).1
        have hA : a' = PS x.ino Pa' r.size (b.set r.ino (pagedN r y)) := by
         rw [pa, hi]
         refine PT.ext' rfl fun j => ?_
         rw [PS_n, PT.set_n, PT.set_n]
         by_cases e0 : j = x.ino
         · rw [if_pos e0, if_pos e0]
           simp only [Option.map_some, if_pos e0]
           unfold pagedN
           simp only [hPa']
         · rw [if_neg e0, if_neg e0, PS_n]
           cases b.n j with
           | none => rfl
           | some w => simp [e0]
        have hN : (b.set r.ino (pagedN r y)).n x.ino = some (pagedN r y) := by rw [PT.set_n, if_pos hi.symm]
        have hs : c = 0 → r.size ≤ x.size := fun c0 => by
         by_cases c2 : x.size < r.size
         · unfold againP at hag
           rw [if_neg (by simp [hi]), if_neg h571, if_pos h6, if_pos ⟨c0, c2⟩] at hag
           cases hag
         · omega
        have hns : ¬ (c = 0 ∧ x.size < r.size) := fun ⟨c0, c2⟩ => by have := hs c0; omega
        refine runA_cons.2 ⟨by rw [playA_check hc, pb], ?_⟩
        rw [playA_check hc, pb]
        simp only
        by_cases hp : r.page = x.page
        · -- the same one
          have hE : Pa' = Pb' := by
           funext q
           by_cases c1 : q = x.page
           · exact key hs q (.inr (c1.trans hp.symm))
           · exact key hs q (.inl c1)
          have hpp : (pagedN r y).pages = Pb' := hPb'
          have hps : (pagedN r y).size = r.size := rfl
          rw [hE, ← hpp, ← hps, PS_self hN] at hA
          rw [← hA]
          exact e2'
        · refine again_rel hwa' hwb' hh' hol ⟨pagedN r y, Pa', r.size, hN, hyk, hA, fun c0 => by omega, fun _ => ⟨rfl, fun q hq => ?_⟩⟩ e2' (c := c + 1) ?_
          · show Pa' q = cutP r.size (updP y.pages r.page r.data.data.toList) q
            rw [hPb']
            exact key hs q (.inl hq)
          · unfold againP at hag
            rw [if_neg (by simp [hi]), if_neg h571, if_pos h6, if_neg hns, if_neg hp] at hag
            exact hag
      · refine other (fun h => by omega) fun c => ?_
        conv => lhs; unfold againP
        rw [if_neg (by simp [hi]), if_neg h571, if_neg h6]
  · refine other (fun _ => hi) fun c => ?_
    conv => lhs; unfold againP
    rw [if_pos hi]
theorem rel_start {x : R} (h : WellP t) (hc : checkB x = true) (h6 : x.act = 6) {a : PT} (e : actA t x = (0, a)) : Rel2 x 0 a t := by
 obtain ⟨y, hy, hk⟩ := page_file h hc h6 (by rw [e])
 have h1 := page_act h hc h6 hy hk
 rw [e] at h1
 injection h1 with _ h1
 refine ⟨y, (pagedN x y).pages, x.size, hy, hk, ?_, fun _ => ⟨rfl, fun q hq => ?_⟩, fun c => by omega⟩
 · rw [h1]
   refine PT.ext' rfl fun j => ?_
   rw [PS_n, PT.set_n]
   by_cases e0 : j = x.ino
   · rw [if_pos e0, e0, hy]
     simp [pagedN]
   · rw [if_neg e0]
     cases t.n j with
     | none => rfl
     | some w => simp [e0]
 · exact cutP_at (by unfold updP; rw [if_neg hq])
theorem runA_leftP : ∀ {l : List R} {t u : PT}, WellP t → Held1 t → (∀ r ∈ l, r.Ok) → runA t l = some u → runA t (leftP l) = some u
 | [], t, u, _, _, _, e => e
 | x :: l, t, u, h, hh, ho, e => by
  have hc := runA_check e x (by simp)
  have hxo : x.Ok := ho x (by simp)
  have hol : ∀ r ∈ l, r.Ok := fun y hy => ho y (List.mem_cons_of_mem _ hy)
  obtain ⟨e1, e2⟩ := runA_cons.1 e
  rw [playA_check hc] at e1 e2
  obtain ⟨a, ha⟩ : ∃ a, actA t x = (0, a) := ⟨_, Prod.ext e1 rfl⟩
  rw [ha] at e2
  have hwa : WellP a := by
   have := h.actA_ (r := x) hxo
   rw [ha] at this
   exact this
  unfold leftP
  by_cases c : x.act = 6 ∧ againP x 0 l = true
  · rw [if_pos c]
    exact runA_leftP h hh hol (again_rel hwa h hh hol (rel_start h hc c.1 ha) e2 c.2)
  · rw [if_neg c]
    refine runA_cons.2 ⟨by rw [playA_check hc, ha], ?_⟩
    rw [playA_check hc, ha]
    exact runA_leftP hwa (held_act h hh hxo hc ha).1 hol e2
end
end Go.Proofs.YtogljgiefmfafaaGreat
