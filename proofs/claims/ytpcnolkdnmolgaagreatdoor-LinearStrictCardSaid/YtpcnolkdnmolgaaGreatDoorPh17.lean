/- The model, plain: whatever is called, each inode is held as often as descriptors are of it; what is refused changes nothing. -/
import Derived.Test.YtpcnolkdnmolgaaGreatDoorPh13
import Derived.Test.YtpcnolkdnmolgaaGreatDoorPh15
import Derived.Test.YtpcnolkdnmolgaaGreatDoorPh16
import Derived.Laws.Rows
namespace Go.Proofs.YtpcnolkdnmolgaaGreatDoor
section
open Go.RowKit Go.Maps
def MD.Ok (m : MD) : Prop := HoldOk m.t m.T m.n
section
variable {m : MD} {c : Nat} {x : Cx} {t : PT}
theorem free_some {T : Nat → Int} {k : Nat} (h : freeFd T c = some k) : k < 16 ∧ T (c * 16 + k) = 0 := by
 unfold freeFd at h
 have h1 := List.find?_some h
 have h2 := List.mem_of_find?_eq_some h
 simp at h1 h2
 exact ⟨h2, h1⟩
theorem free_least {T : Nat → Int} {k : Nat} (h : freeFd T c = some k) : ∀ j, j < k → T (c * 16 + j) ≠ 0 := by
 intro j hj e
 unfold freeFd at h
 rw [List.find?_range_eq_some] at h
 have := h.2.2 j hj
 simp [e] at this
theorem free_none {T : Nat → Int} (h : freeFd T c = none) : ∀ k, k < 16 → T (c * 16 + k) ≠ 0 := by
 intro k hk e
 unfold freeFd at h
 rw [List.find?_eq_none] at h
 have := h k (by simpa using hk)
 simp [e] at this
theorem m_make_same (d : Int) (s : ByteArray) (k i : Int) (h : (makeP t d s k i).1.2 ≠ 0) : (makeP t d s k i).2 = t := by
 unfold makeP at *
 split at h
 · rename_i c
   rw [if_pos c]
   show (makeAtP t d s k i).2 = t
   unfold makeAtP at *
   split at h
   · exact absurd rfl h
   · rename_i c; rw [if_neg c]
 · rename_i c; rw [if_neg c]
theorem m_link_same (d : Int) (s : ByteArray) (i : Int) (h : (linkP t d s i).1 ≠ 0) : (linkP t d s i).2 = t := by
 unfold linkP at *
 split at h
 · exact absurd rfl h
 · rename_i c; rw [if_neg c]
theorem m_drop_same (d : Int) (s : ByteArray) (q : PN → Int) (h : (dropP t d s q).1.2 ≠ 0) : (dropP t d s q).2 = t := by
 unfold dropP at *
 split at h
 · rename_i c; rw [if_pos c]
 · rename_i c
   rw [if_neg c]
   split at h
   · rename_i xd xi e1 e2
     try rw [e1, e2]
     try simp only
     split at h
     · rename_i c2; rw [if_pos c2]
     · exact absurd rfl h
   · exact absurd rfl h
theorem m_rename_same (a : Int) (s : ByteArray) (b : Int) (s2 : ByteArray) (h : (renameP t a s b s2).1 ≠ 0) : (renameP t a s b s2).2 = t := by
 unfold renameP at *
 split at h
 · rename_i c; rw [if_pos c]
 · rename_i c
   rw [if_neg c]
   split at h
   · rename_i c2; rw [if_pos c2]
   · rename_i c2
     rw [if_neg c2]
     split at h
     · rename_i xi xb e1 e2
       try rw [e1, e2]
       try simp only
       split at h
       · rename_i c3; rw [if_pos c3]
       · rename_i c3
         try rw [if_neg c3]
         split at h
         · exact absurd rfl h
         · rename_i old e3
           try rw [e3]
           try simp only
           split at h
           · exact absurd rfl h
           · rename_i c4
             try rw [if_neg c4]
             split at h
             · rename_i xo e5
               try rw [e5]
               try simp only
               split at h
               · rename_i c6; rw [if_pos c6]
               · exact absurd rfl h
             · exact absurd rfl h
     · exact absurd rfl h
theorem m_resize_same (i n : Int) (h : (resizeP t i n).1 ≠ 0) : (resizeP t i n).2 = t := by
 unfold resizeP at *
 split at h
 · exact absurd rfl h
 · rename_i c; rw [if_neg c]
theorem m_write_same (i p : Int) (d : ByteArray) (h : (writeP t i p d).1 ≠ 0) : (writeP t i p d).2 = t := by
 unfold writeP at *
 split at h
 · exact absurd rfl h
 · rename_i c; rw [if_neg c]
theorem m_hold_same (i : Int) (h : (holdP t i).1 ≠ 0) : (holdP t i).2 = t := by
 unfold holdP at *
 split at h
 · exact absurd rfl h
 · rename_i c; rw [if_neg c]
theorem make_file {d i : Int} {s : ByteArray} (h : (makeP t d s 1 i).1.2 = 0) : (makeP t d s 1 i).1.1 = i ∧ ∃ y, (makeP t d s 1 i).2.n i = some y ∧ y.kind = 1 := by
 unfold makeP at *
 by_cases c : (makeQ t d s 1 i).2 = 0
 · rw [if_pos c] at h ⊢
   refine ⟨rfl, ?_⟩
   show ∃ y, (makeAtP t d s 1 i).2.n i = some y ∧ y.kind = 1
   have h' : (makeAtP t d s 1 i).1 = 0 := h
   unfold makeAtP at h' ⊢
   by_cases c2 : makeAtE t d s 1 i = 0
   · rw [if_pos c2]
     show ∃ y, (makeT t d s 1 i).n i = some y ∧ y.kind = 1
     unfold makeAtE at c2
     obtain ⟨_, c2⟩ := firstE_cons c2
     obtain ⟨_, c2⟩ := firstE_cons c2
     obtain ⟨_, c2⟩ := firstE_cons c2
     obtain ⟨z, _⟩ := firstE_cons c2
     obtain ⟨xd, hd⟩ := Option.isSome_iff_exists.1 (there_one z)
     unfold makeT
     rw [hd]
     simp only
     rw [enter_n, if_pos rfl]
     exact ⟨_, rfl, rfl⟩
   · rw [if_neg c2] at h'; exact absurd h' c2
 · rw [if_neg c] at h; exact absurd h c
theorem hold_file {i : Int} {y : PN} (h : t.n i = some y) (hk : y.kind = 1) : (holdP t i).1 = 0 := by
 have e : holdE t i = 0 := by
  unfold holdE
  have e1 : thereE t [i] = 0 := by unfold thereE; simp [h]
  have e2 : fileE' t i = 0 := by
   unfold fileE'
   rw [h]
   show fileQE y = 0
   unfold fileQE
   rw [hk]
   rfl
  rw [e1, e2]
  rfl
 unfold holdP
 rw [if_pos e]
theorem hold_there {i : Int} (h : (holdP t i).1 = 0) : ∃ y, t.n i = some y := by
 unfold holdP at h
 by_cases c : holdE t i = 0
 · unfold holdE at c
   obtain ⟨z, _⟩ := firstE_cons c
   exact Option.isSome_iff_exists.1 (there_one z)
 · rw [if_neg c] at h; exact absurd h c
theorem opened_ok {i : Int} {k : Nat} (h : (holdP m.t i).1 = 0) (hk : freeFd m.T c = some k) : openedM m c i = (⟨0, k, i, stat0, none, ByteArray.empty⟩, { m with t := (holdP m.t i).2, T := updT m.T (c * 16 + k) i }) := by
 unfold openedM
 rw [if_neg (fun e => e h), hk]
theorem MD.Ok.opened (h : m.Ok) (hc : (c : Int) < m.n) (hf : (freeFd m.T c).isNone = false) (i : Int) : (openedM m c i).2.Ok ∧ (openedM m c i).2.n = m.n ∧ ((openedM m c i).1.err ≠ 0 → (openedM m c i).2 = m) := by
 unfold openedM
 by_cases h0 : (holdP m.t i).1 = 0
 · rw [if_neg (fun e => e h0)]
   cases hk : freeFd m.T c with
   | none => rw [hk] at hf; simp at hf
   | some k =>
    obtain ⟨k1, k2⟩ := free_some hk
    obtain ⟨y, hy⟩ := hold_there h0
    have hr := h.well.range i y hy
    have hm := h.cores
    refine ⟨HoldOk.open_ h (p := c * 16 + k) (by omega) (by omega) k2 h0 (by omega), rfl, fun e => absurd rfl e⟩
 · rw [if_pos h0]
   have e : { m with t := (holdP m.t i).2 } = m := by rw [m_hold_same i h0]
   rw [e]
   exact ⟨h, rfl, fun _ => rfl⟩
theorem MD.Ok.turn {t' : PT} (h : m.Ok) (hW : WellP t') (hh : ∀ j, heldR t' j = heldR m.t j) : ({ m with t := t' } : MD).Ok := HoldOk.turn h hW hh
theorem MD.same {t' : PT} (h : t' = m.t) : ({ m with t := t' } : MD) = m := by rw [h]
def Deed (m : MD) (r : Rs × MD) : Prop := r.2.Ok ∧ r.2.n = m.n ∧ (r.1.err ≠ 0 → r.2 = m)
theorem Deed.same (h : m.Ok) (r : Rs) : Deed m (r, m) := ⟨h, rfl, fun _ => rfl⟩
theorem Deed.turn {t' : PT} (h : m.Ok) (r : Rs) (hW : WellP t') (hh : ∀ j, heldR t' j = heldR m.t j) (he : r.err ≠ 0 → t' = m.t) : Deed m (r, { m with t := t' }) := ⟨h.turn hW hh, rfl, fun e => MD.same (he e)⟩
theorem deed_open (h : m.Ok) (hc : (c : Int) < m.n) (x : Cx) : Deed m (openM m c x) := by
 unfold openM
 by_cases c1 : (freeFd m.T c).isNone = true
 · rw [if_pos c1]; exact Deed.same h _
 · rw [if_neg c1]
   by_cases c2 : (findP m.t x.path).2 ≠ 0
   · rw [if_pos c2]; exact Deed.same h _
   · rw [if_neg c2]
     exact h.opened hc ((Bool.not_eq_true _).mp c1) _
theorem deed_create (h : m.Ok) (hc : (c : Int) < m.n) (x : Cx) : Deed m (createM m c x) := by
 unfold createM
 by_cases c1 : (freeFd m.T c).isNone = true
 · rw [if_pos c1]; exact Deed.same h _
 · rw [if_neg c1]
   by_cases c2 : (entryP m.t x.path).2 ≠ 0
   · rw [if_pos c2]; exact Deed.same h _
   · rw [if_neg c2]
     unfold makeM
     by_cases c3 : (makeP m.t (entryP m.t x.path).1.1 (entryP m.t x.path).1.2 1 (leastI m.t)).1.2 = 0
     · rw [if_neg (fun e => e c3)]
       obtain ⟨e1, y, hy, hk⟩ := make_file c3
       have hm : ({ m with t := (makeP m.t (entryP m.t x.path).1.1 (entryP m.t x.path).1.2 1 (leastI m.t)).2 } : MD).Ok := h.turn (h.well.makeP_ _ _ _ _) (heldR_make _ _)
       obtain ⟨g1, g2, g3⟩ := hm.opened (c := c) hc ((Bool.not_eq_true _).mp c1) (makeP m.t (entryP m.t x.path).1.1 (entryP m.t x.path).1.2 1 (leastI m.t)).1.1
       refine ⟨g1, g2, fun e => ?_⟩
       exfalso
       apply e
       have h0 : (holdP (makeP m.t (entryP m.t x.path).1.1 (entryP m.t x.path).1.2 1 (leastI m.t)).2 (makeP m.t (entryP m.t x.path).1.1 (entryP m.t x.path).1.2 1 (leastI m.t)).1.1).1 = 0 := by
        rw [e1]
        exact hold_file hy hk
       cases hf : freeFd m.T c with
       | none => rw [hf] at c1; exact absurd rfl c1
       | some k => rw [opened_ok (m := { m with t := (makeP m.t (entryP m.t x.path).1.1 (entryP m.t x.path).1.2 1 (leastI m.t)).2 }) h0 hf]
     · rw [if_pos c3]
       exact Deed.turn h _ (h.well.makeP_ _ _ _ _) (heldR_make _ _) (fun _ => m_make_same _ _ _ _ c3)
theorem deed_held (h : m.Ok) (hc : (c : Int) < m.n) (x : Cx) (hfd : 0 ≤ x.fd ∧ x.fd ≤ 15) (hsz : 0 ≤ x.size) : Deed m (heldM m c x) := by
 have hm := h.cores
 have hp : c * 16 + x.fd.toNat < 128 := by omega
 unfold heldM
 by_cases c1 : m.T (c * 16 + x.fd.toNat) = 0
 · rw [if_pos c1]; exact Deed.same h _
 · rw [if_neg c1]
   by_cases c2 : x.act = 3
   · rw [if_pos c2]; exact Deed.same h _
   · rw [if_neg c2]
     by_cases c3 : x.act = 4
     · rw [if_pos c3]
       exact Deed.turn h _ (h.well.writeP_ _ _ _) (heldR_write _ _) (fun e => m_write_same _ _ _ e)
     · rw [if_neg c3]
       by_cases c4 : x.act = 5
       · rw [if_pos c4]
         exact Deed.turn h _ (h.well.resizeP_ _ _ hsz) (heldR_resize _) (fun e => m_resize_same _ _ e)
       · rw [if_neg c4]
         by_cases c5 : x.act = 13
         · rw [if_pos c5]
           obtain ⟨g1, g2⟩ := HoldOk.close_ h hp c1
           exact ⟨g2, rfl, fun e => absurd g1 e⟩
         · rw [if_neg c5]; exact Deed.same h _
theorem deed_link (h : m.Ok) (x : Cx) : Deed m (linkM m x) := by
 unfold linkM
 by_cases c1 : (findP m.t x.path).2 ≠ 0
 · rw [if_pos c1]; exact Deed.same h _
 · rw [if_neg c1]
   by_cases c2 : (entryP m.t x.path2).2 ≠ 0
   · rw [if_pos c2]; exact Deed.same h _
   · rw [if_neg c2]
     exact Deed.turn h _ (h.well.linkP_ _ _ _) heldR_link (fun e => m_link_same _ _ _ e)
theorem deed_entry (h : m.Ok) (x : Cx) : Deed m (entryM m x) := by
 unfold entryM
 by_cases c1 : (entryP m.t x.path).2 ≠ 0
 · rw [if_pos c1]; exact Deed.same h _
 · rw [if_neg c1]
   by_cases c2 : x.act = 7
   · rw [if_pos c2]
     exact Deed.turn h _ (h.well.unlinkP _ _) (heldR_dropP _) (fun e => m_drop_same _ _ _ e)
   · rw [if_neg c2]
     by_cases c3 : x.act = 10
     · rw [if_pos c3]
       exact Deed.turn h _ (h.well.rmdirP _ _) (heldR_dropP _) (fun e => m_drop_same _ _ _ e)
     · rw [if_neg c3]
       unfold makeM
       exact Deed.turn h _ (h.well.makeP_ _ _ _ _) (heldR_make _ _) (fun e => m_make_same _ _ _ _ e)
theorem deed_rename (h : m.Ok) (x : Cx) : Deed m (renameM m x) := by
 unfold renameM
 by_cases c1 : (entryP m.t x.path).2 ≠ 0
 · rw [if_pos c1]; exact Deed.same h _
 · rw [if_neg c1]
   by_cases c2 : (entryP m.t x.path2).2 ≠ 0
   · rw [if_pos c2]; exact Deed.same h _
   · rw [if_neg c2]
     exact Deed.turn h _ (h.well.renameP_ _ _ _ _) (heldR_rename _ _) (fun e => m_rename_same _ _ _ _ e)
theorem deed_list (h : m.Ok) (x : Cx) : Deed m (listM m x) := by
 unfold listM
 split
 · exact Deed.same h _
 · exact Deed.same h _
theorem deed_stat (h : m.Ok) (x : Cx) : Deed m (statM m x) := by
 unfold statM
 split
 · exact Deed.same h _
 · exact Deed.same h _
theorem check_fd (h : checkC x = 0) : (0 ≤ x.fd ∧ x.fd ≤ 15) ∧ (0 ≤ x.page ∧ x.page < 36) ∧ x.size ≤ 2304 ∧ x.data.size ≤ 64 ∧ 1 ≤ x.act ∧ x.act ≤ 15 := by
 unfold checkC at h
 split at h
 · cases h
 · rename_i h1
   split at h
   · split at h
     · contradiction
     · split at h
       · contradiction
       · split at h
         · cases h
         · rename_i hb
           simp only [Bool.or_eq_true, not_or] at hb
           have := hb.1.2
           simp only [decide_eq_true_eq] at this
           omega
   · cases h
theorem deed_deed (h : m.Ok) (hc : (c : Int) < m.n) (x : Cx) (hfd : 0 ≤ x.fd ∧ x.fd ≤ 15) (hsz : 0 ≤ x.size) : Deed m (deedM m c x) := by
 unfold deedM
 split
 · exact deed_open h hc x
 split
 · exact deed_create h hc x
 split
 · exact deed_held h hc x hfd hsz
 split
 · exact deed_link h x
 split
 · exact deed_entry h x
 split
 · exact deed_rename h x
 split
 · exact deed_list h x
 split
 · exact deed_stat h x
 · exact Deed.same h _
theorem deed_do (h : m.Ok) (core : Int) (x : Cx) (hsz : 0 ≤ x.size) : Deed m (doM m core x) := by
 unfold doM
 by_cases c1 : core < 0 ∨ m.n ≤ core
 · rw [if_pos c1]; exact Deed.same h _
 · rw [if_neg c1]
   by_cases c2 : checkC x ≠ 0
   · rw [if_pos c2]; exact Deed.same h _
   · rw [if_neg c2]
     exact deed_deed h (by omega) x (check_fd (Decidable.not_not.1 c2)).1 hsz
end
end

section
open Go.RowKit Go.Maps
def statCells (v : Value) : List Value := match v with | .agg cs => cs.toList | _ => []
def resCells (r : Rs) (lv : Value) : List Value := [.int .i64 r.err, .int .i64 r.fd, .int .u32 r.ino] ++ statCells r.stat ++ [lv, .string r.data]
def ListV (t : PT) (lo : Nat) (w : World) (ls : Option Int) (lv : Value) : Prop :=
 match ls with
 | none => lv = .slice none 0 0
 | some d => ∃ A c L, lv = .slice A L.length c ∧ EntsOf (listL t d) L ∧ EntsAt w A L ∧ ∀ B, A = some ⟨B, 0, none⟩ → lo ≤ B
def ResV (t : PT) (lo : Nat) (w : World) (r : Rs) (v : Value) : Prop := ∃ lv, v = .agg (resCells r lv).toArray ∧ ListV t lo w r.ls lv
def ResP (w : World) (F : Nat → Prop) (P Pt Pf N : Nat) (t : PT) (q : Rs × MD) (e : Ending) (w' : World) : Prop := ∃ v, e = .returned v ∧ ResV t w.heap.size w' q.1 v ∧ ModB w w' F P Pt Pf N q.2
abbrev zeroR : List Value := [.int .i64 0, .int .i64 0, .int .u32 0, .int .u32 0, .int .u8 0, .int .i64 0, .int .u32 0, .slice none 0 0, .string ⟨#[]⟩]
theorem resZ {W : World} {R : Nat} (h : W.heap[R]? = some (.cells zeroR.toArray 39 (0, 0))) : W.cell? ⟨R, 0, none⟩ = some (.int .i64 0) ∧ W.cell? ⟨R, 1, none⟩ = some (.int .i64 0) ∧ W.cell? ⟨R, 2, none⟩ = some (.int .u32 0) ∧ W.cell? ⟨R, 3, none⟩ = some (.int .u32 0) ∧ W.cell? ⟨R, 4, none⟩ = some (.int .u8 0) ∧ W.cell? ⟨R, 5, none⟩ = some (.int .i64 0) ∧ W.cell? ⟨R, 6, none⟩ = some (.int .u32 0) ∧ W.cell? ⟨R, 7, none⟩ = some (.slice none 0 0) ∧ W.cell? ⟨R, 8, none⟩ = some (.string ⟨#[]⟩) ∧ W.frozen? ⟨R, 0, none⟩ = false ∧ W.frozen? ⟨R, 1, none⟩ = false ∧ W.frozen? ⟨R, 2, none⟩ = false ∧ W.frozen? ⟨R, 3, none⟩ = false ∧ W.frozen? ⟨R, 4, none⟩ = false ∧ W.frozen? ⟨R, 5, none⟩ = false ∧ W.frozen? ⟨R, 6, none⟩ = false ∧ W.frozen? ⟨R, 7, none⟩ = false ∧ W.frozen? ⟨R, 8, none⟩ = false := by
 simp [World.cell?, World.frozen?, h]
theorem res9 {W : World} {R : Nat} {T : TypeId} {fr : Nat × Nat} {cs : Array Value} (h : W.heap[R]? = some (.cells cs T fr)) (hs : cs.size = 9) (v0 v1 v2 v3 v4 v5 v6 v7 v8 : Value) :
  (((((((((W.setCell ⟨R, 0, none⟩ v0).setCell ⟨R, 1, none⟩ v1).setCell ⟨R, 2, none⟩ v2).setCell ⟨R, 3, none⟩ v3).setCell ⟨R, 4, none⟩ v4).setCell ⟨R, 5, none⟩ v5).setCell ⟨R, 6, none⟩ v6).setCell ⟨R, 7, none⟩ v7).setCell ⟨R, 8, none⟩ v8).heap[R]? = some (.cells #[v0, v1, v2, v3, v4, v5, v6, v7, v8] T fr) ∧ W.grownBy (((((((((W.setCell ⟨R, 0, none⟩ v0).setCell ⟨R, 1, none⟩ v1).setCell ⟨R, 2, none⟩ v2).setCell ⟨R, 3, none⟩ v3).setCell ⟨R, 4, none⟩ v4).setCell ⟨R, 5, none⟩ v5).setCell ⟨R, 6, none⟩ v6).setCell ⟨R, 7, none⟩ v7).setCell ⟨R, 8, none⟩ v8) (some R) := by
 refine ⟨?_, (pgrown_trans (pgrown_trans (pgrown_trans (pgrown_trans (pgrown_trans (pgrown_trans (pgrown_trans (pgrown_trans (pgrown_trans (grown_refl W (some R)) (pgrown_set _ R 0 v0)) (pgrown_set _ R 1 v1)) (pgrown_set _ R 2 v2)) (pgrown_set _ R 3 v3)) (pgrown_set _ R 4 v4)) (pgrown_set _ R 5 v5)) (pgrown_set _ R 6 v6)) (pgrown_set _ R 7 v7)) (pgrown_set _ R 8 v8))⟩
 obtain ⟨l⟩ := cs
 match l, hs, h with
 | [a0, a1, a2, a3, a4, a5, a6, a7, a8], _, h =>
  have e := (cset (j := 8) v8 (cset (j := 7) v7 (cset (j := 6) v6 (cset (j := 5) v5 (cset (j := 4) v4 (cset (j := 3) v3 (cset (j := 2) v2 (cset (j := 1) v1 (cset (j := 0) v0 h)))))))))
  simp only [List.setIfInBounds_toArray, List.set_cons_succ, List.set_cons_zero] at e
  exact e
section
variable {w wc w1 W' : World} {F : Nat → Prop} {P Pt Pf N R : Nat} {m : MD}
theorem ModB.boxed (h : ModB wc w1 F P Pt Pf N m) (hb : Below w.heap.size w wc) (hF : ∀ b, Fm F P Pf b → b < w.heap.size) (hR : w.heap.size ≤ R) (hR2 : R < wc.heap.size) (hg : w1.grownBy W' (some R)) : ModB w W' F P Pt Pf N m := by
 obtain ⟨y', F', hM, hU⟩ := h
 have hnR : ¬ Fm F' P Pf R := fun e => by
  rcases hU.foot R e with h1 | h1
  · have := hF R h1; omega
  · omega
 have far : ∀ b, b < w1.heap.size → b ≠ R → W'.heap[b]? = w1.heap[b]? := fun b h1 h2 => hg.block b h1 (fun e => h2 (by injection e))
 refine ⟨y', F', hM.same (fun b hF2 => far b (hM.lt b hF2) (fun e => hnR (e ▸ hF2))) hg.size, hg.os.trans (hU.os.trans hb.os), hg.tape.trans (hU.tape.trans hb.tape), hg.output.trans (hU.output.trans hb.output), Nat.le_trans hb.size (Nat.le_trans hU.size hg.size), fun b h1 h2 => ?_, fun b h1 => ?_⟩
 · have h3 := Nat.lt_of_lt_of_le h1 hb.size
   rw [far b (Nat.lt_of_lt_of_le h3 hU.size) (by omega), hU.block b h3 h2, hb.block b h1]
 · rcases hU.foot b h1 with h2 | h2
   · exact .inl h2
   · exact .inr (Nat.le_trans hb.size h2)
theorem ModB.box {o : Obj} (h : ModB wc w1 F P Pt Pf N m) (hF : ∀ b, Fm F P Pf b → b < w.heap.size) (hR : w.heap.size ≤ R) (hz : wc.heap[R]? = some o) : w1.heap[R]? = some o := by
 obtain ⟨y', F', hM, hU⟩ := h
 rw [hU.block R (Array.getElem?_eq_some_iff.1 hz).1 (fun e => by have := hF R e; omega)]
 exact hz
theorem ret_res {fn : Func} {p : Tmp} (hres : fn.results = #[.cell p 39]) {tmps : Array Value} {w3 : World} {t : PT} {r : Rs} {v0 v1 v2 v3 v4 v5 v6 v7 v8 : Value} (hp : tmps.getD p undef = .pointer (some ⟨R, 0, none⟩)) (h : ModB wc w3 F P Pt Pf N m)
  (hb : Below w.heap.size w wc) (hF : ∀ b, Fm F P Pf b → b < w.heap.size) (hR : w.heap.size ≤ R) {cs : Array Value} (hs : cs.size = 9) (hz : wc.heap[R]? = some (.cells zeroR.toArray 39 (0, 0))) (hz3 : w3.heap[R]? = some (.cells cs 39 (0, 0)))
  (hl : r.ls = none) (hv : resCells r (.slice none 0 0) = [v0, v1, v2, v3, v4, v5, v6, v7, v8]) :
  bodyPost Tryz.prog fn (ResP w F P Pt Pf N t (r, m)) .ret ⟨tmps, []⟩ (((((((((w3.setCell ⟨R, 0, none⟩ v0).setCell ⟨R, 1, none⟩ v1).setCell ⟨R, 2, none⟩ v2).setCell ⟨R, 3, none⟩ v3).setCell ⟨R, 4, none⟩ v4).setCell ⟨R, 5, none⟩ v5).setCell ⟨R, 6, none⟩ v6).setCell ⟨R, 7, none⟩ v7).setCell ⟨R, 8, none⟩ v8) := by
 obtain ⟨e9, g9⟩ := res9 hz3 hs v0 v1 v2 v3 v4 v5 v6 v7 v8
 refine bodyPost_ret (results_cell_row hres _ _ R 39 _ (0, 0) _ hp e9 Tryz.underlying39 rfl (by kernel_rfl)) rfl ?_
 exact ⟨_, rfl, ⟨.slice none 0 0, by rw [hv], by unfold ListV; rw [hl]⟩, h.boxed hb hF hR (Array.getElem?_eq_some_iff.1 hz).1 g9⟩
theorem ret_res2 {fn : Func} {p : Tmp} (hres : fn.results = #[.cell p 39]) {tmps : Array Value} {w3 w4 : World} {t : PT} {r : Rs} {v0 v1 v2 v3 v4 v5 v6 v7 v8 : Value} (hp : tmps.getD p undef = .pointer (some ⟨R, 0, none⟩)) (h : ModB wc w3 F P Pt Pf N m)
  (hb : Below w.heap.size w wc) (hF : ∀ b, Fm F P Pf b → b < w.heap.size) (hR : w.heap.size ≤ R) {cs : Array Value} (hs : cs.size = 9) (hz : wc.heap[R]? = some (.cells zeroR.toArray 39 (0, 0))) (hg : w3.grownBy w4 (some R)) (hz3 : w4.heap[R]? = some (.cells cs 39 (0, 0)))
  (hl : r.ls = none) (hv : resCells r (.slice none 0 0) = [v0, v1, v2, v3, v4, v5, v6, v7, v8]) :
  bodyPost Tryz.prog fn (ResP w F P Pt Pf N t (r, m)) .ret ⟨tmps, []⟩ (((((((((w4.setCell ⟨R, 0, none⟩ v0).setCell ⟨R, 1, none⟩ v1).setCell ⟨R, 2, none⟩ v2).setCell ⟨R, 3, none⟩ v3).setCell ⟨R, 4, none⟩ v4).setCell ⟨R, 5, none⟩ v5).setCell ⟨R, 6, none⟩ v6).setCell ⟨R, 7, none⟩ v7).setCell ⟨R, 8, none⟩ v8) := by
 obtain ⟨e9, g9⟩ := res9 hz3 hs v0 v1 v2 v3 v4 v5 v6 v7 v8
 refine bodyPost_ret (results_cell_row hres _ _ R 39 _ (0, 0) _ hp e9 Tryz.underlying39 rfl (by kernel_rfl)) rfl ?_
 exact ⟨_, rfl, ⟨.slice none 0 0, by rw [hv], by unfold ListV; rw [hl]⟩, h.boxed hb hF hR (Array.getElem?_eq_some_iff.1 hz).1 (pgrown_trans hg g9)⟩
theorem ret_res3 {fn : Func} {p : Tmp} (hres : fn.results = #[.cell p 39]) {tmps : Array Value} {w3 w4 : World} {t : PT} {r : Rs} {lv : Value} {v0 v1 v2 v3 v4 v5 v6 v7 v8 : Value} (hp : tmps.getD p undef = .pointer (some ⟨R, 0, none⟩)) (h : ModB wc w3 F P Pt Pf N m)
  (hb : Below w.heap.size w wc) (hF : ∀ b, Fm F P Pf b → b < w.heap.size) (hR : w.heap.size ≤ R) {cs : Array Value} (hs : cs.size = 9) (hz : wc.heap[R]? = some (.cells zeroR.toArray 39 (0, 0))) (hg : w3.grownBy w4 (some R)) (hz3 : w4.heap[R]? = some (.cells cs 39 (0, 0)))
  (hl : ∀ W', w3.grownBy W' (some R) → ListV t w.heap.size W' r.ls lv) (hv : resCells r lv = [v0, v1, v2, v3, v4, v5, v6, v7, v8]) :
  bodyPost Tryz.prog fn (ResP w F P Pt Pf N t (r, m)) .ret ⟨tmps, []⟩ (((((((((w4.setCell ⟨R, 0, none⟩ v0).setCell ⟨R, 1, none⟩ v1).setCell ⟨R, 2, none⟩ v2).setCell ⟨R, 3, none⟩ v3).setCell ⟨R, 4, none⟩ v4).setCell ⟨R, 5, none⟩ v5).setCell ⟨R, 6, none⟩ v6).setCell ⟨R, 7, none⟩ v7).setCell ⟨R, 8, none⟩ v8) := by
 obtain ⟨e9, g9⟩ := res9 hz3 hs v0 v1 v2 v3 v4 v5 v6 v7 v8
 refine bodyPost_ret (results_cell_row hres _ _ R 39 _ (0, 0) _ hp e9 Tryz.underlying39 rfl (by kernel_rfl)) rfl ?_
 exact ⟨_, rfl, ⟨lv, by rw [hv], hl _ (pgrown_trans hg g9)⟩, h.boxed hb hF hR (Array.getElem?_eq_some_iff.1 hz).1 (pgrown_trans hg g9)⟩
end
set_option maxRecDepth 100000 in
theorem t_wrong (e : Int) (w : World) : Calls Tryz.prog 43 #[.int .i64 e] w fun e' w' => e' = .returned (.agg (resCells (wrongR e) (.slice none 0 0)).toArray) ∧ Below w.heap.size w w' := by
 go_enter Tryz.func43, Tryz.ntmps43
 go_wp2
 refine bodyPost_ret (results_cell_row rfl _ _ w.heap.size 39 _ (0, 0) _ rfl (World.alloc_heap_new w _) Tryz.underlying39 rfl (by kernel_rfl)) rfl ?_
 exact ⟨rfl, (Below.refl _ w).alloc (Nat.le_refl _) _⟩
section
variable {F : Nat → Prop} {P Pt Pf N : Nat} {y : Lay} {m : MD}
theorem t_wrongR (e : Int) (w : World) : Calls Tryz.prog 43 #[.int .i64 e] w fun e' w' => e' = .returned (.agg #[.int .i64 e, .int .i64 0, .int .u32 0, .int .u32 0, .int .u8 0, .int .i64 0, .int .u32 0, .slice none 0 0, .string ⟨#[]⟩]) ∧ Below w.heap.size w w' := t_wrong e w
set_option maxRecDepth 100000 in
set_option maxHeartbeats 1000000 in
theorem t_openedM (w : World) (h : ModM w F P Pt Pf N y m) (hO : m.Ok) (c : Nat) (hc : (c : Int) < m.n) (ino : Int) (hu : U32 ino) (hf : (freeFd m.T c).isNone = false) :
  Calls Tryz.prog 108 #[.pointer (some ⟨P, 0, none⟩), .int .i64 c, .int .u32 ino] w (ResP w F P Pt Pf N m.t (openedM m c ino)) := by
 have hlt := h.lt
 have hb1 : Below w.heap.size w (w.alloc (.cells #[.int .i64 0, .int .i64 0, .int .u32 0, .int .u32 0, .int .u8 0, .int .i64 0, .int .u32 0, .slice none 0 0, .string ⟨#[]⟩] 39)) := (Below.refl _ w).alloc (Nat.le_refl _) _
 have hz1 : (w.alloc (.cells #[.int .i64 0, .int .i64 0, .int .u32 0, .int .u32 0, .int .u8 0, .int .i64 0, .int .u32 0, .slice none 0 0, .string ⟨#[]⟩] 39)).heap[w.heap.size]? = some (.cells #[.int .i64 0, .int .i64 0, .int .u32 0, .int .u32 0, .int .u8 0, .int .i64 0, .int .u32 0, .slice none 0 0, .string ⟨#[]⟩] 39 (0, 0)) := World.alloc_heap_new w _
 have hM := h.below hb1
 have c0 := hM.c0
 obtain ⟨⟨hq, t1⟩, hh⟩ : ∃ q, holdP m.t ino = q := ⟨_, rfl⟩
 have HH := zz (t_holdP ino hq t1 hh _ hM.tree hu (fun i x hx => by have := hO.heldK i x hx; omega) (fun x hx => hO.well.held ino x hx))
 have HM := zz hM
 have HLT := zz hlt
 have HB1 := zz hb1
 have HZ1 := zz hz1
 by_cases h0 : hq = 0
 · have hne : (hq != 0) = false := by simp [h0]
   obtain ⟨k, hk⟩ : ∃ k, freeFd m.T c = some k := by
    cases hx : freeFd m.T c with
    | none => rw [hx] at hf; simp at hf
    | some k => exact ⟨k, rfl⟩
   have e1 := opened_ok (m := m) (c := c) (i := ino) (by rw [hh]; exact h0) hk
   rw [hh] at e1
   have hk1 := free_some hk
   have hk2 := free_least hk
   obtain ⟨yy, hyy⟩ := hold_there (t := m.t) (i := ino) (by rw [hh]; exact h0)
   have hi0 : (ino == 0) = false := by have := (hO.well.range ino yy hyy).1; simp; omega
   have hn8 := hO.cores.2
   rw [e1]
   subst h0
   have HO := zz (show ∀ (W : World) F' y', ModM W F' P Pt Pf N y' { m with t := t1 } → Calls Tryz.prog 179 #[.pointer (some ⟨Pf, 0, none⟩), .int .i64 c, .int .u32 ino] W fun e w' => e = .returned (.tuple #[.int .i64 k, .int .i64 0]) ∧ ModB W w' F' P Pt Pf N { m with t := t1, T := updT m.T (c * 16 + k) ino } from fun W F' y' hM' =>
    (fds_open_tab Pf c k ino m.T m.n W hM'.tab hc hk1.1 hn8 hi0 hk1.2 hk2).mono fun e w' ⟨h1, h2, h3, _⟩ => ⟨h1, hM'.tabB h2 h3⟩)
   clear hM hb1 hlt hO hh e1 h hz1 hk1 hk2 hyy hk
   go_enter Tryz.func108, Tryz.ntmps108
   go_wp2_with (first
    | (go_at_call 178; (with_reducible refine HH.out.mono ?_); rintro e w2 ⟨rfl, hB2⟩
       have hb2 := HM.out.treeB hB2
       have HB2 := zz hb2
       obtain ⟨y2, F2, hM2, hU2⟩ := hb2
       have c1 := hM2.c1
       have HM2 := zz hM2
       have HU2 := zz hU2
       clear hB2 hM2 hU2)
    | (go_at_call 179; (with_reducible refine (HO.out _ _ _ HM2.out).mono ?_); rintro e w3 ⟨rfl, hB3⟩
       obtain ⟨y3, F3, hM3, hU3⟩ := hB3
       have HB3 : Hid (ModB _ w3 F P Pt Pf N { m with t := t1, T := updT m.T (c * 16 + k) ino }) := ⟨y3, F3, hM3, HU2.out.trans hU3⟩
       have hz3 := HB3.out.box HLT.out (Nat.le_refl _) HZ1.out
       have HZ3 := zz hz3
       obtain ⟨z0, z1, z2, z3, z4, z5, z6, z7, z8, f0, f1, f2, f3, f4, f5, f6, f7, f8⟩ := resZ hz3
       clear hM3 hU3 hz3))
   exact ret_res rfl rfl HB3.out HB1.out HLT.out (Nat.le_refl _) rfl HZ1.out HZ3.out rfl rfl
 · have hne : (hq != 0) = true := by simpa using h0
   have e1 : openedM m c ino = (wrongR hq, { m with t := t1 }) := by
    unfold openedM
    rw [hh, if_pos h0]
   rw [e1]
   clear hM hb1 hlt hO hh e1 h hz1
   go_enter Tryz.func108, Tryz.ntmps108
   go_wp2_with (first
    | (go_at_call 178; (with_reducible refine HH.out.mono ?_); rintro e w2 ⟨rfl, hB2⟩; have HB2 := zz (HM.out.treeB hB2); clear hB2)
    | (go_at_call 43; (with_reducible refine (t_wrongR _ _).mono ?_); rintro e w3 ⟨rfl, hb3⟩
       have HB3 := zz (HB2.out.andBelow hb3)
       have hz3 := HB3.out.box HLT.out (Nat.le_refl _) HZ1.out
       have HZ3 := zz hz3
       obtain ⟨z0, z1, z2, z3, z4, z5, z6, z7, z8, f0, f1, f2, f3, f4, f5, f6, f7, f8⟩ := resZ hz3
       clear hb3 hz3))
   exact ret_res rfl rfl HB3.out HB1.out HLT.out (Nat.le_refl _) rfl HZ1.out HZ3.out rfl rfl
end
end

section
open Go.RowKit Go.Maps
section
variable {F : Nat → Prop} {P Pt Pf N : Nat} {y : Lay} {m : MD}
theorem ofT_in {T : Nat → Int} {n : Int} {c k : Nat} (hc : (c : Int) < n) (hk : k < 16) : ofT T n c k = T (c * 16 + k) := by
 unfold ofT
 rw [if_pos ⟨by omega, hc, by omega, by omega⟩]
 rfl
set_option maxRecDepth 100000 in
set_option maxHeartbeats 1000000 in
theorem t_full (w : World) (h : ModM w F P Pt Pf N y m) (hn : m.n ≤ 8) (c : Nat) (hc : (c : Int) < m.n) (b : Bool) (hb : (freeFd m.T c).isNone = b) :
  Calls Tryz.prog 106 #[.pointer (some ⟨P, 0, none⟩), .int .i64 c] w fun e w' => e = .returned (.bool b) ∧ w = w' := by
 have c1 := h.c1
 have HT := zz (fun fd : Int => t_fdsOf Pf c fd m.T m.n w h.tab hn)
 have hv : ∀ k : Nat, k < 16 → ofT m.T m.n c k = m.T (c * 16 + k) := fun k hk => ofT_in hc hk
 have HV := zz hv
 cases hf : freeFd m.T c with
 | none =>
  rw [hf] at hb
  have hb : b = true := by simpa using hb.symm
  subst hb
  have HF := zz (free_none hf)
  clear hf h hv
  go_enter Tryz.func106, Tryz.ntmps106
  go_wp2
  go_loop [8] (fun i => ∃ k : Nat, k ≤ 16 ∧ i = .int .i64 k) (fun i => 17 - (intOf i).toNat)
  case atStart => exact ⟨0, Nat.zero_le _, rfl⟩
  case round =>
   obtain ⟨k, hk, rfl⟩ := hrel
   by_cases he : k = 16
   · subst he
     go_wp2
     go_ret
     exact ⟨rfl, rfl⟩
   · have hT := HT.out (k : Int)
     rw [HV.out k (by omega)] at hT
     have hne : (m.T (c * 16 + k) != 0) = true := by simpa using HF.out k (by omega)
     rw [hne] at hT
     have HTT := zz hT
     clear hT hne
     go_wp2_with (go_at_call 46; (with_reducible refine HTT.out.mono ?_); rintro e w' ⟨rfl, rfl⟩)
     go_round
     case rel => exact ⟨k + 1, by omega, by go_num⟩
     case measure => simp [intOf]; omega
 | some q =>
  rw [hf] at hb
  have hb : b = false := by simpa using hb.symm
  subst hb
  obtain ⟨hq16, hq0⟩ := free_some hf
  have HF := zz (free_least hf)
  have HQ := zz hq0
  clear hf h hv hq0
  go_enter Tryz.func106, Tryz.ntmps106
  go_wp2
  go_loop [8] (fun i => ∃ k : Nat, k ≤ q ∧ i = .int .i64 k) (fun i => 17 - (intOf i).toNat)
  case atStart => exact ⟨0, Nat.zero_le _, rfl⟩
  case round =>
   obtain ⟨k, hk, rfl⟩ := hrel
   have hT := HT.out (k : Int)
   rw [HV.out k (by omega)] at hT
   by_cases he : k = q
   · subst he
     rw [HQ.out] at hT
     have HTT := zz hT
     clear hT
     go_wp2_with (go_at_call 46; (with_reducible refine HTT.out.mono ?_); rintro e w' ⟨rfl, rfl⟩)
     go_ret
     exact ⟨rfl, rfl⟩
   · have hne : (m.T (c * 16 + k) != 0) = true := by simpa using HF.out k (by omega)
     rw [hne] at hT
     have HTT := zz hT
     clear hT hne
     go_wp2_with (go_at_call 46; (with_reducible refine HTT.out.mono ?_); rintro e w' ⟨rfl, rfl⟩)
     go_round
     case rel => exact ⟨k + 1, by omega, by go_num⟩
     case measure => simp [intOf]; omega
theorem opened_form (c : Nat) (i : Int) : ∃ er fd io : Int, (openedM m c i).1 = ⟨er, fd, io, stat0, none, ByteArray.empty⟩ := by
 unfold openedM
 split
 · exact ⟨_, _, _, rfl⟩
 · split
   · exact ⟨_, _, _, rfl⟩
   · exact ⟨_, _, _, rfl⟩
theorem ResP.form {w w' : World} {t : PT} {q : Rs × MD} {e : Ending} {er fd io : Int} (h : ResP w F P Pt Pf N t q e w') (hq : q.1 = ⟨er, fd, io, stat0, none, ByteArray.empty⟩) :
  e = .returned (.agg #[.int .i64 er, .int .i64 fd, .int .u32 io, .int .u32 0, .int .u8 0, .int .i64 0, .int .u32 0, .slice none 0 0, .string ⟨#[]⟩]) ∧ ModB w w' F P Pt Pf N q.2 := by
 obtain ⟨v, rfl, ⟨lv, rfl, hl⟩, hB⟩ := h
 rw [hq] at hl
 unfold ListV at hl
 subst hl
 rw [hq]
 exact ⟨rfl, hB⟩
theorem find_u32 {t : PT} (hW : WellP t) (s : ByteArray) : U32 (findP t s).1 := by
 have h0 : U32 0 := ⟨by decide, by decide⟩
 unfold findP walkP
 split
 · exact h0
 · split
   · exact h0
   · exact walkGo_u32 hW _ _ ⟨by decide, by decide⟩
set_option maxRecDepth 100000 in
set_option maxHeartbeats 1000000 in
theorem t_openC (w : World) (h : ModM w F P Pt Pf N y m) (hO : m.Ok) (c : Nat) (hc : (c : Int) < m.n) (x : Cx) (hx : x.path.size ≤ maxLen) :
  Calls Tryz.prog 71 #[.pointer (some ⟨P, 0, none⟩), .int .i64 c, callV x] w (ResP w F P Pt Pf N m.t (openM m c x)) := by
 obtain ⟨act, p1, p2, fd, pg, sz, dt⟩ := x
 have hlt := h.lt
 obtain ⟨wc, hwc⟩ : ∃ wc, wc = (w.alloc (.cells #[.int .u8 act, .string p1, .string p2, .int .i64 fd, .int .i64 pg, .int .u32 sz, .string dt] 31)).alloc (.cells #[.int .i64 0, .int .i64 0, .int .u32 0, .int .u32 0, .int .u8 0, .int .i64 0, .int .u32 0, .slice none 0 0, .string ⟨#[]⟩] 39) := ⟨_, rfl⟩
 obtain ⟨W1, hW1, hX, hZ, hsz, hB1⟩ := two_blocks w #[.int .u8 act, .string p1, .string p2, .int .i64 fd, .int .i64 pg, .int .u32 sz, .string dt] #[.int .i64 0, .int .i64 0, .int .u32 0, .int .u32 0, .int .u8 0, .int .i64 0, .int .u32 0, .slice none 0 0, .string ⟨#[]⟩] 31 39
 have hM : ModM W1 F P Pt Pf N y m := h.below hB1
 obtain ⟨b, hb⟩ : ∃ b, (freeFd m.T c).isNone = b := ⟨_, rfl⟩
 have HF := zz (t_full W1 hM hO.cores.2 c hc b hb)
 have HM := zz hM
 have HB1 := zz hB1
 have HZ := zz hZ
 have HX := zz hX
 have HLT := zz hlt
 have HO := zz hO
 show Calls Tryz.prog 71 #[.pointer (some ⟨P, 0, none⟩), .int .i64 c, .agg #[.int .u8 act, .string p1, .string p2, .int .i64 fd, .int .i64 pg, .int .u32 sz, .string dt]] w _
 have hx1 : p1.size ≤ maxLen := hx
 clear hx hM hB1 hZ hX hlt hO h hsz
 cases b with
 | true =>
  have e1 : openM m c ⟨act, p1, p2, fd, pg, sz, dt⟩ = (wrongR 210, m) := by unfold openM; rw [if_pos hb]
  rw [e1]
  clear e1 hb
  go_enter Tryz.func71, Tryz.ntmps71
  go_wp2_with (first
   | (go_at_call 106; (with_reducible refine HF.out.mono ?_); rintro e w2 ⟨rfl, rfl⟩)
   | (go_at_call 43; (with_reducible refine (t_wrongR _ _).mono ?_); rintro e w3 ⟨rfl, hb3⟩
      have HB3 := zz (HM.out.keepB hb3)
      have hz3 := HB3.out.box HLT.out (by omega) HZ.out
      have HZ3 := zz hz3
      obtain ⟨z0, z1, z2, z3, z4, z5, z6, z7, z8, f0, f1, f2, f3, f4, f5, f6, f7, f8⟩ := resZ hz3
      clear hb3 hz3))
  exact ret_res rfl rfl HB3.out HB1.out HLT.out (by omega) rfl HZ.out HZ3.out rfl rfl
 | false =>
  obtain ⟨⟨v, r⟩, hv⟩ : ∃ q, findP m.t p1 = q := ⟨_, rfl⟩
  have e1 : openM m c ⟨act, p1, p2, fd, pg, sz, dt⟩ = if r ≠ 0 then (wrongR r, m) else openedM m c v := by unfold openM; rw [if_neg (by rw [hb]; simp)]; rw [hv]
  rw [e1]
  have hu : U32 v := by have := find_u32 HO.out.well p1; rw [hv] at this; exact this
  have HFD := zz (t_findM W1 HM.out HO.out.well p1 hx1 v r hv)
  have x1 : W1.cell? ⟨w.heap.size, 1, none⟩ = some (.string p1) := by simp [World.cell?, HX.out]
  clear e1 hv
  by_cases hr : r = 0
  · have hr2 : (r != 0) = false := by simp [hr]
    rw [if_neg (fun e => e hr)]
    have HBB := zz hb
    obtain ⟨er, fd', io, hfo⟩ := opened_form (m := m) c v
    have HOP := zz (show ∀ W, ModM W F P Pt Pf N y m → Calls Tryz.prog 108 #[.pointer (some ⟨P, 0, none⟩), .int .i64 c, .int .u32 v] W fun e w' => e = .returned (.agg #[.int .i64 er, .int .i64 fd', .int .u32 io, .int .u32 0, .int .u8 0, .int .i64 0, .int .u32 0, .slice none 0 0, .string ⟨#[]⟩]) ∧ ModB W w' F P Pt Pf N (openedM m c v).2 from fun W hM => (t_openedM W hM HO.out c hc v hu hb).mono fun e w' hp => hp.form hfo)
    have HFO := zz hfo
    clear hb hfo
    go_enter Tryz.func71, Tryz.ntmps71
    go_wp2_with (first
     | (go_at_call 106; (with_reducible refine HF.out.mono ?_); rintro e w2 ⟨rfl, rfl⟩)
     | (go_at_call 107; (with_reducible refine HFD.out.mono ?_); rintro e w2 ⟨rfl, hb2⟩; have HM2 := zz (HM.out.below hb2); have HB2 := zz hb2; clear hb2)
     | (go_at_call 108; (with_reducible refine (HOP.out _ HM2.out).mono ?_); rintro e w3 ⟨rfl, hB3⟩
        have HB3 := zz (hB3.later HB2.out)
        have hz3 := HB3.out.box HLT.out (by omega) HZ.out
        have HZ3 := zz hz3
        obtain ⟨z0, z1, z2, z3, z4, z5, z6, z7, z8, f0, f1, f2, f3, f4, f5, f6, f7, f8⟩ := resZ hz3
        clear hB3 hz3))
    exact ret_res (r := (openedM m c v).1) (m := (openedM m c v).2) rfl rfl HB3.out HB1.out HLT.out (by omega) rfl HZ.out HZ3.out (by rw [HFO.out]) (by rw [HFO.out]; rfl)
  · have hr2 : (r != 0) = true := by simpa using hr
    rw [if_pos hr]
    clear hb
    go_enter Tryz.func71, Tryz.ntmps71
    go_wp2_with (first
     | (go_at_call 106; (with_reducible refine HF.out.mono ?_); rintro e w2 ⟨rfl, rfl⟩)
     | (go_at_call 107; (with_reducible refine HFD.out.mono ?_); rintro e w2 ⟨rfl, hb2⟩; have HM2 := zz (HM.out.below hb2); have HB2 := zz hb2; clear hb2)
     | (go_at_call 43; (with_reducible refine (t_wrongR _ _).mono ?_); rintro e w3 ⟨rfl, hb3⟩
        have HB3 := zz (HM.out.keepB (ptrans HB2.out hb3))
        have hz3 := HB3.out.box HLT.out (by omega) HZ.out
        have HZ3 := zz hz3
        obtain ⟨z0, z1, z2, z3, z4, z5, z6, z7, z8, f0, f1, f2, f3, f4, f5, f6, f7, f8⟩ := resZ hz3
        clear hb3 hz3))
    exact ret_res rfl rfl HB3.out HB1.out HLT.out (by omega) rfl HZ.out HZ3.out rfl rfl
end
end

section
open Go.RowKit Go.Maps
theorem walk_u32 {t : PT} (hW : WellP t) (l : List ByteArray) : U32 (walkP t l).1 := by
 unfold walkP
 split
 · exact (show U32 0 from ⟨by decide, by decide⟩)
 · exact walkGo_u32 hW _ _ ⟨by decide, by decide⟩
theorem entry_fits {t : PT} (hW : WellP t) (s : ByteArray) : U32 (entryP t s).1.1 ∧ (entryP t s).1.2.size ≤ maxLen := by
 have h0 : U32 0 := ⟨by decide, by decide⟩
 have h1 : (ByteArray.empty).size ≤ maxLen := Nat.zero_le _
 have hn := parent_names s
 unfold entryP
 split
 · exact ⟨h0, h1⟩
 · split
   · exact ⟨h0, h1⟩
   · exact ⟨walk_u32 hW _, hn.2.2⟩
section
variable {F : Nat → Prop} {P Pt Pf N : Nat} {y : Lay} {m : MD}
set_option maxRecDepth 100000 in
set_option maxHeartbeats 2000000 in
theorem t_createC (w : World) (h : ModM w F P Pt Pf N y m) (hO : m.Ok) (c : Nat) (hc : (c : Int) < m.n) (x : Cx) (hx : x.path.size ≤ maxLen) (hx2 : x.path2.size ≤ maxLen) (hN : N ≤ 50000) :
  Calls Tryz.prog 72 #[.pointer (some ⟨P, 0, none⟩), .int .i64 c, callV x] w (ResP w F P Pt Pf (N + 2) m.t (createM m c x)) := by
 obtain ⟨act, p1, p2, fd, pg, sz, dt⟩ := x
 have hlt := h.lt
 obtain ⟨W1, hW1, hX, hZ, hsz, hB1⟩ := two_blocks w #[.int .u8 act, .string p1, .string p2, .int .i64 fd, .int .i64 pg, .int .u32 sz, .string dt] #[.int .i64 0, .int .i64 0, .int .u32 0, .int .u32 0, .int .u8 0, .int .i64 0, .int .u32 0, .slice none 0 0, .string ⟨#[]⟩] 31 39
 have hM : ModM W1 F P Pt Pf N y m := h.below hB1
 have HM := zz hM
 have HB1 := zz hB1
 have HZ := zz hZ
 have HX := zz hX
 have HLT := zz hlt
 have HO := zz hO
 show Calls Tryz.prog 72 #[.pointer (some ⟨P, 0, none⟩), .int .i64 c, .agg #[.int .u8 act, .string p1, .string p2, .int .i64 fd, .int .i64 pg, .int .u32 sz, .string dt]] w _
 have hp1 : p1.size ≤ maxLen := hx
 have hp2 : p2.size ≤ maxLen := hx2
 clear hx hx2 hM hB1 hZ hX hlt hO h hsz
 obtain ⟨b, hb⟩ : ∃ b, (freeFd m.T c).isNone = b := ⟨_, rfl⟩
 have HF := zz (show (∀ W, ModM W F P Pt Pf N y m → Calls Tryz.prog 106 #[.pointer (some ⟨P, 0, none⟩), .int .i64 c] W fun e w' => e = .returned (.bool b) ∧ W = w') from fun W hM => t_full W hM HO.out.cores.2 c hc b hb)
 have x1 : W1.cell? ⟨w.heap.size, 1, none⟩ = some (.string p1) := by simp [World.cell?, HX.out]
 cases b with
 | true =>
  have e1 : createM m c ⟨act, p1, p2, fd, pg, sz, dt⟩ = (wrongR 210, m) := by unfold createM; rw [if_pos hb]
  rw [e1]
  clear e1 hb
  go_enter Tryz.func72, Tryz.ntmps72
  go_wp2_with (first
   | (go_at_call 106; (with_reducible refine (HF.out _ HM.out).mono ?_); rintro e w2 ⟨rfl, rfl⟩)
   | (go_at_call 43; (with_reducible refine (t_wrongR _ _).mono ?_)
      rintro e w3 ⟨rfl, hb3⟩
      have HB3 : Hid (ModB W1 w3 F P Pt Pf (N + 2) _) := (HM.out.keepB hb3).mono (by omega)
      have hz3 := HB3.out.box HLT.out (by omega) HZ.out
      have HZ3 := zz hz3
      obtain ⟨z0, z1, z2, z3, z4, z5, z6, z7, z8, f0, f1, f2, f3, f4, f5, f6, f7, f8⟩ := resZ hz3
      clear hb3 hz3))
  exact ret_res rfl rfl HB3.out HB1.out HLT.out (by omega) rfl HZ.out HZ3.out rfl rfl
 | false =>
  obtain ⟨⟨⟨d, nm⟩, r⟩, hv⟩ : ∃ q, entryP m.t p1 = q := ⟨_, rfl⟩
  obtain ⟨⟨⟨io, er⟩, t2⟩, hmk⟩ : ∃ q, makeP m.t d nm 1 (leastI m.t) = q := ⟨_, rfl⟩
  have e1 : createM m c ⟨act, p1, p2, fd, pg, sz, dt⟩ = if r ≠ 0 then (wrongR r, m) else if er ≠ 0 then (wrongR er, { m with t := t2 }) else openedM { m with t := t2 } c io := by
   unfold createM makeM
   rw [if_neg (by rw [hb]; simp)]
   rw [hv]
   dsimp only
   rw [hmk]
  rw [e1]
  have hsn := entry_fits HO.out.well p1
  rw [hv] at hsn
  obtain ⟨hd32, hnsz⟩ := hsn
  have HEN := zz (show (∀ W, ModM W F P Pt Pf N y m → Calls Tryz.prog 109 #[.pointer (some ⟨P, 0, none⟩), .string p1] W fun e w' => e = .returned (.tuple #[.int .u32 d, .string nm, .int .i64 r]) ∧ Below W.heap.size W w') from fun W hM => t_entryM W hM HO.out.well p1 hp1 d nm r hv)
  have hmk2 := hmk
  have HMK := zz (show (∀ W, ModM W F P Pt Pf N y m → Calls Tryz.prog 110 #[.pointer (some ⟨Pt, 0, none⟩), .int .u32 d, .string nm, .int .u8 1] W fun e w' => e = .returned (.tuple #[.int .u32 io, .int .i64 er]) ∧ ModB W w' F P Pt Pf (N + 2) { m with t := t2 }) from fun W hM => (t_makeP d nm 1 (leastI m.t) io er t2 HO.out.well.leastI_ hmk W hM.tree (by omega) hd32 hnsz).mono fun e w' ⟨h1, h2⟩ => ⟨h1, hM.treeB h2⟩)
  clear e1 hv
  by_cases hr : r = 0
  · have hr2 : (r != 0) = false := by simp [hr]
    rw [if_neg (fun e => e hr)]
    by_cases her : er = 0
    · have her2 : (er != 0) = false := by simp [her]
      rw [if_neg (fun e => e her)]
      have hmk0 : (makeP m.t d nm 1 (leastI m.t)).1.2 = 0 := by rw [hmk2]; exact her
      obtain ⟨i1, yy, hyy, hkk⟩ := make_file hmk0
      rw [hmk2] at i1 hyy
      have hO2 : ({ m with t := t2 } : MD).Ok := by
       have := HO.out.turn (HO.out.well.makeP_ d nm 1 (leastI m.t)) (heldR_make 1 (leastI m.t))
       rw [hmk2] at this
       exact this
      have hiu : U32 io := by
       have h1 : ({ m with t := t2 } : MD).t.n io = some yy := by show t2.n io = some yy; rw [show io = leastI m.t from i1]; exact hyy
       have h2 := hO2.well.range io yy h1
       have h3 := hO2.well.room
       exact ⟨by omega, by omega⟩
      obtain ⟨er3, fd3, io3, hfo⟩ := opened_form (m := { m with t := t2 }) c io
      have HOP := zz (show ∀ (W : World) F' y', ModM W F' P Pt Pf (N + 2) y' { m with t := t2 } → Calls Tryz.prog 108 #[.pointer (some ⟨P, 0, none⟩), .int .i64 c, .int .u32 io] W fun e w' => e = .returned (.agg #[.int .i64 er3, .int .i64 fd3, .int .u32 io3, .int .u32 0, .int .u8 0, .int .i64 0, .int .u32 0, .slice none 0 0, .string ⟨#[]⟩]) ∧ ModB W w' F' P Pt Pf (N + 2) (openedM { m with t := t2 } c io).2 from fun W F' y' hM => (t_openedM W hM hO2 c hc io hiu hb).mono fun e w' hp => hp.form hfo)
      have HFO := zz hfo
      clear hb hfo hmk hmk2 hmk0 hO2 hiu hyy hkk i1
      go_enter Tryz.func72, Tryz.ntmps72
      go_wp2_with (first
       | (go_at_call 106; (with_reducible refine (HF.out _ HM.out).mono ?_); rintro e w2 ⟨rfl, rfl⟩)
       | (go_at_call 109; (with_reducible refine (HEN.out _ HM.out).mono ?_)
          rintro e w2 ⟨rfl, hb2⟩
          have HM2 := zz ((HM.out).below hb2)
          have HB2 := zz (hb2)
          have cq2 := HM2.out.c0
          clear hb2)
       | (go_at_call 110; (with_reducible refine (HMK.out _ HM2.out).mono ?_); rintro e w3 ⟨rfl, hB3⟩
          have HT3 := zz (hB3.later HB2.out)
          obtain ⟨y3, F3, hM3, hU3⟩ := hB3
          have HM3 := zz hM3
          have HU3 := zz hU3
          clear hM3 hU3)
       | (go_at_call 108; (with_reducible refine (HOP.out _ _ _ HM3.out).mono ?_); rintro e w3' ⟨rfl, hB4⟩
          obtain ⟨y4, F4, hM4, hU4⟩ := hB4
          have HB3 : Hid (ModB W1 w3' F P Pt Pf (N + 2) (openedM { m with t := t2 } c io).2) := ⟨y4, F4, hM4, (Turn.of_below _ HB2.out).trans (HU3.out.trans hU4)⟩
          have hz3 := HB3.out.box HLT.out (by omega) HZ.out
          have HZ3 := zz hz3
          obtain ⟨z0, z1, z2, z3, z4, z5, z6, z7, z8, f0, f1, f2, f3, f4, f5, f6, f7, f8⟩ := resZ hz3
          clear hM4 hU4 hz3))
      exact ret_res (r := (openedM { m with t := t2 } c io).1) (m := (openedM { m with t := t2 } c io).2) rfl rfl HB3.out HB1.out HLT.out (by omega) rfl HZ.out HZ3.out (by rw [HFO.out]) (by rw [HFO.out]; rfl)
    · have her2 : (er != 0) = true := by simpa using her
      rw [if_pos her]
      clear hb hmk hmk2
      go_enter Tryz.func72, Tryz.ntmps72
      go_wp2_with (first
       | (go_at_call 106; (with_reducible refine (HF.out _ HM.out).mono ?_); rintro e w2 ⟨rfl, rfl⟩)
       | (go_at_call 109; (with_reducible refine (HEN.out _ HM.out).mono ?_)
          rintro e w2 ⟨rfl, hb2⟩
          have HM2 := zz ((HM.out).below hb2)
          have HB2 := zz (hb2)
          have cq2 := HM2.out.c0
          clear hb2)
       | (go_at_call 110; (with_reducible refine (HMK.out _ HM2.out).mono ?_); rintro e w3 ⟨rfl, hB3⟩
          have HT3 := zz (hB3.later HB2.out)
          obtain ⟨y3, F3, hM3, hU3⟩ := hB3
          have HM3 := zz hM3
          have HU3 := zz hU3
          clear hM3 hU3)
       | (go_at_call 43; (with_reducible refine (t_wrongR _ _).mono ?_)
          rintro e w3 ⟨rfl, hb3⟩
          have HB3 : Hid (ModB W1 w3 F P Pt Pf (N + 2) _) := HT3.out.andBelow hb3
          have hz3 := HB3.out.box HLT.out (by omega) HZ.out
          have HZ3 := zz hz3
          obtain ⟨z0, z1, z2, z3, z4, z5, z6, z7, z8, f0, f1, f2, f3, f4, f5, f6, f7, f8⟩ := resZ hz3
          clear hb3 hz3))
      exact ret_res rfl rfl HB3.out HB1.out HLT.out (by omega) rfl HZ.out HZ3.out rfl rfl
  · have hr2 : (r != 0) = true := by simpa using hr
    rw [if_pos hr]
    clear hb hmk hmk2
    go_enter Tryz.func72, Tryz.ntmps72
    go_wp2_with (first
     | (go_at_call 106; (with_reducible refine (HF.out _ HM.out).mono ?_); rintro e w2 ⟨rfl, rfl⟩)
     | (go_at_call 109; (with_reducible refine (HEN.out _ HM.out).mono ?_)
        rintro e w2 ⟨rfl, hb2⟩
        have HM2 := zz ((HM.out).below hb2)
        have HB2 := zz (hb2)
        have cq2 := HM2.out.c0
        clear hb2)
     | (go_at_call 43; (with_reducible refine (t_wrongR _ _).mono ?_)
        rintro e w3 ⟨rfl, hb3⟩
        have HB3 : Hid (ModB W1 w3 F P Pt Pf (N + 2) _) := (HM.out.keepB (ptrans HB2.out hb3)).mono (by omega)
        have hz3 := HB3.out.box HLT.out (by omega) HZ.out
        have HZ3 := zz hz3
        obtain ⟨z0, z1, z2, z3, z4, z5, z6, z7, z8, f0, f1, f2, f3, f4, f5, f6, f7, f8⟩ := resZ hz3
        clear hb3 hz3))
    exact ret_res rfl rfl HB3.out HB1.out HLT.out (by omega) rfl HZ.out HZ3.out rfl rfl
end
end
end Go.Proofs.YtpcnolkdnmolgaaGreatDoor
