/- The program's tree, plain: what was renamed to where nothing stood, and is renamed back. -/
import Derived.Test.YtpcjbfhgmcioaaaGreatKS
import Derived.Test.YtpcjbfhgmcioaaaGreatSA
namespace Go.Proofs.YtpcjbfhgmcioaaaGreat
open Go.RowKit Go.Maps

variable {t : PT} {a b i : Int} {s s2 : ByteArray} {xa xb y : PN}
def cutX (xa xb : PN) (a b : Int) (s : ByteArray) : PN := if b = a then { xa with l := delL xa.l s.data.toList } else xb
theorem move_n (ha : t.n a = some xa) (hi : t.n i = some y) (hb : t.n b = some xb) (hia : i ≠ a) (hib : i ≠ b) (j : Int) :
    (moveT t a s b s2 i).n j = if j = i then some (inN (outN y) b) else if j = b then some { cutX xa xb a b s with l := updL (cutX xa xb a b s).l s2.data.toList i } else if j = a then some { xa with l := delL xa.l s.data.toList } else t.n j := by
  have h3 : (leaveT t a xa s i y).n b = some (cutX xa xb a b s) := by
    rw [leave_n hia]
    unfold cutX
    by_cases c : b = a
    · rw [if_pos c, if_pos c]
    · rw [if_neg c, if_neg c, if_neg (fun e => hib e.symm)]; exact hb
  unfold moveT
  rw [ha, hi]
  simp only
  rw [h3]
  simp only
  rw [enter_n, leave_n hia]
  by_cases c1 : j = i
  · simp only [if_pos c1]
  · simp only [if_neg c1]
theorem move_room : (moveT t a s b s2 i).room = t.room := by
  unfold moveT
  split
  · split <;> rfl
  · rfl
theorem inout_back (h : y.kind = 2 → y.up = a) : inN (outN (inN (outN y) b)) a = y := by
  by_cases hk : y.kind = 2
  · have := h hk
    unfold outN inN
    simp only [if_pos hk]
    cases y
    simp only at this hk
    subst this
    rfl
  · unfold outN inN
    simp [hk]
theorem updel (l : List UInt8 → Option Int) (k : List UInt8) (h : l k = some i) : updL (delL l k) k i = l := by
  funext z
  unfold updL delL
  by_cases c : z = k
  · simp only [if_pos c]
    rw [c, h]
  · simp only [if_neg c]
theorem delup (l : List UInt8 → Option Int) (k : List UInt8) (h : l k = none) : delL (updL l k i) k = l := by
  funext z
  unfold updL delL
  by_cases c : z = k
  · simp only [if_pos c]
    rw [c, h]
  · simp only [if_neg c]
theorem move_back (ha : t.n a = some xa) (hl : xa.l s.data.toList = some i) (hi : t.n i = some y) (hb : t.n b = some xb) (hia : i ≠ a) (hib : i ≠ b) (hf : xb.l s2.data.toList = none) (hup : y.kind = 2 → y.up = a) :
    moveT (moveT t a s b s2 i) b s2 a s i = t := by
  have hm := move_n (s := s) (s2 := s2) ha hi hb hia hib
  obtain ⟨u, hu⟩ : ∃ u, moveT t a s b s2 i = u := ⟨_, rfl⟩
  have hr : u.room = t.room := by rw [← hu]; exact move_room
  rw [hu] at hm ⊢
  have hbi : u.n i = some (inN (outN y) b) := by rw [hm, if_pos rfl]
  have hbb : u.n b = some { cutX xa xb a b s with l := updL (cutX xa xb a b s).l s2.data.toList i } := by rw [hm, if_neg (fun e => hib e.symm), if_pos rfl]
  have hs : a = b → s.data.toList ≠ s2.data.toList := fun e e2 => by
    subst e
    rw [ha] at hb
    cases hb
    rw [← e2, hl] at hf
    cases hf
  by_cases c : a = b
  · subst c
    rw [ha] at hb
    cases hb
    have hne := hs rfl
    have h2 := move_n (s := s2) (s2 := s) hbb hbi hbb hib hia
    have hc : cutX xa xa a a s = { xa with l := delL xa.l s.data.toList } := by unfold cutX; rw [if_pos rfl]
    have e : ∀ j, (moveT u a s2 a s i).n j = t.n j := fun j => by
      rw [h2 j]
      by_cases c1 : j = i
      · rw [if_pos c1, inout_back hup, c1, hi]
      · rw [if_neg c1]
        by_cases c2 : j = a
        · rw [if_pos c2, c2, ha, hc]
          unfold cutX
          rw [if_pos rfl]
          simp only
          rw [delup _ _ (by unfold delL; rw [if_neg (Ne.symm hne)]; exact hf), updel _ _ hl]
        · rw [if_neg c2, if_neg c2, hm, if_neg c1, if_neg c2, if_neg c2]
    have e2 : (moveT u a s2 a s i).room = t.room := move_room.trans hr
    cases hz : moveT u a s2 a s i with
    | mk r n =>
      rw [hz] at e e2
      cases t
      simp only at e e2
      subst e2
      congr 1
      exact funext e
  · have hba : b ≠ a := fun e => c e.symm
    have hc : cutX xa xb a b s = xb := by unfold cutX; rw [if_neg hba]
    rw [hc] at hbb hm
    have hua : u.n a = some { xa with l := delL xa.l s.data.toList } := by rw [hm, if_neg (fun e => hia e.symm), if_neg c, if_pos rfl]
    have h2 := move_n (s := s2) (s2 := s) hbb hbi hua hib hia
    have e : ∀ j, (moveT u b s2 a s i).n j = t.n j := fun j => by
      rw [h2 j]
      by_cases c1 : j = i
      · rw [if_pos c1, inout_back hup, c1, hi]
      · rw [if_neg c1]
        by_cases c2 : j = a
        · rw [if_pos c2, c2, ha]
          unfold cutX
          rw [if_neg c]
          simp only
          rw [updel _ _ hl]
        · rw [if_neg c2]
          by_cases c3 : j = b
          · rw [if_pos c3, c3, hb]
            simp only
            rw [delup _ _ hf]
          · rw [if_neg c3, hm, if_neg c1, if_neg c3, if_neg c2]
    have e2 : (moveT u b s2 a s i).room = t.room := move_room.trans hr
    cases hz : moveT u b s2 a s i with
    | mk r n =>
      rw [hz] at e e2
      cases t
      simp only at e e2
      subst e2
      congr 1
      exact funext e
/-- A directory is not below what is in it. -/
theorem not_bel_up (h : WellP t) (hi : t.n i = some y) (hk : y.kind = 2) {u : PT} (hu : ∀ j, j ≠ i → ∀ z, u.n j = some z → ∃ z0, t.n j = some z0 ∧ z.up = z0.up) (ha : t.n a = some xa) (hak : xa.kind = 2) (hya : y.up = a) (hai : a ≠ i) : ¬ Bel u i a := by
  obtain ⟨r, hr⟩ := h.rank
  have key : ∀ (n : Nat) (j : Int) (x : PN), belowP u i n j = true → t.n j = some x → x.kind = 2 → j ≠ i → r i < r j := by
    intro n
    induction n with
    | zero => intro j x hb; cases hb
    | succ n ih =>
      intro j x hb hx hxk hj
      unfold belowP at hb
      split at hb
      · cases hb
      · rename_i hj0
        first | rw [if_neg hj] at hb | skip
        have hux : upAt u j = x.up ∨ upAt u j = 0 := by
          unfold upAt
          cases hz : u.n j with
          | none => exact .inr rfl
          | some z =>
            obtain ⟨z0, h1, h2⟩ := hu j hj z hz
            rw [hx] at h1
            cases h1
            exact .inl h2
        rcases hux with e | e
        · rw [e] at hb
          have hup0 : x.up ≠ 0 := fun e0 => by rw [e0, belowP_zero] at hb; cases hb
          have hlt := hr j x hx hxk hup0
          by_cases c : x.up = i
          · rw [c] at hlt; exact hlt
          · have hj1 : j ≠ 1 := fun e1 => by
              obtain ⟨x1, h1, _, h3⟩ := h.root
              rw [e1, h1] at hx
              cases hx
              exact hup0 h3
            obtain ⟨k, xu, hxu, hlu⟩ := h.up j x hx hxk hj1
            have := ih x.up xu hb hxu (h.ent _ _ _ _ hxu hlu).1 c
            omega
        · rw [e, belowP_zero] at hb; cases hb
  rintro ⟨n, hn⟩
  have h1 := key n a xa hn ha hak hai
  have h0 : y.up ≠ 0 := fun e => by
    have := (h.range a xa ha).1
    omega
  have h2 := hr i y hi hk h0
  rw [hya] at h2
  omega
theorem first3 {x y z : Int} (h : x = 0) (h2 : y = 0) (h3 : z = 0) : firstE [x, y, z] = 0 := by simp [firstE, h, h2, h3]
theorem names_both {s s2 : ByteArray} (h : namesE [s, s2] = 0) : namesE [s] = 0 ∧ namesE [s2] = 0 ∧ namesE [s2, s] = 0 := by
  unfold namesE at *
  cases e1 : pnameB s <;> cases e2 : pnameB s2 <;> simp [e1, e2] at h ⊢
theorem there_of {is : List Int} (h : ∀ i ∈ is, (t.n i).isSome = true) : thereE t is = 0 := by
  unfold thereE
  rw [if_neg]
  rw [List.any_eq_true]
  rintro ⟨i, hi, h2⟩
  have := h i hi
  cases hx : t.n i with
  | none => rw [hx] at this; cases this
  | some x => rw [hx] at h2; cases h2
theorem dirs_of {is : List Int} (h : ∀ i ∈ is, ∃ x, t.n i = some x ∧ x.kind = 2) : dirsE t is = 0 := by
  unfold dirsE
  rw [if_neg]
  rw [List.any_eq_true]
  rintro ⟨i, hi, h2⟩
  obtain ⟨x, hx, hk⟩ := h i hi
  unfold isFile at h2
  rw [hx] at h2
  simp [hk] at h2
theorem look_of (hn : namesE [s] = 0) (ha : t.n a = some xa) (hk : xa.kind = 2) : lookP t a s = ((xa.l s.data.toList).getD 0, if (xa.l s.data.toList).getD 0 = 0 then 3 else 0) := by
  unfold lookP
  rw [first3 hn (there_of (by simp [ha])) (dirs_of (by simp; exact ⟨xa, ha, hk⟩))]
  rw [if_neg (by simp), ha]
/-- There, and back. -/
theorem turn_back (h : WellP t) {t' : PT} (h3 : (lookP t b s2).2 = 3) (hr : renameP t a s b s2 = (0, t')) :
    ∃ i, i ≠ 0 ∧ lookP t' b s2 = (i, 0) ∧ (lookP t' a s).2 = 3 ∧ renameP t' b s2 a s = (0, t) := by
  have hr0 := hr
  unfold renameP at hr
  by_cases h1 : firstE [namesE [s, s2], thereE t [a, b], dirsE t [a, b]] ≠ 0
  · rw [if_pos h1] at hr
    injection hr with e _
    exact absurd e h1
  · rw [if_neg h1] at hr
    have h1' := Decidable.not_not.1 h1
    obtain ⟨z1, h1''⟩ := firstE_cons h1'
    obtain ⟨n1, n2, n3⟩ := names_both z1
    obtain ⟨xa0, xb, hxa0, hxb, hak0, hbk⟩ := rename_dirs h1'
    by_cases h2 : (lookP t a s).2 ≠ 0
    · rw [if_pos h2] at hr
      injection hr with e _
      exact absurd e h2
    · rw [if_neg h2] at hr
      obtain ⟨xa, y, ha, hl, hi, hia, hi1, _, hak⟩ := look_okP h.good (Decidable.not_not.1 h2)
      obtain ⟨i, hii⟩ : ∃ i, (lookP t a s).1 = i := ⟨_, rfl⟩
      rw [hii] at hr hl hi hia hi1
      rw [hi, hxb] at hr
      simp only at hr
      have hf : xb.l s2.data.toList = none := by
        rw [look_of n2 hxb hbk] at h3
        cases hl2 : xb.l s2.data.toList with
        | none => rfl
        | some v =>
          obtain ⟨_, _, _, z, hz, _⟩ := h.ent b xb _ v hxb hl2
          have := (h.range v z hz).1
          rw [hl2] at h3
          simp at h3
          omega
      by_cases hb2 : y.kind = 2 ∧ Bel t i b
      · rw [if_pos hb2] at hr
        injection hr with e _
        cases e
      · rw [if_neg hb2, hf] at hr
        simp only at hr
        injection hr with _ ht'
        have hi0 : i ≠ 0 := by omega
        have hib : i ≠ b := fun e => by
          rw [← e, hi] at hxb
          cases hxb
          exact hb2 ⟨hbk, e ▸ bel_self hi0⟩
        obtain ⟨_, _, _, y', hy', hup⟩ := h.ent a xa _ i ha hl
        rw [hi] at hy'
        cases hy'
        have hm := move_n (s := s) (s2 := s2) ha hi hxb hia hib
        have hback := move_back (s2 := s2) ha hl hi hxb hia hib hf hup
        rw [ht'] at hm hback
        have hW' : WellP t' := by
          have := h.renameP_ a s b s2
          rw [hr0] at this
          exact this
        obtain ⟨xu, hxu⟩ : ∃ xu, xu = { cutX xa xb a b s with l := updL (cutX xa xb a b s).l s2.data.toList i } := ⟨_, rfl⟩
        have ub : t'.n b = some xu := by rw [hm, if_neg (fun e => hib e.symm), if_pos rfl, hxu]
        have xul : xu.l = updL (cutX xa xb a b s).l s2.data.toList i := by rw [hxu]
        have ui : t'.n i = some (inN (outN y) b) := by rw [hm, if_pos rfl]
        have hck : xu.kind = 2 := by
          rw [hxu]
          show (cutX xa xb a b s).kind = 2
          unfold cutX
          split
          · exact hak
          · exact hbk
        have ua : ∃ z, t'.n a = some z ∧ z.kind = 2 ∧ z.l s.data.toList = none := by
          by_cases c : a = b
          · refine ⟨xu, by rw [c]; exact ub, hck, ?_⟩
            rw [xul]
            subst c
            rw [ha] at hxb
            cases hxb
            unfold updL
            rw [if_neg (fun e => by rw [e, hf] at hl; cases hl)]
            unfold cutX
            rw [if_pos rfl]
            show delL _ _ _ = none
            unfold delL
            rw [if_pos rfl]
          · refine ⟨{ xa with l := delL xa.l s.data.toList }, by rw [hm, if_neg (fun e => hia e.symm), if_neg c, if_pos rfl], hak, ?_⟩
            show delL _ _ _ = none
            unfold delL
            rw [if_pos rfl]
        obtain ⟨za, hza, hzk, hzl⟩ := ua
        have hl1 : lookP t' b s2 = (i, 0) := by
          rw [look_of n2 ub hck]
          have : (updL (cutX xa xb a b s).l s2.data.toList i) s2.data.toList = some i := by unfold updL; rw [if_pos rfl]
          rw [xul, this]
          simp [hi0]
        refine ⟨i, hi0, hl1, ?_, ?_⟩
        · rw [look_of n1 hza hzk, hzl]
          simp
        · unfold renameP
          rw [first3 n3 (there_of (by simp [hza, ub])) (dirs_of (by
            intro j hj
            simp at hj
            rcases hj with e | e
            · exact ⟨_, e ▸ ub, hck⟩
            · exact ⟨_, e ▸ hza, hzk⟩))]
          rw [if_neg (by simp), hl1]
          rw [if_neg (by simp)]
          simp only
          rw [ui, hza]
          simp only
          rw [if_neg, hzl]
          · simp only
            rw [hback]
          · rintro ⟨hk2, hbel⟩
            have hyk : y.kind = 2 := by
              rcases h.kind i y hi with e | e
              · exfalso
                unfold inN outN at hk2
                simp [e] at hk2
              · exact e
            refine not_bel_up h hi hyk (u := t') (fun j hj z hz => ?_) ha hak (hup hyk) (fun e => hia e.symm) hbel
            rw [hm, if_neg hj] at hz
            by_cases c1 : j = b
            · rw [if_pos c1] at hz
              cases hz
              unfold cutX
              by_cases c2 : b = a
              · rw [if_pos c2]
                exact ⟨xa, by rw [c1, c2]; exact ha, rfl⟩
              · rw [if_neg c2]
                exact ⟨xb, by rw [c1]; exact hxb, rfl⟩
            · rw [if_neg c1] at hz
              by_cases c2 : j = a
              · rw [if_pos c2] at hz
                cases hz
                exact ⟨xa, by rw [c2]; exact ha, rfl⟩
              · rw [if_neg c2] at hz
                exact ⟨z, hz, rfl⟩
end Go.Proofs.YtpcjbfhgmcioaaaGreat

/- TreeTurn, walked. -/
namespace Go.Proofs.YtpcjbfhgmcioaaaGreat
open Go.RowKit Go.Maps

/-- A tree of the call's own, played on. -/
def Gr (B : Nat) (w1 : World) (P N : Nat) (K : Int) (t : PT) (w : World) : Prop := ∃ y F, TreeM w F P N y t ∧ WellP t ∧ HeldK K t ∧ (∀ b, F b → B ≤ b) ∧ B ≤ w.heap.size ∧ Below B w1 w
/-- Two trees of the call's own, apart. -/
def Two (B : Nat) (w1 : World) (P P2 N : Nat) (t t2 : PT) (w : World) : Prop := ∃ y F y2 F2, TreeM w F P N y t ∧ TreeM w F2 P2 N y2 t2 ∧ WellP t ∧ WellP t2 ∧ (∀ b, F b → B ≤ b) ∧ (∀ b, F2 b → ¬ F b) ∧ B ≤ w.heap.size ∧ Below B w1 w
section
variable {B P P2 N : Nat} {K : Int} {w1 w w' : World} {t t2 : PT}
theorem below_weak {B : Nat} {w w' : World} (hb : Below w.heap.size w w') (hs : B ≤ w.heap.size) : Below B w w' := ⟨hb.os, hb.tape, hb.output, hb.size, fun b h => hb.block b (Nat.lt_of_lt_of_le h hs)⟩
theorem heldK_new (n : Int) : HeldK 0 (newT n) := by
  intro i x hx
  unfold newT PT.set at hx
  simp only at hx
  split at hx
  · cases hx; exact Int.le_refl _
  · cases hx
theorem gr_new (n : Int) (w : World) (h1 : 2 ≤ n) (h2 : n ≤ 256) : Calls Tryz.prog 9 #[.int .i64 n] w fun e w' => ∃ P, e = .returned (.tuple #[.pointer (some ⟨P, 0, none⟩), .int .i64 0]) ∧ Gr w.heap.size w P 1 0 (newT n) w' :=
  (t_new n w h1 h2).mono fun e w' ⟨P, y, F, he, hT, hb, hF⟩ => ⟨P, he, y, F, hT, WellP.new n h1 h2, heldK_new n, hF, hb.size, hb⟩
theorem Gr.below (h : Gr B w1 P N K t w) (hb : Below w.heap.size w w') : Gr B w1 P N K t w' := by
  obtain ⟨y, F, hT, hW, hK, hF, hs, hB⟩ := h
  exact ⟨y, F, hT.below hb, hW, hK, hF, Nat.le_trans hs hb.size, hB.trans (below_weak hb hs)⟩
theorem Gr.mem (h : Gr B w1 P N K t w) : Below B w1 w := by
  obtain ⟨y, F, _, _, _, _, _, hB⟩ := h
  exact hB
theorem gr_play (s : PStep) (hf : StepFits s) (h : Gr B w1 P N K t w) (h0 : 0 ≤ K) (hK : K ≤ 1000000000) (hN : N < 900000) :
    Calls Tryz.prog 19 #[.pointer (some ⟨P, 0, none⟩), stepV s] w fun e w' => ∃ r t', e = .returned (.int .i64 r) ∧ playP t s = (r, t') ∧ Gr B w1 P (N + 2) (K + 1) t' w' := by
  obtain ⟨y, F, hT, hW, hKK, hF, hs, hB⟩ := h
  obtain ⟨r, t', hr⟩ : ∃ r t', playP t s = (r, t') := ⟨_, _, rfl⟩
  refine (t_play s hf r t' hr w hT hW (hKK.mono hK) hN).mono fun e w' ⟨he, y', F', hT', hU⟩ => ?_
  have e1 : t' = (playP t s).2 := by rw [hr]
  refine ⟨r, t', he, hr, y', F', hT', by rw [e1]; exact hW.playP_ s, by rw [e1]; exact hKK.playP_ h0 s, fun b hb => ?_, Nat.le_trans hs hU.size, hB.trans (hU.below hF hs)⟩
  rcases hU.foot b hb with h1 | h1
  · exact hF b h1
  · exact Nat.le_trans hs h1
theorem gr_copy (h : Gr B w1 P N K t w) (hN : N ≤ 60000) : Calls Tryz.prog 11 #[.pointer (some ⟨P, 0, none⟩)] w fun e w' => ∃ P2, e = .returned (.pointer (some ⟨P2, 0, none⟩)) ∧ Two B w1 P P2 N t t w' := by
  obtain ⟨y, F, hT, hW, hKK, hF, hs, hB⟩ := h
  refine (t_copyP w hT hN).mono fun e w' ⟨P2, y2, F2, he, hT2, hF2, hb⟩ => ?_
  refine ⟨P2, he, y, F, y2, F2, hT.below hb, hT2, hW, hW, hF, fun b h2 h1 => ?_, Nat.le_trans hs hb.size, hB.trans (below_weak hb hs)⟩
  have := hT.lt b h1
  have := hF2 b h2
  omega
theorem Two.below (h : Two B w1 P P2 N t t2 w) (hb : Below w.heap.size w w') : Two B w1 P P2 N t t2 w' := by
  obtain ⟨y, F, y2, F2, hT, hT2, hW, hW2, hF, hd, hs, hB⟩ := h
  exact ⟨y, F, y2, F2, hT.below hb, hT2.below hb, hW, hW2, hF, hd, Nat.le_trans hs hb.size, hB.trans (below_weak hb hs)⟩
theorem Two.mem (h : Two B w1 P P2 N t t2 w) : Below B w1 w := by
  obtain ⟨y, F, y2, F2, _, _, _, _, _, _, _, hB⟩ := h
  exact hB
theorem two_look (dir : Int) (s : ByteArray) (r1 r2 : Int) (hr : lookP t dir s = (r1, r2)) (h : Two B w1 P P2 N t t2 w) (hd : U32 dir) (hs : s.size ≤ maxLen) :
    Calls Tryz.prog 23 #[.pointer (some ⟨P, 0, none⟩), .int .u32 dir, .string s] w fun e w' => e = .returned (.tuple #[.int .u32 r1, .int .i64 r2]) ∧ Two B w1 P P2 N t t2 w' := by
  have h' := h
  obtain ⟨y, F, y2, F2, hT, _⟩ := h
  exact (t_look dir s r1 r2 hr w hT hd hs).mono fun e w' ⟨he, hb⟩ => ⟨he, h'.below hb⟩
theorem two_rename (a : Int) (s : ByteArray) (b : Int) (s2 : ByteArray) (r : Int) (t' : PT) (hr : renameP t a s b s2 = (r, t')) (h : Two B w1 P P2 N t t2 w) (ha : U32 a) (hb : U32 b) (hs : s.size ≤ maxLen) (hs2 : s2.size ≤ maxLen) (hN : N < 900000) :
    Calls Tryz.prog 24 #[.pointer (some ⟨P, 0, none⟩), .int .u32 a, .string s, .int .u32 b, .string s2] w fun e w' => e = .returned (.int .i64 r) ∧ Two B w1 P P2 (N + 1) t' t2 w' := by
  have h' := h
  obtain ⟨y, F, y2, F2, hT, hT2, hW, hW2, hF, hd, hsz, hB⟩ := h
  refine (t_renameP a s b s2 r t' hr w hT hW ha hb hs hs2 hN).mono fun e w' ⟨he, y', F', hT', hU⟩ => ⟨he, ?_⟩
  have hW' : WellP t' := by
    have := hW.renameP_ a s b s2
    rw [hr] at this
    exact this
  refine ⟨y', F', y2, F2, hT', (hT2.same (fun b hb2 => hU.block b (hT2.lt b hb2) (hd b hb2)) hU.size).mono (Nat.le_succ N), hW', hW2, fun b hb2 => ?_, fun b hb2 h1 => ?_, Nat.le_trans hsz hU.size, hB.trans (hU.below hF hsz)⟩
  · rcases hU.foot b hb2 with h1 | h1
    · exact hF b h1
    · exact Nat.le_trans hsz h1
  · rcases hU.foot b h1 with h3 | h3
    · exact hd b hb2 h3
    · have := hT2.lt b hb2
      omega
theorem two_alike (h : Two B w1 P P2 N t t w) (hN : N ≤ 60000) :
    Calls Tryz.prog 22 #[.pointer (some ⟨P, 0, none⟩), .pointer (some ⟨P2, 0, none⟩)] w fun e w' => e = .returned (.bool true) ∧ Two B w1 P P2 N t t w' := by
  have h' := h
  obtain ⟨y, F, y2, F2, hT, hT2, hW, _⟩ := h
  exact (t_alike w hT hT2 hW hN).mono fun e w' ⟨he, hb⟩ => ⟨he, h'.below hb⟩
end
theorem LongQ.get2 {n : Nat} {w w' : World} {e : Ending} (h : LongQ n w e w') : ∃ b, e = .returned (.bool b) ∧ (b = false → n ≤ 150) ∧ Below w.heap.size w w' := h
def Played (B : Nat) (w1 : World) (P k : Nat) (w : World) : Prop := ∃ t, Gr B w1 P (1 + 2 * k) (k : Int) t w
set_option maxRecDepth 100000 in
set_option maxHeartbeats 4000000 in
theorem t_turn (A : Option Addr) (n c : Nat) (f : Nat → PStep) (dir : Int) (name : ByteArray) (toD : Int) (nm2 : ByteArray) (w : World) (hs : Steps w A n f) (hn : n ≤ maxLen) (hd : U32 dir) (ht : U32 toD) (h1 : name.size ≤ maxLen) (h2 : nm2.size ≤ maxLen) :
    Calls Tryz.prog 5 #[.slice A n c, .int .u32 dir, .string name, .int .u32 toD, .string nm2] w fun e w' => e = .returned (.bool true) ∧ Below w.heap.size w w' := by
  have HN := Lib.hid hn
  have HS := Lib.hid hs
  have HD := Lib.hid hd
  have HTo := Lib.hid ht
  have H1 := Lib.hid h1
  have H2 := Lib.hid h2
  have HL := Lib.hid (t_long A n c f w HS.out HN.out)
  clear hs hn hd ht h1 h2
  go_enter Tryz.func5, Tryz.ntmps5
  all_goals (go_wp2_with (first
    | (go_at_call 6; with_reducible refine HL.out.mono ?_; rintro e w1 hq; obtain ⟨b, rfl, hb, h1⟩ := hq.get2; clear hq; have HB1 := Lib.hid h1; have HBL := Lib.hid hb; clear h1 hb; cases b)
    | (go_at_call 7; with_reducible refine (t_alive _).mono ?_; rintro e w2 ⟨rfl, h2⟩; have HA := Lib.hid h2; clear h2)
    | (go_at_call 9; with_reducible refine (gr_new 16 _ (by omega) (by omega)).mono ?_; rintro e w2 ⟨P, rfl, h2⟩; have HG := Lib.hid h2; clear h2)))
  all_goals first
    | (go_ret; exact ⟨rfl, ptrans HB1.out HA.out⟩; done)
    | skip
  have hn150 : n ≤ 150 := by
    have h := HBL.out
    simpa using h
  have HSt := Lib.hid (fun W (h : Below w1.heap.size w1 W) => HS.out.below (ptrans HB1.out h))
  clear HL HN HBL HS
  go_loopw [13] (fun v wr => ∃ k : Nat, v = .int .i64 (k : Int) ∧ k ≤ n ∧ Played w1.heap.size w1 P k wr) (fun v _ => n - (intOf v).toNat)
  case atStart => exact ⟨0, rfl, Nat.zero_le _, _, HG.out⟩
  case round =>
    obtain ⟨k, rfl, hk, t, hg⟩ := hrel
    have HGr := Lib.hid hg
    clear hg
    by_cases he : k = n
    · subst he
      obtain ⟨r1, r2, hlk⟩ : ∃ r1 r2, lookP t toD nm2 = (r1, r2) := ⟨_, _, rfl⟩
      obtain ⟨q, t', hrn⟩ : ∃ q t', renameP t dir name toD nm2 = (q, t') := ⟨_, _, rfl⟩
      have HLK := Lib.hid hlk
      have HRN := Lib.hid hrn
      by_cases h3 : r2 = 3
      · by_cases hq : q = 0
        · subst h3
          subst hq
          have hW : WellP t := by
            obtain ⟨_, _, _, hW, _⟩ := HGr.out
            exact hW
          obtain ⟨i, hi0, g1, g2, g3⟩ := turn_back hW (by rw [hlk]) hrn
          obtain ⟨j1, hj⟩ : ∃ j1, lookP t' dir name = (j1, 3) := ⟨_, by rw [← g2]⟩
          have hib : (i != 0) = true := by simpa using hi0
          have hib0 : (i == 0) = false := by simpa using hi0
          have HG1 := Lib.hid g1
          have HG2 := Lib.hid hj
          have HG3 := Lib.hid g3
          clear hlk hrn hW g1 g2 g3 hj
          go_wp2_with (first
            | (go_at_call 11; with_reducible refine (gr_copy HGr.out (by omega)).mono ?_; rintro e w3 ⟨P2, rfl, h3⟩; have H3 := Lib.hid h3; clear h3)
            | (go_at_call 23; first
              | (with_reducible refine (two_look _ _ _ _ HLK.out H3.out HTo.out H2.out).mono ?_; rintro e w4 ⟨rfl, h4⟩; have H4 := Lib.hid h4; clear h4 H3)
              | (with_reducible refine (two_look _ _ _ _ HG1.out H5.out HTo.out H2.out).mono ?_; rintro e w6 ⟨rfl, h6⟩; have H6 := Lib.hid h6; clear h6 H5)
              | (with_reducible refine (two_look _ _ _ _ HG2.out H6.out HD.out H1.out).mono ?_; rintro e w7 ⟨rfl, h7⟩; have H7 := Lib.hid h7; clear h7 H6))
            | (go_at_call 24; first
              | (with_reducible refine (two_rename _ _ _ _ _ _ HRN.out H4.out HD.out HTo.out H1.out H2.out (by omega)).mono ?_; rintro e w5 ⟨rfl, h5⟩; have H5 := Lib.hid h5; clear h5 H4)
              | (with_reducible refine (two_rename _ _ _ _ _ _ HG3.out H7.out HTo.out HD.out H2.out H1.out (by omega)).mono ?_; rintro e w8 ⟨rfl, h8⟩; have H8 := Lib.hid h8; clear h8 H7))
            | (go_at_call 22; with_reducible refine (two_alike H8.out (by omega)).mono ?_; rintro e wA ⟨rfl, hA⟩; have H9 := Lib.hid hA; clear hA H8)
            | (go_at_call 7; with_reducible refine (t_alive _).mono ?_; rintro e w9 ⟨rfl, h9⟩; have HA := Lib.hid (ptrans (ptrans HB1.out H9.out.mem) h9); clear h9))
          go_ret
          exact ⟨rfl, HA.out⟩
        · subst h3
          have hqb : (q == 0) = false := by simpa using hq
          clear hlk hrn hq
          go_wp2_with (first
            | (go_at_call 11; with_reducible refine (gr_copy HGr.out (by omega)).mono ?_; rintro e w3 ⟨P2, rfl, h3⟩; have H3 := Lib.hid h3; clear h3)
            | (go_at_call 23; with_reducible refine (two_look _ _ _ _ HLK.out H3.out HTo.out H2.out).mono ?_; rintro e w4 ⟨rfl, h4⟩; have H4 := Lib.hid h4; clear h4)
            | (go_at_call 24; with_reducible refine (two_rename _ _ _ _ _ _ HRN.out H4.out HD.out HTo.out H1.out H2.out (by omega)).mono ?_; rintro e w5 ⟨rfl, h5⟩; have H5 := Lib.hid h5; clear h5)
            | (go_at_call 7; with_reducible refine (t_alive _).mono ?_; rintro e w9 ⟨rfl, h9⟩; have HA := Lib.hid (ptrans (ptrans HB1.out H5.out.mem) h9); clear h9))
          go_ret
          exact ⟨rfl, HA.out⟩
      · have h3b : (r2 == 3) = false := by simpa using h3
        clear hlk hrn
        go_wp2_with (first
          | (go_at_call 11; with_reducible refine (gr_copy HGr.out (by omega)).mono ?_; rintro e w3 ⟨P2, rfl, h3⟩; have H3 := Lib.hid h3; clear h3)
          | (go_at_call 23; with_reducible refine (two_look _ _ _ _ HLK.out H3.out HTo.out H2.out).mono ?_; rintro e w4 ⟨rfl, h4⟩; have H4 := Lib.hid h4; clear h4)
          | (go_at_call 7; with_reducible refine (t_alive _).mono ?_; rintro e w9 ⟨rfl, h9⟩; have HA := Lib.hid (ptrans (ptrans HB1.out H4.out.mem) h9); clear h9))
        go_ret
        exact ⟨rfl, HA.out⟩
    · have hkn : k < n := by omega
      obtain ⟨ab, ao, rfl, hlt, hc⟩ := (HSt.out w1 (Below.refl _ _)).at_ (by omega)
      have hf := (HSt.out w1 (Below.refl _ _)).fits k hkn
      have hcw := (hc k hkn).below HGr.out.mem hlt
      obtain ⟨c0, c1, c2, c3, c4, c5, c6, c7⟩ := hcw
      have hpl := gr_play (f k) hf HGr.out (by omega) (by omega) (by omega)
      unfold stepV at hpl
      have HPL := Lib.hid hpl
      clear hpl hf hc hlt he HGr
      go_wp2_with (first
        | (go_at_call 19; with_reducible refine HPL.out.mono ?_; rintro e w3 ⟨r, t', rfl, _, h3⟩; have H3 := Lib.hid h3; clear h3))
      go_roundw
      case rel => exact ⟨k + 1, by go_num, by omega, _, H3.out⟩
      case measure => simp [intOf]; omega
end Go.Proofs.YtpcjbfhgmcioaaaGreat
