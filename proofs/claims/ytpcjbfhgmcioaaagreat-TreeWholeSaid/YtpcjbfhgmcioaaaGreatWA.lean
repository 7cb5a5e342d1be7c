/- The program's tree, plain: what is refused changes nothing; two trees, a step more. -/
import Derived.Test.YtpcjbfhgmcioaaaGreatKV
namespace Go.Proofs.YtpcjbfhgmcioaaaGreat
open Go.RowKit Go.Maps

variable {t t' : PT} {r : Int}
theorem makeAt_same (d : Int) (s : ByteArray) (k i : Int) (h : (makeAtP t d s k i).1 ≠ 0) : (makeAtP t d s k i).2 = t := by
  unfold makeAtP at *
  split at h
  · exact absurd rfl h
  · rename_i c; rw [if_neg c]
theorem make_same (d : Int) (s : ByteArray) (k i : Int) (h : (makeP t d s k i).1.2 ≠ 0) : (makeP t d s k i).2 = t := by
  unfold makeP at *
  split at h
  · rename_i c; rw [if_pos c]; exact makeAt_same d s k i h
  · rename_i c; rw [if_neg c]
theorem link_same (d : Int) (s : ByteArray) (i : Int) (h : (linkP t d s i).1 ≠ 0) : (linkP t d s i).2 = t := by
  unfold linkP at *
  split at h
  · exact absurd rfl h
  · rename_i c; rw [if_neg c]
theorem drop_same (d : Int) (s : ByteArray) (q : PN → Int) (h : (dropP t d s q).1.2 ≠ 0) : (dropP t d s q).2 = t := by
  unfold dropP at *
  split at h
  · rename_i c; rw [if_pos c]
  · rename_i c
    rw [if_neg c]
    split at h
    · rename_i xd xi e1 e2
      try rw [e1, e2]
      try simp only
      split at h
      · rename_i c2; rw [if_pos c2]
      · exact absurd rfl h
    · exact absurd rfl h
theorem rename_same (a : Int) (s : ByteArray) (b : Int) (s2 : ByteArray) (h : (renameP t a s b s2).1 ≠ 0) : (renameP t a s b s2).2 = t := by
  unfold renameP at *
  split at h
  · rename_i c; rw [if_pos c]
  · rename_i c
    rw [if_neg c]
    split at h
    · rename_i c2; rw [if_pos c2]
    · rename_i c2
      rw [if_neg c2]
      split at h
      · rename_i xi xb e1 e2
        try rw [e1, e2]
        try simp only
        split at h
        · rename_i c3; rw [if_pos c3]
        · rename_i c3
          try rw [if_neg c3]
          split at h
          · exact absurd rfl h
          · rename_i old e3
            try rw [e3]
            try simp only
            split at h
            · exact absurd rfl h
            · rename_i c4
              try rw [if_neg c4]
              split at h
              · rename_i xo e5
                try rw [e5]
                try simp only
                split at h
                · rename_i c6; rw [if_pos c6]
                · exact absurd rfl h
              · exact absurd rfl h
      · exact absurd rfl h
theorem resize_same (i n : Int) (h : (resizeP t i n).1 ≠ 0) : (resizeP t i n).2 = t := by
  unfold resizeP at *
  split at h
  · exact absurd rfl h
  · rename_i c; rw [if_neg c]
theorem write_same (i p : Int) (d : ByteArray) (h : (writeP t i p d).1 ≠ 0) : (writeP t i p d).2 = t := by
  unfold writeP at *
  split at h
  · exact absurd rfl h
  · rename_i c; rw [if_neg c]
theorem hold_same (i : Int) (h : (holdP t i).1 ≠ 0) : (holdP t i).2 = t := by
  unfold holdP at *
  split at h
  · exact absurd rfl h
  · rename_i c; rw [if_neg c]
theorem unhold_same (i : Int) (h : (unholdP t i).1 ≠ 0) : (unholdP t i).2 = t := by
  unfold unholdP at *
  split at h
  · exact absurd rfl h
  · rename_i c; rw [if_neg c]
/-- What is refused changes nothing. -/
theorem play_same (s : PStep) (h : (playP t s).1 ≠ 0) : (playP t s).2 = t := by
  unfold playP at *
  by_cases c0 : s.what = 0
  · simp only [if_pos c0] at h ⊢; exact make_same _ _ _ _ h
  simp only [if_neg c0] at h ⊢
  by_cases c1 : s.what = 1
  · simp only [if_pos c1] at h ⊢; exact makeAt_same _ _ _ _ h
  simp only [if_neg c1] at h ⊢
  by_cases c2 : s.what = 2
  · simp only [if_pos c2] at h ⊢; exact link_same _ _ _ h
  simp only [if_neg c2] at h ⊢
  by_cases c3 : s.what = 3
  · simp only [if_pos c3] at h ⊢; exact drop_same _ _ _ h
  simp only [if_neg c3] at h ⊢
  by_cases c4 : s.what = 4
  · simp only [if_pos c4] at h ⊢; exact drop_same _ _ _ h
  simp only [if_neg c4] at h ⊢
  by_cases c5 : s.what = 5
  · simp only [if_pos c5] at h ⊢; exact rename_same _ _ _ _ h
  simp only [if_neg c5] at h ⊢
  by_cases c6 : s.what = 6
  · simp only [if_pos c6] at h ⊢; exact resize_same _ _ h
  simp only [if_neg c6] at h ⊢
  by_cases c7 : s.what = 7
  · simp only [if_pos c7] at h ⊢; exact write_same _ _ _ h
  simp only [if_neg c7] at h ⊢
  by_cases c8 : s.what = 8
  · simp only [if_pos c8] at h ⊢; exact hold_same _ h
  simp only [if_neg c8] at h ⊢
  by_cases c9 : s.what = 9
  · simp only [if_pos c9] at h ⊢; exact unhold_same _ h
  simp only [if_neg c9] at h ⊢
section
variable {B P P2 N : Nat} {K : Int} {w1 w w' : World} {t2 : PT}
/-- A step, of the first of two trees. -/
theorem two_play (s : PStep) (hf : StepFits s) (h : Two B w1 P P2 N t t2 w) (hKK : HeldK K t) (hK : K ≤ 1000000000) (hN : N < 900000) :
    Calls Tryz.prog 19 #[.pointer (some ⟨P, 0, none⟩), stepV s] w fun e w' => e = .returned (.int .i64 (playP t s).1) ∧ Two B w1 P P2 (N + 2) (playP t s).2 t2 w' := by
  obtain ⟨y, F, y2, F2, hT, hT2, hW, hW2, hF, hd, hsz, hB⟩ := h
  refine (t_play s hf (playP t s).1 (playP t s).2 rfl w hT hW (hKK.mono hK) hN).mono fun e w' ⟨he, y', F', hT', hU⟩ => ⟨he, ?_⟩
  refine ⟨y', F', y2, F2, hT', (hT2.same (fun b hb2 => hU.block b (hT2.lt b hb2) (hd b hb2)) hU.size).mono (Nat.le_add_right N 2), hW.playP_ s, hW2, fun b hb2 => ?_, fun b hb2 h1 => ?_, Nat.le_trans hsz hU.size, hB.trans (hU.below hF hsz)⟩
  · rcases hU.foot b hb2 with h1 | h1
    · exact hF b h1
    · exact Nat.le_trans hsz h1
  · rcases hU.foot b h1 with h3 | h3
    · exact hd b hb2 h3
    · have := hT2.lt b hb2
      omega
/-- The second one is left behind. -/
theorem Two.one (h : Two B w1 P P2 N t t2 w) (hK : HeldK K t) : Gr B w1 P N K t w := by
  obtain ⟨y, F, y2, F2, hT, hT2, hW, hW2, hF, hd, hsz, hB⟩ := h
  exact ⟨y, F, hT, hW, hK, hF, hsz, hB⟩
end
end Go.Proofs.YtpcjbfhgmcioaaaGreat

/- The program's tree, plain: how often an inode is named. -/
namespace Go.Proofs.YtpcjbfhgmcioaaaGreat
open Go.RowKit Go.Maps

variable {t : PT}
open Classical in
/-- The entries of a directory, in their order. -/
noncomputable def entsOf (t : PT) (d : Int) : List E := if h : ∃ L, EntsOf (listL t d) L then Classical.choose h else []
theorem entsOf_spec {d : Int} {L : List E} (h : EntsOf (listL t d) L) : entsOf t d = L := by
  have hex : ∃ L, EntsOf (listL t d) L := ⟨L, h⟩
  unfold entsOf
  rw [dif_pos hex]
  exact ents_unique (Classical.choose_spec hex) h
theorem listL_ent (h : WellP t) (d : Int) (k : List UInt8) (v : Int) : listL t d k = some v ↔ Ent t d k v := by
  constructor
  · intro hl
    unfold listL at hl
    split at hl
    · cases hx : t.n d with
      | none => rw [hx] at hl; cases hl
      | some x => rw [hx] at hl; exact ⟨x, hx, hl⟩
    · cases hl
  · rintro ⟨x, hx, hl⟩
    have hk := (h.ent d x k v hx hl).1
    unfold listL
    have e : listE t d = 0 := by
      unfold listE
      have h1 := there_of (t := t) (is := [d]) (by simp [hx])
      have h2 := dirs_of (t := t) (is := [d]) (by simp; exact ⟨x, hx, hk⟩)
      rw [h1, h2]
      rfl
    rw [if_pos e, hx]
    exact hl
def pairsOf (es : Int → List E) (all : List Int) (v : Int) : List (Int × List UInt8) := all.flatMap fun d => ((es d).filter fun x => decide (x.2 = v)).map fun x => (d, nameL x)
def valsOf (es : Int → List E) (all : List Int) : List Int := all.flatMap fun d => (es d).map fun x => x.2
theorem filter_count (v : Int) : ∀ (L : List E), (L.filter fun x => decide (x.2 = v)).length = (L.map fun x => x.2).count v
  | [] => rfl
  | x :: L => by
    rw [List.map_cons, List.count_cons, ← filter_count v L]
    by_cases c : x.2 = v
    · simp [c]
    · simp [c]
theorem pairs_len (es : Int → List E) (v : Int) : ∀ (all : List Int), (pairsOf es all v).length = (valsOf es all).count v
  | [] => rfl
  | d :: all => by
    have := pairs_len es v all
    unfold pairsOf valsOf at *
    rw [List.flatMap_cons, List.flatMap_cons, List.length_append, List.count_append, this, List.length_map, filter_count]
theorem pairs_mem (h : WellP t) {all : List Int} (hm : ∀ i, i ∈ all ↔ (t.n i).isSome = true) (hE : ∀ d ∈ all, EntsOf (listL t d) (entsOf t d)) (v : Int) (p : Int × List UInt8) :
    p ∈ pairsOf (entsOf t) all v ↔ Ent t p.1 p.2 v := by
  unfold pairsOf
  rw [List.mem_flatMap]
  constructor
  · rintro ⟨d, hd, hp⟩
    obtain ⟨x, hx, rfl⟩ := List.mem_map.1 hp
    obtain ⟨hx1, hx2⟩ := List.mem_filter.1 hx
    have hv : x.2 = v := by simpa using hx2
    exact (listL_ent h _ _ _).1 (((hE d hd).mem (nameL x) v).1 ⟨x, hx1, rfl, hv⟩)
  · intro he
    have hd : p.1 ∈ all := by
      obtain ⟨x, hx, _⟩ := he
      rw [hm, hx]; rfl
    obtain ⟨x, hx, e1, e2⟩ := ((hE p.1 hd).mem p.2 v).2 ((listL_ent h _ _ _).2 he)
    exact ⟨p.1, hd, List.mem_map.2 ⟨x, List.mem_filter.2 ⟨hx, by simpa using e2⟩, by rw [e1]⟩⟩
theorem pairs_nodup {all : List Int} (v : Int) (es : Int → List E) (hs : all.Pairwise (· < ·)) (hE : ∀ d ∈ all, (es d).Pairwise fun a b => nameL a < nameL b) : (pairsOf es all v).Nodup := by
  induction all with
  | nil => exact List.nodup_nil
  | cons d all ih =>
    rw [List.pairwise_cons] at hs
    unfold pairsOf at ih ⊢
    rw [List.flatMap_cons, List.nodup_append]
    refine ⟨?_, ih hs.2 (fun i hi => hE i (List.mem_cons_of_mem _ hi)), ?_⟩
    · have h1 := (hE d (by simp)).filter (fun x => decide (x.2 = v))
      rw [List.nodup_iff_pairwise_ne, List.pairwise_map]
      refine h1.imp ?_
      intro a b hab e
      injection e with _ e
      rw [e] at hab
      exact List.lt_irrefl _ hab
    · intro a ha b hb e
      obtain ⟨x, _, rfl⟩ := List.mem_map.1 ha
      obtain ⟨d2, hd2, hb⟩ := List.mem_flatMap.1 hb
      obtain ⟨y, _, rfl⟩ := List.mem_map.1 hb
      injection e with e _
      have := hs.1 d2 hd2
      omega
theorem nodup_len {α : Type} [DecidableEq α] {L M : List α} (h1 : L.Nodup) (h2 : M.Nodup) (h : ∀ x, x ∈ L ↔ x ∈ M) : L.length = M.length :=
  ((List.perm_ext_iff_of_nodup h1 h2).2 h).length_eq
section
variable {all : List Int}
/-- A file is named as often as it has links. -/
theorem count_file (h : WellP t) (hs : all.Pairwise (· < ·)) (hm : ∀ i, i ∈ all ↔ (t.n i).isSome = true) (hE : ∀ d ∈ all, EntsOf (listL t d) (entsOf t d)) {v : Int} {x : PN} (hx : t.n v = some x) (hk : x.kind = 1) :
    (((valsOf (entsOf t) all).count v : Nat) : Int) = x.links := by
  obtain ⟨L, n1, n2, n3⟩ := h.links v x hx hk
  rw [← pairs_len, ← n3]
  congr 1
  exact nodup_len (pairs_nodup v _ hs fun d hd => (hE d hd).sorted) n1 fun p => (pairs_mem h hm hE v p).trans (n2 p).symm
theorem count_dir (h : WellP t) (hs : all.Pairwise (· < ·)) (hm : ∀ i, i ∈ all ↔ (t.n i).isSome = true) (hE : ∀ d ∈ all, EntsOf (listL t d) (entsOf t d)) {v : Int} {x : PN} (hx : t.n v = some x) (hk : x.kind = 2) :
    (valsOf (entsOf t) all).count v ≤ 1 ∧ (v ≠ 1 → 1 ≤ (valsOf (entsOf t) all).count v) := by
  have hn := pairs_nodup v (entsOf t) hs fun d hd => (hE d hd).sorted
  have hmem := pairs_mem h hm hE v
  rw [← pairs_len]
  constructor
  · cases hl : pairsOf (entsOf t) all v with
    | nil => simp
    | cons p l =>
      cases l with
      | nil => simp
      | cons q l =>
        exfalso
        rw [hl] at hn
        have hp := (hmem p).1 (by rw [hl]; simp)
        have hq := (hmem q).1 (by rw [hl]; simp)
        have hpu : x.up = p.1 := by
          obtain ⟨z, hz, hzl⟩ := hp
          obtain ⟨_, _, _, y, hy, hyu⟩ := h.ent p.1 z _ v hz hzl
          rw [hx] at hy
          cases hy
          exact hyu hk
        have hqu : x.up = q.1 := by
          obtain ⟨z, hz, hzl⟩ := hq
          obtain ⟨_, _, _, y, hy, hyu⟩ := h.ent q.1 z _ v hz hzl
          rw [hx] at hy
          cases hy
          exact hyu hk
        have e1 : p.1 = q.1 := hpu.symm.trans hqu
        have e2 : p.2 = q.2 := h.one p.1 p.2 q.2 v x hp (by rw [e1]; exact hq) hx hk
        have : p = q := Prod.ext e1 e2
        simp [this] at hn
  · intro hv
    obtain ⟨k, hk2⟩ := h.up v x hx hk hv
    exact List.length_pos_of_mem ((hmem (x.up, k)).2 hk2)
end
end Go.Proofs.YtpcjbfhgmcioaaaGreat

/- The program's tree, plain: the way down from the root meets each directory once. -/
namespace Go.Proofs.YtpcjbfhgmcioaaaGreat
open Go.RowKit Go.Maps

variable {t : PT}
def isDirB (t : PT) (v : Int) : Bool := match t.n v with | some x => x.kind == 2 | none => false
theorem isDirB_iff {v : Int} : isDirB t v = true ↔ ∃ x, t.n v = some x ∧ x.kind = 2 := by
  unfold isDirB
  cases hx : t.n v with
  | none => simp
  | some x => simp
def kidsOf (t : PT) (L : List E) : List Int := (L.map fun x => x.2).filter (isDirB t)
theorem kids_snoc (L : List E) (x : E) : kidsOf t (L ++ [x]) = kidsOf t L ++ (if isDirB t x.2 = true then [x.2] else []) := by
  unfold kidsOf
  rw [List.map_append, List.filter_append]
  congr 1
  by_cases h : isDirB t x.2 = true
  · simp [h]
  · simp [h]
/-- How far the way has come. -/
structure Way (t : PT) (i : Nat) (way : List Int) : Prop where
  nodup : way.Nodup
  dir : ∀ v ∈ way, isDirB t v = true
  root : 1 ∈ way
  up : ∀ v ∈ way, v ≠ 1 → ∃ j x, j < i ∧ t.n v = some x ∧ way[j]? = some x.up
  down : ∀ j d, j < i → way[j]? = some d → ∀ v ∈ kidsOf t (entsOf t d), v ∈ way
theorem Way.start (h : WellP t) : Way t 0 [1] := by
  obtain ⟨x, hx, hk, _⟩ := h.root
  exact ⟨by simp, by simp; exact isDirB_iff.2 ⟨x, hx, hk⟩, by simp, fun v hv h1 => absurd (by simpa using hv) h1, fun j d hj => absurd hj (by omega)⟩
theorem kids_mem (h : WellP t) {d v : Int} (hE : EntsOf (listL t d) (entsOf t d)) (hv : v ∈ kidsOf t (entsOf t d)) : ∃ x k, t.n v = some x ∧ x.kind = 2 ∧ x.up = d ∧ v ≠ 1 ∧ Ent t d k v := by
  obtain ⟨h1, h2⟩ := List.mem_filter.1 hv
  obtain ⟨e, he, rfl⟩ := List.mem_map.1 h1
  obtain ⟨x, hx, hk⟩ := isDirB_iff.1 h2
  have hent := (listL_ent h _ _ _).1 ((hE.mem (nameL e) e.2).1 ⟨e, he, rfl, rfl⟩)
  obtain ⟨z, hz, hl⟩ := hent
  obtain ⟨_, n1, _, y, hy, hyu⟩ := h.ent d z _ _ hz hl
  rw [hx] at hy
  cases hy
  exact ⟨x, nameL e, hx, hk, hyu hk, n1, z, hz, hl⟩
theorem kids_nodup (h : WellP t) {d : Int} (hE : EntsOf (listL t d) (entsOf t d)) : (kidsOf t (entsOf t d)).Nodup := by
  unfold kidsOf
  rw [List.nodup_iff_pairwise_ne, List.filter_map, List.pairwise_map]
  have h1 : ((entsOf t d).filter (isDirB t ∘ fun x => x.2)).Pairwise fun a b => nameL a < nameL b := hE.sorted.filter _
  rw [List.pairwise_iff_getElem] at h1 ⊢
  intro i j hi hj hij e
  have hlt := h1 i j hi hj hij
  have mi := List.mem_filter.1 (List.getElem_mem hi)
  have mj := List.mem_filter.1 (List.getElem_mem hj)
  have ei := (listL_ent h _ _ _).1 ((hE.mem _ _).1 ⟨_, mi.1, rfl, rfl⟩)
  have ej := (listL_ent h _ _ _).1 ((hE.mem _ _).1 ⟨_, mj.1, rfl, rfl⟩)
  obtain ⟨x, hx, hk⟩ := isDirB_iff.1 mi.2
  rw [← e] at ej
  have := h.one d _ _ _ x ei ej hx hk
  rw [this] at hlt
  exact List.lt_irrefl _ hlt
theorem Way.step (h : WellP t) {i : Nat} {way : List Int} {d : Int} (hw : Way t i way) (hd : way[i]? = some d) (hE : EntsOf (listL t d) (entsOf t d)) : Way t (i + 1) (way ++ kidsOf t (entsOf t d)) := by
  have hil : i < way.length := (List.getElem?_eq_some_iff.1 hd).1
  have get : ∀ (j : Nat) (a : Int), way[j]? = some a → (way ++ kidsOf t (entsOf t d))[j]? = some a := fun j a ha => by
    rw [List.getElem?_append_left (List.getElem?_eq_some_iff.1 ha).1]; exact ha
  refine ⟨?_, fun v hv => ?_, List.mem_append_left _ hw.root, fun v hv h1 => ?_, fun j e hj he v hv => ?_⟩
  · rw [List.nodup_append]
    refine ⟨hw.nodup, kids_nodup h hE, fun a ha b hb e => ?_⟩
    subst e
    obtain ⟨x, k, hx, hk, hu, n1, _⟩ := kids_mem h hE hb
    obtain ⟨j, y, hj, hy, hyj⟩ := hw.up a ha n1
    rw [hx] at hy
    cases hy
    rw [hu] at hyj
    have hjl := (List.getElem?_eq_some_iff.1 hyj).1
    have e1 := (List.getElem?_eq_some_iff.1 hyj).2
    have e2 := (List.getElem?_eq_some_iff.1 hd).2
    have := (List.getElem_inj hw.nodup).1 (e1.trans e2.symm)
    omega
  · rcases List.mem_append.1 hv with hv | hv
    · exact hw.dir v hv
    · exact (List.mem_filter.1 hv).2
  · rcases List.mem_append.1 hv with hv | hv
    · obtain ⟨j, x, hj, hx, hjx⟩ := hw.up v hv h1
      exact ⟨j, x, by omega, hx, get j _ hjx⟩
    · obtain ⟨x, k, hx, hk, hu, n1, _⟩ := kids_mem h hE hv
      exact ⟨i, x, by omega, hx, by rw [hu]; exact get i _ hd⟩
  · by_cases c : j = i
    · subst c
      rw [get j d hd] at he
      cases he
      exact List.mem_append_right _ hv
    · have hjl : j < way.length := by omega
      rw [List.getElem?_append_left hjl] at he
      exact List.mem_append_left _ (hw.down j e (by omega) he v hv)
theorem nodup_sub : ∀ {l m : List Int}, l.Nodup → (∀ x ∈ l, x ∈ m) → l.length ≤ m.length
  | [], _, _, _ => Nat.zero_le _
  | a :: l, m, h, hm => by
    rw [List.nodup_cons] at h
    have ha := hm a (by simp)
    have := nodup_sub (l := l) (m := m.erase a) h.2 (fun x hx => (List.mem_erase_of_ne (fun e : x = a => h.1 (by rw [← e]; exact hx))).2 (hm x (List.mem_cons_of_mem _ hx)))
    have e := List.length_erase_of_mem ha
    have := List.length_pos_of_mem ha
    rw [List.length_cons]
    omega
theorem Way.most {i : Nat} {way all : List Int} (hw : Way t i way) (hm : ∀ i, i ∈ all ↔ (t.n i).isSome = true) : way.length ≤ all.length :=
  nodup_sub hw.nodup fun v hv => by
    obtain ⟨x, hx, _⟩ := isDirB_iff.1 (hw.dir v hv)
    rw [hm, hx]; rfl
/-- At its end it has met all directories. -/
theorem Way.done (h : WellP t) {way all : List Int} (hw : Way t way.length way) (hs : all.Pairwise (· < ·)) (hm : ∀ i, i ∈ all ↔ (t.n i).isSome = true) (hE : ∀ d ∈ way, EntsOf (listL t d) (entsOf t d)) :
    way.length = (all.filter (isDirB t)).length := by
  obtain ⟨r, hr⟩ := h.rank
  have key : ∀ (n : Nat) (v : Int) (x : PN), r v < n → t.n v = some x → x.kind = 2 → v ∈ way := by
    intro n
    induction n with
    | zero => intro v x hn; omega
    | succ n ih =>
      intro v x hn hx hk
      by_cases h1 : v = 1
      · rw [h1]; exact hw.root
      · obtain ⟨k, hent⟩ := h.up v x hx hk h1
        have hent' := hent
        obtain ⟨z, hz, hl⟩ := hent
        have hzk := (h.ent _ _ _ _ hz hl).1
        have hup : x.up ≠ 0 := fun e => by
          rw [e] at hz
          have := (h.range 0 z hz).1
          omega
        have hlt := hr v x hx hk hup
        have hin := ih x.up z (by omega) hz hzk
        obtain ⟨j, hj⟩ := List.getElem?_of_mem hin
        have hjl := (List.getElem?_eq_some_iff.1 hj).1
        refine hw.down j x.up hjl hj v (List.mem_filter.2 ⟨?_, isDirB_iff.2 ⟨x, hx, hk⟩⟩)
        obtain ⟨e, he, _, e2⟩ := ((hE x.up hin).mem k v).2 ((listL_ent h _ _ _).2 hent')
        exact List.mem_map.2 ⟨e, he, e2⟩
  refine nodup_len hw.nodup ((hs.imp (fun h => by omega)).filter _) fun v => ?_
  rw [List.mem_filter, hm]
  constructor
  · intro hv
    have hd := hw.dir v hv
    obtain ⟨x, hx, _⟩ := isDirB_iff.1 hd
    exact ⟨by rw [hx]; rfl, hd⟩
  · rintro ⟨_, hd⟩
    obtain ⟨x, hx, hk⟩ := isDirB_iff.1 hd
    exact key _ v x (Nat.lt_succ_self _) hx hk
end Go.Proofs.YtpcjbfhgmcioaaaGreat
