/- The program's tree: a new inode; New. -/
import Derived.Test.YtehckjkihaalfaaGreatRM
namespace Go.Proofs.YtehckjkihaalfaaGreat
open Go.RowKit Go.Maps

/-- An inode as it is made. -/
def newN (kind : Int) : PN := ⟨kind, kind - 1, 0, fun _ => none, fun _ => none, 0, 0⟩
theorem entsM_none : ∀ kl, WideAt.IsKeyLit kl → (none : Option Value) = entsM (fun _ => none) kl := fun kl _ => by cases kl <;> rfl
theorem pagesM_none : ∀ kl, WideAt.IsKeyLit kl → (none : Option Value) = pagesM (fun _ => none) kl := fun kl _ => by
  cases kl with
  | int q a => cases q <;> rfl
  | _ => rfl
def NewPost (kind : Int) (w : World) (e : Ending) (w' : World) : Prop :=
  e = .returned (.pointer (some ⟨w.heap.size + 2, 0, none⟩)) ∧ NodeM w' (w.heap.size + 2) w.heap.size (w.heap.size + 1) 0 (newN kind) ∧ Below w.heap.size w w' ∧ w'.heap.size = w.heap.size + 3
theorem new_post (kind : Int) (w : World) : NewPost kind w (.returned (.pointer (some ⟨w.heap.size + 2, 0, none⟩)))
    (((w.alloc (.map #[] 0)).alloc (.map #[] 0)).alloc (.cells #[.int .u8 kind, .int .i64 (kind - 1), .int .u32 0, .map (some w.heap.size), .map (some (w.heap.size + 1)), .int .i64 0, .int .u32 0] 185)) := by
  have m1 := MapAt.made w Tryz.prog 9
  have m2 := MapAt.made (w.alloc (.map #[] 0)) Tryz.prog 3
  have e1 : (w.alloc (.map #[] 0)).heap.size = w.heap.size + 1 := by simp
  have e2 : ((w.alloc (.map #[] 0)).alloc (.map #[] 0)).heap.size = w.heap.size + 2 := by simp
  rw [e1] at m2
  have old : ∀ (w : World) (o : Obj) (b : Nat), b < w.heap.size → (w.alloc o).heap[b]? = w.heap[b]? := fun w o b hb => Below.heap_alloc w o b hb
  refine ⟨rfl, ⟨?_, ?_, ?_⟩, (((Below.refl _ _).alloc (Nat.le_refl _) _).alloc (by simp) _).alloc (by simp; omega) _, by simp⟩
  · have := heap_alloc_new ((w.alloc (.map #[] 0)).alloc (.map #[] 0)) (.cells #[.int .u8 kind, .int .i64 (kind - 1), .int .u32 0, .map (some w.heap.size), .map (some (w.heap.size + 1)), .int .i64 0, .int .u32 0] 185)
    rw [e2] at this
    exact this
  · exact (((m1.same (old _ _ _ m1.lt)).same (old _ _ _ (by rw [e2]; omega))).congr entsM_none)
  · exact ((m2.same (old _ _ _ m2.lt)).congr pagesM_none)
set_option maxHeartbeats 1000000 in
theorem t_freshN (kind : Int) (hk : kind = 1 ∨ kind = 2) (w : World) : Calls Tryz.prog 102 #[.int .u8 kind] w (NewPost kind w) := by
  have hmm := @run_makeMap Tryz.prog
  rcases hk with rfl | rfl
  · have HP := Lib.hid (new_post 1 w)
    go_enter Tryz.func102, Tryz.ntmps102
    go_wp2
    go_ret
    exact HP.out
  · have HP := Lib.hid (new_post 2 w)
    go_enter Tryz.func102, Tryz.ntmps102
    go_wp2
    go_ret
    exact HP.out

def Lay.add (y : Lay) (i : Int) (Q L G : Nat) : Lay :=
  { M := y.M, f := fun j => if j = i then Q else y.f j, L := fun j => if j = i then L else y.L j, G := fun j => if j = i then G else y.G j, own := fun b => if b = Q ∨ b = L ∨ b = G then i else y.own b }
def addF (F : Nat → Prop) (Q L G : Nat) : Nat → Prop := fun b => F b ∨ b = Q ∨ b = L ∨ b = G
/-- An inode more. -/
theorem TreeM.add {w w1 w2 : World} {F : Nat → Prop} {P N : Nat} {y : Lay} {t : PT} (h : TreeM w F P N y t) {i : Int} (hi : 1 ≤ i ∧ i ≤ 4294967295) {Q L G : Nat} {x : PN} (hb1 : Below w.heap.size w w1)
    (hn : NodeM w1 Q L G 0 x) (hQ : w.heap.size ≤ Q) (hL : w.heap.size ≤ L) (hG : w.heap.size ≤ G) (hLG : L ≠ G)
    (hM : MapAt w2 Tryz.prog 32 y.M (N + 1) (updM (nodesM t.n y.f) (.int .u32 i) (.pointer (some ⟨Q, 0, none⟩)))) (ht : w1.mapTurned w2 y.M) :
    TreeM w2 (addF F Q L G) P (N + 1) (y.add i Q L G) (t.set i x) ∧ Turn w w2 F (addF F Q L G) := by
  have hg := ht.grown
  have hs := hb1.size
  have hMlt := h.nodes.lt
  have hn1 : Q < w1.heap.size := hn.ltQ
  have hn2 : L < w1.heap.size := hn.ents.lt
  have hn3 : G < w1.heap.size := hn.pages.lt
  have keep : ∀ b, b < w1.heap.size → b ≠ y.M → w2.heap[b]? = w1.heap[b]? := fun b hb hne => hg.block b hb (fun e => hne (by injection e))
  have keep0 : ∀ b, F b → b ≠ y.M → w2.heap[b]? = w.heap[b]? := fun b hb hne => (keep b (Nat.lt_of_lt_of_le (h.lt b hb) hs) hne).trans (hb1.block b (h.lt b hb))
  have hPM : P ≠ y.M := fun e => by
    obtain ⟨es, c, h1⟩ := h.nodes.isMap
    rw [← e, h.head] at h1; cases h1
  have newb : ∀ b, F b → ¬ (b = Q ∨ b = L ∨ b = G) := fun b hb e => by
    have := h.lt b hb
    rcases e with e | e | e <;> omega
  refine ⟨{ head := (keep0 P h.fP hPM).trans h.head, nodes := ?_, node := ?_, pos := ?_, own := ?_, ownM := ?_, ownP := ?_, fP := .inl h.fP, fM := .inl h.fM, foot := ?_, lt := ?_ }, ?_⟩
  · refine hM.congr fun kl _ => ?_
    cases kl with
    | int q a =>
      cases q <;> try (unfold updM; simp [nodesM, Lit.sameKey]; done)
      show updM _ _ _ _ = ((t.set i x).n a).map _
      unfold updM PT.set Lay.add
      by_cases ha : a = i
      · subst ha; simp [Lit.sameKey]
      · simp [Lit.sameKey, ha, nodesM]
    | _ => unfold updM; simp [nodesM, Lit.sameKey]
  · intro j z hz
    rw [PT.set_n] at hz
    by_cases hj : j = i
    · subst hj
      rw [if_pos rfl] at hz; cases hz
      simp only [Lay.add, if_pos]
      exact (hn.mono (Nat.zero_le _)).same (keep _ hn1 (by omega)) (keep _ hn2 (by omega)) (keep _ hn3 (by omega))
    · rw [if_neg hj] at hz
      simp only [Lay.add, if_neg hj]
      obtain ⟨p1, p2, p3, _⟩ := h.own j z hz
      obtain ⟨f1, f2, f3⟩ := h.foot j z hz
      have hp := h.pos j z hz
      have ne : ∀ b, y.own b = j → b ≠ y.M := fun b hb e => by rw [e, h.ownM] at hb; omega
      exact ((h.node j z hz).mono (Nat.le_succ N)).same (keep0 _ f1 (ne _ p1)) (keep0 _ f2 (ne _ p2)) (keep0 _ f3 (ne _ p3))
  · intro j z hz
    rw [PT.set_n] at hz
    by_cases hj : j = i
    · rw [hj]; exact hi
    · rw [if_neg hj] at hz; exact h.pos j z hz
  · intro j z hz
    rw [PT.set_n] at hz
    by_cases hj : j = i
    · subst hj
      simp only [Lay.add, if_pos]
      exact ⟨by simp, by simp, by simp, hLG⟩
    · rw [if_neg hj] at hz
      obtain ⟨p1, p2, p3, p4⟩ := h.own j z hz
      obtain ⟨f1, f2, f3⟩ := h.foot j z hz
      simp only [Lay.add, if_neg hj]
      exact ⟨by rw [if_neg (newb _ f1)]; exact p1, by rw [if_neg (newb _ f2)]; exact p2, by rw [if_neg (newb _ f3)]; exact p3, p4⟩
  · simp only [Lay.add]; rw [if_neg (newb _ h.fM)]; exact h.ownM
  · simp only [Lay.add]; rw [if_neg (newb _ h.fP)]; exact h.ownP
  · intro j z hz
    rw [PT.set_n] at hz
    by_cases hj : j = i
    · subst hj
      simp only [Lay.add, if_pos]
      exact ⟨.inr (.inl rfl), .inr (.inr (.inl rfl)), .inr (.inr (.inr rfl))⟩
    · rw [if_neg hj] at hz
      obtain ⟨f1, f2, f3⟩ := h.foot j z hz
      simp only [Lay.add, if_neg hj]
      exact ⟨.inl f1, .inl f2, .inl f3⟩
  · intro b hb
    rcases hb with hb | hb | hb | hb
    · exact Nat.lt_of_lt_of_le (h.lt b hb) (Nat.le_trans hs hg.size)
    · exact Nat.lt_of_lt_of_le (by omega) hg.size
    · exact Nat.lt_of_lt_of_le (by omega) hg.size
    · exact Nat.lt_of_lt_of_le (by omega) hg.size
  · refine ⟨hg.os.trans hb1.os, hg.tape.trans hb1.tape, hg.output.trans hb1.output, Nat.le_trans hs hg.size, fun b hb hF => ?_, fun b hb => ?_⟩
    · exact (keep b (Nat.lt_of_lt_of_le hb hs) (fun e => hF (by rw [e]; exact h.fM))).trans (hb1.block b hb)
    · rcases hb with hb | hb | hb | hb
      · exact .inl hb
      · exact .inr (by omega)
      · exact .inr (by omega)
      · exact .inr (by omega)
/-- A new inode's blocks. -/
def isNew (B : Nat) (x : PN) : Ph := fun v W => ∃ Q L G, v = .pointer (some ⟨Q, 0, none⟩) ∧ NodeM W Q L G 0 x ∧ B ≤ Q ∧ B ≤ L ∧ B ≤ G ∧ L ≠ G
theorem stays_New (B : Nat) (x : PN) : StaysP (isNew B x) := fun _ _ _ ⟨Q, L, G, h1, h2, h3⟩ hb => ⟨Q, L, G, h1, h2.same (hb.block _ h2.ltQ) (hb.block _ h2.ents.lt) (hb.block _ h2.pages.lt), h3⟩
end Go.Proofs.YtehckjkihaalfaaGreat
