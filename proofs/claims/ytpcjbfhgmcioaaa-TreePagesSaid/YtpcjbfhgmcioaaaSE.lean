/- TreePages, plain: the file's pages beside a row of bytes; and what each call does to both. -/
import Derived.Test.YtpcjbfhgmcioaaaSD
namespace Go.Proofs.Ytpcjbfhgmcioaaa
open Go.RowKit Go.Maps

/-- The file's bytes are h, its size is s. -/
structure Inv (x : PN) (h : Nat → UInt8) (s : Nat) : Prop where
  ok : PagesOk x
  kind : x.kind = 1
  links : x.links = 1
  size : x.size = (s : Int)
  le : s ≤ 2304
  byte : ∀ p j : Nat, p < 36 → j < 64 → ((x.pages (p : Int)).getD z64)[j]? = some (h (p * 64 + j))
  zero : ∀ q, s ≤ q → h q = 0
theorem Inv.len {x : PN} {h : Nat → UInt8} {s : Nat} (i : Inv x h s) (p : Int) : ((x.pages p).getD z64).length = 64 := by
  cases hb : x.pages p with
  | none => rfl
  | some b => exact (i.ok.len p b hb).1
def cutF (n : Nat) (h : Nat → UInt8) : Nat → UInt8 := fun q => if q < n then h q else 0
theorem Inv.start (x : PN) (hk : x.kind = 1) (hl : x.links = 1) (hs : x.size = 0) (hp : x.pages = fun _ => none) : Inv x (fun _ => 0) 0 := by
  refine ⟨⟨fun p b h => ?_, by rw [hs]; decide⟩, hk, hl, hs, by omega, fun p j _ hj => ?_, fun _ _ => rfl⟩
  · rw [hp] at h; cases h
  · rw [hp]
    show z64[j]? = _
    unfold z64
    rw [List.getElem?_replicate, if_pos hj]
theorem Inv.read {x : PN} {h : Nat → UInt8} {s : Nat} (i : Inv x h s) (p m : Nat) (hp : p < 36) (hm : min 64 (s - p * 64) = m) : readL x p = (List.range m).map fun j => h (p * 64 + j) := by
  unfold readL
  rw [i.size, show (max 0 (min 64 ((s : Int) - (p : Int) * 64))).toNat = m by omega]
  apply List.ext_getElem?
  intro j
  by_cases hj : j < m
  · rw [List.getElem?_take, if_pos hj, i.byte p j hp (by omega), List.getElem?_map, List.getElem?_range hj]
    rfl
  · rw [List.getElem?_eq_none (by rw [List.length_take]; omega), List.getElem?_eq_none (by rw [List.length_map, List.length_range]; omega)]
theorem Inv.cut {x : PN} {h : Nat → UInt8} {s : Nat} (i : Inv x h s) (n : Nat) (hn : n ≤ 2304) : Inv { x with pages := cutP n x.pages, size := n } (cutF n h) n := by
  refine ⟨⟨fun p b hb => ?_, ⟨by show (0 : Int) ≤ (n : Int); omega, by show (n : Int) ≤ 2304; omega⟩⟩, i.kind, i.links, rfl, hn, fun p j hp hj => ?_, fun q hq => ?_⟩
  · have hb' : cutP n x.pages p = some b := hb
    unfold cutP at hb'
    cases hx : x.pages p with
    | none => rw [hx] at hb'; cases hb'
    | some c =>
      rw [hx] at hb'
      have hk := i.ok.len p c hx
      simp only at hb'
      split at hb'
      · cases hb'
      · split at hb'
        · cases hb'
          exact ⟨cutB_length hk.1 (by omega), hk.2⟩
        · cases hb'
          exact hk
  · show ((cutP n x.pages p).getD z64)[j]? = some (cutF n h (p * 64 + j))
    have hby := i.byte p j hp hj
    unfold cutP cutF
    cases hx : x.pages p with
    | none =>
      rw [hx] at hby
      have h0 : h (p * 64 + j) = 0 := by
        have : z64[j]? = some 0 := by unfold z64; rw [List.getElem?_replicate, if_pos hj]
        have e : z64[j]? = some (h (p * 64 + j)) := hby
        rw [this] at e
        injection e with e
        exact e.symm
      show z64[j]? = _
      unfold z64
      rw [List.getElem?_replicate, if_pos hj, h0]
      split <;> rfl
    | some c =>
      rw [hx] at hby
      have hby' : c[j]? = some (h (p * 64 + j)) := hby
      simp only
      split
      · rename_i h1
        rw [if_neg (by omega)]
        show z64[j]? = _
        unfold z64
        rw [List.getElem?_replicate, if_pos hj]
      · split
        · rename_i h1 h2
          show (cutB _ c)[j]? = _
          have hk := (i.ok.len p c hx).1
          unfold cutB
          by_cases hj2 : j < ((n : Int) - (p : Int) * 64).toNat
          · rw [List.getElem?_append_left (by rw [List.length_take]; omega), List.getElem?_take, if_pos hj2, hby', if_pos (by omega)]
          · rw [List.getElem?_append_right (by rw [List.length_take]; omega), List.length_take, List.getElem?_replicate, if_pos (by omega), if_neg (by omega)]
        · rename_i h1 h2
          rw [if_pos (by omega)]
          exact hby'
  · unfold cutF
    rw [if_neg (by omega)]
theorem Inv.put {x : PN} {h : Nat → UInt8} {s : Nat} (i : Inv x h s) (p : Nat) (hp : p < 36) (d : List UInt8) (hd : d.length ≤ 64) (n : Nat) (hn : d.length = n) :
    Inv { x with pages := updP x.pages p (over d ((x.pages p).getD z64)), size := max x.size (p * 64 + n) } (putF h (p * 64) d) (max s (p * 64 + n)) := by
  have hsz := i.size
  have hle := i.le
  subst hn
  refine ⟨⟨fun q b hb => ?_, ?_⟩, i.kind, i.links, ?_, by omega, fun q j hq hj => ?_, fun q hq => ?_⟩
  · have hb' : (if q = (p : Int) then some (over d ((x.pages p).getD z64)) else x.pages q) = some b := hb
    split at hb'
    · cases hb'
      rename_i hqp
      exact ⟨by rw [over_length (by rw [i.len]; omega), i.len], by omega, by omega⟩
    · exact i.ok.len q b hb'
  · refine ⟨?_, ?_⟩
    · show (0 : Int) ≤ max x.size _
      omega
    · show max x.size ((p : Int) * 64 + (d.length : Int)) ≤ 2304
      omega
  · show max x.size ((p : Int) * 64 + (d.length : Int)) = _
    rw [hsz]
    omega
  · show ((updP x.pages p (over d ((x.pages p).getD z64)) (q : Int)).getD z64)[j]? = some (putF h (p * 64) d (q * 64 + j))
    unfold updP putF
    by_cases e : q = p
    · subst e
      rw [if_pos rfl]
      show (over d _)[j]? = _
      unfold over
      by_cases hj2 : j < d.length
      · rw [List.getElem?_append_left hj2, if_pos (by omega), show q * 64 + j - q * 64 = j by omega, List.getD_eq_getElem?_getD, List.getElem?_eq_getElem hj2]
        rfl
      · rw [List.getElem?_append_right (by omega), List.getElem?_drop, if_neg (by omega), show d.length + (j - d.length) = j by omega]
        exact i.byte q j hq hj
    · rw [if_neg (by omega), if_neg (by omega)]
      exact i.byte q j hq hj
  · unfold putF
    rw [if_neg (by omega)]
    exact i.zero q (by omega)

/-- The tree, and beside it the row. -/
def Pg (w : World) (P B k s : Nat) (h g : Nat → UInt8) (W : World) : Prop :=
  ∃ N y F t x, N ≤ k + 3 ∧ TreeM W F P N y t ∧ Below w.heap.size w W ∧ (∀ b, F b → w.heap.size ≤ b) ∧ ¬ F B ∧ w.heap.size ≤ B ∧ RowB W B g ∧ t.n 2 = some x ∧ Inv x h s
variable {w W W' : World} {P B k s : Nat} {h g : Nat → UInt8}
theorem Pg.out (H : Pg w P B k s h g W) : RowB W B g ∧ Below w.heap.size w W ∧ s ≤ 2304 := by
  obtain ⟨N, y, F, t, x, hN, hT, hB, hF, hn, hb, hr, hx, hi⟩ := H
  exact ⟨hr, hB, hi.le⟩
theorem Pg.below (H : Pg w P B k s h g W) (hb : Below W.heap.size W W') : Pg w P B k s h g W' := by
  obtain ⟨N, y, F, t, x, hN, hT, hB, hF, hn, hb2, hr, hx, hi⟩ := H
  exact ⟨N, y, F, t, x, hN, hT.below hb, ptrans hB hb, hF, hn, hb2, hr.same (hb.block B hr.lt), hx, hi⟩
theorem Pg.next (H : Pg w P B k s h g W) : Pg w P B (k + 1) s h g W := by
  obtain ⟨N, y, F, t, x, hN, r⟩ := H
  exact ⟨N, y, F, t, x, by omega, r⟩
theorem Pg.put (H : Pg w P B k s h g W) (o : Nat) (d : List UInt8) (hd : o + d.length ≤ 2304) : Pg w P B k s h (putF g o d) (W.setCells B o (d.map byteV)) := by
  obtain ⟨N, y, F, t, x, hN, hT, hB, hF, hn, hb, hr, hx, hi⟩ := H
  have hg := grown_setCells B (d.map byteV) o W
  exact ⟨N, y, F, t, x, hN, hT.same (fun b hb => hg.block b (hT.lt b hb) (fun e => hn (by injection e with e; rw [← e]; exact hb))) hg.size, below_grown hB hg hb, hF, hn, hb, hr.put o d hd, hx, hi⟩
theorem Pg.turn {N : Nat} {y : Lay} {F : Nat → Prop} {t : PT} {x' : PN} {s' : Nat} {h' : Nat → UInt8} (hN : N ≤ k + 3) (hT : TreeM W' F P N y (t.set 2 x')) (hu : Turn W W' F F) (hB : Below w.heap.size w W) (hF : ∀ b, F b → w.heap.size ≤ b) (hn : ¬ F B) (hb : w.heap.size ≤ B) (hr : RowB W B g) (hi : Inv x' h' s') : Pg w P B k s' h' g W' :=
  ⟨N, y, F, _, x', hN, hT, hB.trans (hu.below hF hB.size), hF, hn, hb, hr.same (hu.block B hr.lt hn), by rw [PT.set_n, if_pos rfl], hi⟩
theorem pg_there {t : PT} {x : PN} (hx : t.n 2 = some x) : thereE t [2] = 0 := by simp [thereE, hx]
theorem pg_file {t : PT} {x : PN} (hx : t.n 2 = some x) (hk : x.kind = 1) : fileE' t 2 = 0 := by simp [fileE', hx, fileQE, hk]
theorem pg_resize (H : Pg w P B k s h g W) (n : Nat) (hn : n ≤ 2304) (hk : k < 1000) :
    Calls Try.prog 8 #[.pointer (some ⟨P, 0, none⟩), .int .u32 2, .int .u32 n] W fun e w' => e = .returned (.int .i64 0) ∧ Pg w P B k n (cutF n h) g w' := by
  obtain ⟨N, y, F, t, x, hN, hT, hB, hF, hnF, hb, hr, hx, hi⟩ := H
  have hE : resizeE t 2 n = 0 := by
    unfold resizeE
    rw [pg_there hx, pg_file hx hi.kind]
    have : sizedE n = 0 := by unfold sizedE; rw [if_neg (by omega)]
    rw [this]; rfl
  have hR : resizeP t 2 n = (0, t.set 2 { x with pages := cutP n x.pages, size := n }) := by
    unfold resizeP resizeT
    rw [if_pos hE, hx]
  refine (t_resizeP 2 n 0 _ hR W hT (by omega) u2 (by omega) (fun x' hx' => by rw [hx] at hx'; cases hx'; exact hi.ok)).mono ?_
  rintro e w' ⟨rfl, hT', hu⟩
  exact ⟨rfl, Pg.turn hN hT' hu hB hF hnF hb hr (hi.cut n hn)⟩
theorem pg_write (H : Pg w P B k s h g W) (p : Nat) (hp : p < 36) (d : ByteArray) (hd0 : 0 < d.size) (hd : d.size ≤ 64) (hk : k < 1000) :
    Calls Try.prog 9 #[.pointer (some ⟨P, 0, none⟩), .int .u32 2, .int .i64 p, .string d] W fun e w' => e = .returned (.int .i64 0) ∧ Pg w P B (k + 1) (max s (p * 64 + d.size)) (putF h (p * 64) d.data.toList) g w' := by
  obtain ⟨N, y, F, t, x, hN, hT, hB, hF, hnF, hb, hr, hx, hi⟩ := H
  have hE : writeE t 2 p d = 0 := by
    unfold writeE
    rw [pg_there hx, pg_file hx hi.kind]
    have h1 : pagedE p = 0 := by unfold pagedE; rw [if_neg (by omega)]
    have h2 : dataE d = 0 := by unfold dataE; rw [if_neg (by omega)]
    rw [h1, h2]; rfl
  have hR : writeP t 2 p d = (0, t.set 2 { x with pages := updP x.pages p (over d.data.toList ((x.pages p).getD z64)), size := max x.size (p * 64 + d.size) }) := by
    unfold writeP writeT
    rw [if_pos hE, hx]
  refine (t_writeP 2 p d 0 _ hR W hT (by omega) u2 (by unfold maxLen; omega) (fun x' hx' => by rw [hx] at hx'; cases hx'; exact hi.ok)).mono ?_
  rintro e w' ⟨rfl, hT', hu⟩
  have hdl : d.data.toList.length = d.size := by simp
  exact ⟨rfl, Pg.turn (by omega) hT' hu hB hF hnF hb hr (hi.put p hp d.data.toList (by omega) d.size hdl)⟩
theorem pg_stat (H : Pg w P B k s h g W) :
    Calls Try.prog 10 #[.pointer (some ⟨P, 0, none⟩), .int .u32 2] W fun e w' => e = .returned (.tuple #[.agg #[.int .u32 2, .int .u8 1, .int .i64 1, .int .u32 s], .int .i64 0]) ∧ Pg w P B k s h g w' := by
  have H0 := H
  obtain ⟨N, y, F, t, x, hN, hT, hB, hF, hnF, hb, hr, hx, hi⟩ := H
  refine (t_statP 2 W hT u2).mono ?_
  rintro e w' ⟨rfl, hB'⟩
  refine ⟨?_, H0.below hB'⟩
  unfold statR statP
  rw [hx]
  simp only [hi.kind, hi.links, hi.size]
theorem pg_read (H : Pg w P B k s h g W) (p m : Nat) (hp : p < 36) (hm : min 64 (s - p * 64) = m) :
    Calls Try.prog 11 #[.pointer (some ⟨P, 0, none⟩), .int .u32 2, .int .i64 p] W fun e w' => e = .returned (.tuple #[.string ⟨((List.range m).map fun j => h (p * 64 + j)).toArray⟩, .int .i64 0]) ∧ Pg w P B k s h g w' := by
  have H0 := H
  obtain ⟨N, y, F, t, x, hN, hT, hB, hF, hnF, hb, hr, hx, hi⟩ := H
  refine (t_readP 2 p W hT u2 (fun x' hx' => by rw [hx] at hx'; cases hx'; exact hi.ok)).mono ?_
  rintro e w' ⟨rfl, hB'⟩
  refine ⟨?_, H0.below hB'⟩
  have h1 : pagedE p = 0 := by unfold pagedE; rw [if_neg (by omega)]
  have hE : firstE [thereE t [2], fileE' t 2, pagedE p] = 0 := by
    rw [pg_there hx, pg_file hx hi.kind, h1]; rfl
  unfold readR
  rw [if_pos hE, hx]
  simp only
  rw [hi.read p m hp hm]
end Go.Proofs.Ytpcjbfhgmcioaaa
