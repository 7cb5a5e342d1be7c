/- Trees as the document has them: links, what lies below. -/
import Derived.Test.YtnnidgjfjgkdpaaV
namespace Go.Proofs.Ytnnidgjfjgkdpaa
open Go.RowKit

def fileE (t : Tr) (ino : Int) : Int := if thereB t ino = false then 3 else if ((ndAt t ino).kind == 2) = true then 181 else 0
theorem fileE_zero {t : Tr} {ino : Int} (h : fileE t ino = 0) : thereB t ino = true ∧ (ndAt t ino).kind ≠ 2 := by
  unfold fileE at h
  by_cases h2 : thereB t ino = false
  · rw [if_pos h2] at h; omega
  · rw [if_neg h2] at h
    by_cases h3 : ((ndAt t ino).kind == 2) = true
    · rw [if_pos h3] at h; omega
    · exact ⟨by simpa using h2, by simpa using h3⟩
set_option maxHeartbeats 2000000 in
theorem t_file (P G : Nat) (t : Tr) (ino : Int) (r : Int) (hr : fileE t ino = r) (w : World) (h : TreeAt w P G t) (h0 : 0 ≤ ino) :
    Calls Try.prog 42 #[.pointer (some ⟨P, 0, none⟩), .int .u32 ino] w fun e w' => e = .returned (.int .i64 r) ∧ w = w' := by
  cases ht : thereB t ino with
  | false =>
    have HR : Hid (3 = r) := by show _ = _; rw [← hr]; unfold fileE; rw [if_pos ht]
    have HT := Lib.hid ht
    clear hr ht
    go_enter Try.func42, Try.ntmps42
    go_wp2_with (first | (go_at_call 40; refine (t_there P G t ino _ HT.out _ h h0).mono ?_; rintro e w' ⟨rfl, rfl⟩))
    go_ret
    exact ⟨ret_i64 HR.out, rfl⟩
  | true =>
    obtain ⟨b1, b2, _⟩ := thereB_bounds ht
    cases hk : ((ndAt t ino).kind == 2) with
    | true =>
      have HR : Hid (181 = r) := by show _ = _; rw [← hr]; unfold fileE; rw [if_neg (by rw [ht]; simp), if_pos hk]
      have HT := Lib.hid ht
      clear hr ht
      go_enter Try.func42, Try.ntmps42
      go_wp2_with (first | (go_at_call 40; refine (t_there P G t ino _ HT.out _ h h0).mono ?_; rintro e w' ⟨rfl, rfl⟩) | (go_at_call 43; refine (t_kind P G t ino _ h b1 b2).mono ?_; rintro e w' ⟨rfl, rfl⟩))
      go_ret
      exact ⟨ret_i64 HR.out, rfl⟩
    | false =>
      have HR : Hid (0 = r) := by show _ = _; rw [← hr]; unfold fileE; rw [if_neg (by rw [ht]; simp), if_neg (by rw [hk]; simp)]
      have HT := Lib.hid ht
      clear hr ht
      go_enter Try.func42, Try.ntmps42
      go_wp2_with (first | (go_at_call 40; refine (t_there P G t ino _ HT.out _ h h0).mono ?_; rintro e w' ⟨rfl, rfl⟩) | (go_at_call 43; refine (t_kind P G t ino _ h b1 b2).mono ?_; rintro e w' ⟨rfl, rfl⟩))
      go_ret
      exact ⟨ret_i64 HR.out, rfl⟩

/-- Rows of entries are not long. -/
def Small (t : Tr) : Prop := ∀ x ∈ t, x.l.length ≤ 100000
theorem Small.nd {t : Tr} (h : Small t) {k : Nat} (hk : k < t.length) : (nd t k).l.length ≤ 100000 := h _ (List.mem_of_getElem? (nd_get hk))
def linksTo (t : Tr) (ino : Int) (k : Nat) : Nat := linksN (t.take k) ino
theorem linksTo_succ {t : Tr} {ino : Int} {k : Nat} (hk : k < t.length) : linksTo t ino (k + 1) = linksTo t ino k + (nd t k).l.countP (fun e => e.ino == ino) := by
  unfold linksTo linksN
  rw [List.take_add_one, nd_get hk]; simp
theorem linksTo_le {t : Tr} {ino : Int} (h : Small t) : ∀ k, k ≤ t.length → linksTo t ino k ≤ k * 100000
  | 0, _ => by simp [linksTo, linksN]
  | k + 1, hk => by
    rw [linksTo_succ (by omega)]
    have h1 := linksTo_le (ino := ino) h k (by omega)
    have h2 : (nd t k).l.countP (fun e => e.ino == ino) ≤ (nd t k).l.length := List.countP_le_length
    have h3 := h.nd (k := k) (by omega)
    omega
theorem countP_take_succ {α : Type} {l : List α} {j : Nat} {x : α} (p : α → Bool) (hx : l[j]? = some x) : (l.take (j + 1)).countP p = (l.take j).countP p + if p x then 1 else 0 := by
  rw [List.take_add_one, hx, List.countP_append]; simp [List.countP_cons]
def linksV (t : Tr) (ino : Int) : Int := if ((ndAt t ino).kind == 2) = true then 1 else (linksN t ino : Nat)
set_option maxHeartbeats 4000000 in
theorem t_links (P G : Nat) (t : Tr) (ino : Int) (r : Int) (hr : linksV t ino = r) (w : World) (h : TreeAt w P G t) (h1 : 1 ≤ ino) (h2 : ino ≤ t.length) (hsm : Small t) :
    Calls Try.prog 44 #[.pointer (some ⟨P, 0, none⟩), .int .u32 ino] w fun e w' => e = .returned (.int .i64 r) ∧ w = w' := by
  have hs := h.small
  obtain ⟨c, hc1, hc2, hc⟩ := h.cell0
  unfold maxLen at hc2
  cases hk : ((ndAt t ino).kind == 2) with
  | true =>
    have HR : Hid (1 = r) := by show _ = _; rw [← hr]; unfold linksV; rw [if_pos hk]
    clear hr
    go_enter Try.func44, Try.ntmps44
    go_wp2_with (first | (go_at_call 43; refine (t_kind P G t ino _ h h1 h2).mono ?_; rintro e w' ⟨rfl, rfl⟩))
    go_ret
    exact ⟨ret_i64 HR.out, rfl⟩
  | false =>
    have HR : Hid (((linksTo t ino t.length : Nat) : Int) = r) := by show _ = _; rw [← hr]; unfold linksV linksTo; rw [if_neg (by rw [hk]; simp), List.take_length]
    have HS := Lib.hid hsm
    clear hr hsm
    go_enter Try.func44, Try.ntmps44
    go_wp2_with (first | (go_at_call 43; refine (t_kind P G t ino _ h h1 h2).mono ?_; rintro e w' ⟨rfl, rfl⟩))
    go_loop [5, 6] (fun n i => ∃ k : Nat, k ≤ t.length ∧ i = .int .i64 k ∧ n = .int .i64 (linksTo t ino k : Nat)) (fun _ i => t.length + 1 - (intOf i).toNat)
    case atStart => exact ⟨0, Nat.zero_le _, rfl, rfl⟩
    case round =>
      obtain ⟨k, hk, rfl, rfl⟩ := hrel
      by_cases hkn : k < t.length
      · obtain ⟨_, ⟨v, g1, hv⟩, _⟩ := h.get hkn
        obtain ⟨A, c', rfl, hcl, hcm, hread⟩ := hv.get
        have hlt := linksTo_le (ino := ino) HS.out k hk
        have hls := HS.out.nd hkn
        have HSu := Lib.hid (linksTo_succ (ino := ino) hkn)
        obtain ⟨l, hl⟩ : ∃ l, (nd t k).l = l := ⟨_, rfl⟩
        have HL := Lib.hid hl
        rw [hl] at g1 hcl hread hls
        have HR2 := Lib.hid hread
        clear hread hv hl
        unfold maxLen at hcm
        go_wp2
        go_loop [5, 7] (fun n i => ∃ j : Nat, j ≤ l.length ∧ i = .int .i64 j ∧ n = .int .i64 ((linksTo t ino k + (l.take j).countP (fun e => e.ino == ino) : Nat) : Int)) (fun _ i => l.length + 1 - (intOf i).toNat)
        case atStart => exact ⟨0, Nat.zero_le _, rfl, by simp⟩
        case round =>
          obtain ⟨j, hj, rfl, rfl⟩ := hrel
          have hcj : (l.take j).countP (fun e => e.ino == ino) ≤ j := Nat.le_trans List.countP_le_length (List.length_take_le _ _)
          by_cases hjn : j < l.length
          · obtain ⟨bb, rfl, e1, e2⟩ := HR2.out j _ (List.getElem?_eq_getElem hjn)
            have hsj := countP_take_succ (fun e : Ent => e.ino == ino) (List.getElem?_eq_getElem hjn)
            obtain ⟨q, hq⟩ : ∃ q, (l.take j).countP (fun e => e.ino == ino) = q := ⟨_, rfl⟩
            rw [hq] at hsj hcj ⊢
            cases hn : (l[j].ino == ino) with
            | true =>
              rw [hn] at hsj
              have HJ := Lib.hid hsj
              clear hsj hq
              go_wp2
              go_round
              case rel => exact ⟨j + 1, by omega, by go_num, by rw [HJ.out]; simp; go_num⟩
              case measure => simp [intOf]; omega
            | false =>
              rw [hn] at hsj
              have HJ := Lib.hid hsj
              clear hsj hq
              go_wp2
              go_round
              case rel => exact ⟨j + 1, by omega, by go_num, by rw [HJ.out]; simp⟩
              case measure => simp [intOf]; omega
          · have HF : Hid (linksTo t ino (k + 1) = linksTo t ino k + (l.take j).countP (fun e => e.ino == ino)) := by
              show _ = _
              rw [HSu.out, HL.out, List.take_of_length_le (by omega)]
            obtain ⟨q, hq⟩ : ∃ q, (l.take j).countP (fun e => e.ino == ino) = q := ⟨_, rfl⟩
            rw [hq] at HF hcj ⊢
            clear hq
            go_wp2
            go_round
            case rel => exact ⟨k + 1, by omega, by go_num, by rw [HF.out]⟩
            case measure => simp [intOf]; omega
      · have HF : Hid (((linksTo t ino k : Nat) : Int) = r) := by show _ = _; rw [← HR.out, show k = t.length by omega]
        go_wp2
        go_ret
        exact ⟨ret_i64 HF.out, rfl⟩

/-- A directory's entry is a directory. -/
def Child (t : Tr) (c p : Int) : Prop := ∃ e ∈ (ndAt t p).l, e.ino = c ∧ (ndAt t c).kind = 2
/-- A directory is another one, or lies below it. -/
inductive Under (t : Tr) (d : Int) : Int → Prop
  | here : Under t d d
  | step {c p : Int} : Child t c p → Under t d c → Under t d p
/-- Entries are of inodes that may be. -/
def GoodE (t : Tr) : Prop := ∀ x ∈ t, ∀ e ∈ x.l, 1 ≤ e.ino ∧ e.ino ≤ t.length
def NoneUnder (t : Tr) (d : Int) (l : List Ent) (j : Nat) : Prop := ∀ i e, i < j → l[i]? = some e → ¬ ((ndAt t e.ino).kind = 2 ∧ Under t d e.ino)
theorem NoneUnder.zero (t : Tr) (d : Int) (l : List Ent) : NoneUnder t d l 0 := fun i e h _ => absurd h (by omega)
theorem NoneUnder.succ {t : Tr} {d : Int} {l : List Ent} {j : Nat} {e : Ent} (h : NoneUnder t d l j) (he : l[j]? = some e) (hn : ¬ ((ndAt t e.ino).kind = 2 ∧ Under t d e.ino)) : NoneUnder t d l (j + 1) := fun i x hi hx => by
  by_cases hij : i = j
  · subst hij; rw [he] at hx; cases hx; exact hn
  · exact h i x (by omega) hx
theorem NoneUnder.not {t : Tr} {d p : Int} (hne : d ≠ p) (h : NoneUnder t d (ndAt t p).l (ndAt t p).l.length) : ¬ Under t d p := by
  intro hu
  cases hu with
  | here => exact hne rfl
  | step hc hu =>
    obtain ⟨e, he, hec, hk⟩ := hc
    obtain ⟨i, hi, rfl⟩ := List.getElem_of_mem he
    subst hec
    exact h i _ hi (List.getElem?_eq_getElem hi) ⟨hk, hu⟩
set_option maxHeartbeats 4000000 in
theorem t_below (P G : Nat) (t : Tr) (d : Int) (w : World) (h : TreeAt w P G t) (hg : GoodE t) : ∀ (top : Int), Acc (Child t) top → ∀ (b : Bool), (b = true ↔ Under t d top) → 1 ≤ top → top ≤ t.length →
    Calls Try.prog 54 #[.pointer (some ⟨P, 0, none⟩), .int .u32 d, .int .u32 top] w fun e w' => e = .returned (.bool b) ∧ w = w' := by
  intro top hacc
  induction hacc with
  | intro top _ ih =>
    intro b hb h1 h2
    have hs := h.small
    obtain ⟨c, hc1, hc2, hc⟩ := h.cell0
    obtain ⟨_, ⟨v, g1, hv⟩, _⟩ := h.get (h.idx h1 h2)
    obtain ⟨A, c', rfl, hcl, hcm, hread⟩ := hv.get
    have HG : Hid (∀ e ∈ (nd t (top.toNat - 1)).l, 1 ≤ e.ino ∧ e.ino ≤ t.length) := hg _ (List.mem_of_getElem? (nd_get (h.idx h1 h2)))
    have HI : Hid (∀ e ∈ (nd t (top.toNat - 1)).l, (ndAt t e.ino).kind = 2 → ∀ (b : Bool), (b = true ↔ Under t d e.ino) → 1 ≤ e.ino → e.ino ≤ t.length →
      Calls Try.prog 54 #[.pointer (some ⟨P, 0, none⟩), .int .u32 d, .int .u32 e.ino] w fun e w' => e = .returned (.bool b) ∧ w = w') := fun e he hk => ih e.ino ⟨e, he, rfl, hk⟩
    have HS : Hid (∀ e ∈ (nd t (top.toNat - 1)).l, (ndAt t e.ino).kind = 2 → Under t d e.ino → Under t d top) := fun e he hk hu => .step ⟨e, he, rfl, hk⟩ hu
    have HN : Hid (d ≠ top → NoneUnder t d (nd t (top.toNat - 1)).l (nd t (top.toNat - 1)).l.length → ¬ Under t d top) := fun hne hn => NoneUnder.not hne hn
    obtain ⟨l, hl⟩ : ∃ l, (nd t (top.toNat - 1)).l = l := ⟨_, rfl⟩
    rw [hl] at g1 hcl hread HG HI HS HN
    have HR := Lib.hid hread
    have HB := Lib.hid hb
    clear hread hv hl ih hb hg
    unfold maxLen at hc2 hcm
    cases hdt : (d == top) with
    | true =>
      have HF : Hid (true = b) := by
        show _ = _
        have : d = top := by simpa using hdt
        subst this
        exact (HB.out.2 .here).symm
      go_enter Try.func54, Try.ntmps54
      go_wp2_with fail
      go_ret
      exact ⟨ret_bool HF.out, rfl⟩
    | false =>
      have HNE : Hid (d ≠ top) := by show _ ≠ _; simpa using hdt
      go_enter Try.func54, Try.ntmps54
      go_wp2_with fail
      go_loop [8] (fun i => ∃ j : Nat, j ≤ l.length ∧ i = .int .i64 j ∧ NoneUnder t d l j) (fun i => l.length + 1 - (intOf i).toNat)
      case atStart => exact ⟨0, Nat.zero_le _, rfl, NoneUnder.zero _ _ _⟩
      case round =>
        obtain ⟨j, hj, rfl, hno⟩ := hrel
        have HNo := Lib.hid hno
        clear hno
        by_cases hjn : j < l.length
        · obtain ⟨bb, rfl, e1, e2⟩ := HR.out j _ (List.getElem?_eq_getElem hjn)
          obtain ⟨i1, i2⟩ := HG.out _ (List.getElem_mem hjn)
          cases hk : ((ndAt t l[j].ino).kind == 2) with
          | false =>
            have HK : Hid ((ndAt t l[j].ino).kind ≠ 2) := by show _ ≠ _; simpa using hk
            go_wp2_with (first | (go_at_call 43; refine (t_kind P G t _ _ h i1 i2).mono ?_; rintro e w' ⟨rfl, rfl⟩))
            go_round
            case rel => exact ⟨j + 1, by omega, by go_num, HNo.out.succ (List.getElem?_eq_getElem hjn) (fun hh => HK.out hh.1)⟩
            case measure => simp [intOf]; omega
          | true =>
            have hk' : (ndAt t l[j].ino).kind = 2 := by simpa using hk
            have HC := Lib.hid (HI.out _ (List.getElem_mem hjn) hk')
            have HS' := Lib.hid (HS.out _ (List.getElem_mem hjn) hk')
            clear hk'
            by_cases hu : Under t d l[j].ino
            · have HF : Hid (true = b) := (HB.out.2 (HS'.out hu)).symm
              have HU := Lib.hid hu
              clear hu
              go_wp2_with (first | (go_at_call 43; refine (t_kind P G t _ _ h i1 i2).mono ?_; rintro e w' ⟨rfl, rfl⟩) | (go_at_call 54; refine (HC.out true ⟨fun _ => HU.out, fun _ => rfl⟩ i1 i2).mono ?_; rintro e w' ⟨rfl, rfl⟩))
              go_ret
              exact ⟨ret_bool HF.out, rfl⟩
            · have HU := Lib.hid hu
              clear hu
              go_wp2_with (first | (go_at_call 43; refine (t_kind P G t _ _ h i1 i2).mono ?_; rintro e w' ⟨rfl, rfl⟩) | (go_at_call 54; refine (HC.out false ⟨fun hh => (by cases hh), fun hh => absurd hh HU.out⟩ i1 i2).mono ?_; rintro e w' ⟨rfl, rfl⟩))
              go_round
              case rel => exact ⟨j + 1, by omega, by go_num, HNo.out.succ (List.getElem?_eq_getElem hjn) (fun hh => HU.out hh.2)⟩
              case measure => simp [intOf]; omega
        · have HF : Hid (false = b) := by
            show _ = _
            have hjl : j = l.length := by omega
            have hno := HNo.out
            rw [hjl] at hno
            have := HN.out HNE.out hno
            cases b with
            | false => rfl
            | true => exact absurd (HB.out.1 rfl) this
          go_wp2_with fail
          go_ret
          exact ⟨ret_bool HF.out, rfl⟩
end Go.Proofs.Ytnnidgjfjgkdpaa
