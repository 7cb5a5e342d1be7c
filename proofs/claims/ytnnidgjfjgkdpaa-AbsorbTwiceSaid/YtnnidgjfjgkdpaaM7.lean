/- Trees as the document has them: what is told of an inode. -/
import Derived.Test.YtnnidgjfjgkdpaaM4
namespace Go.Proofs.Ytnnidgjfjgkdpaa
open Go.RowKit

theorem below_drew' {B : Nat} {a w : World} (h : Below B a w) : Below B a w.drew := ⟨h.os, h.tape, h.output, h.size, h.block⟩
def statV (ino kind links size : Int) : Value := .agg #[.int .u32 ino, .int .u8 kind, .int .i64 links, .int .u32 size]
set_option maxRecDepth 100000 in
set_option maxHeartbeats 4000000 in
theorem t_stat_no (P G : Nat) (t : Tr) (ino : Int) (w : World) (h : TreeAt w P G t) (h0 : 0 ≤ ino) (ht : thereB t ino = false) :
    Calls Try.prog 32 #[.pointer (some ⟨P, 0, none⟩), .int .u32 ino] w fun e w' => e = .returned (.tuple #[statV 0 0 0 0, .int .i64 3]) ∧ Below w.heap.size w w' := by
  have HT := Lib.hid ht
  clear ht
  go_enter Try.func32, Try.ntmps32
  go_wp2_with (first | (go_at_call 40; (with_reducible refine (t_there P G t ino _ HT.out _ (h.alloc _) h0).mono ?_); rintro e w' ⟨rfl, rfl⟩))
  exact bodyPost_ret (v := .tuple #[statV 0 0 0 0, .int .i64 3]) (by simp [results, Try.f32, go_sem]; rfl) rfl ⟨rfl, (Below.refl _ _).alloc (Nat.le_refl _) _⟩
set_option maxRecDepth 100000 in
set_option maxHeartbeats 4000000 in
theorem t_stat_ok (P G : Nat) (t : Tr) (ino : Int) (v : Int) (w : World) (h : TreeAt w P G t) (ht : thereB t ino = true) (hv : linksV t ino = v) (hsl : Small t) (hds : (ndAt t ino).data.size ≤ 100000) :
    Calls Try.prog 32 #[.pointer (some ⟨P, 0, none⟩), .int .u32 ino] w fun e w' => e = .returned (.tuple #[statV ino (ndAt t ino).kind v ((ndAt t ino).data.size : Nat), .int .i64 0]) ∧ Below w.heap.size w w' := by
  obtain ⟨h1, h2, _⟩ := thereB_bounds ht
  have h0 : 0 ≤ ino := by omega
  have HT := Lib.hid ht
  have HV := Lib.hid hv
  clear ht hv
  have hs := h.small
  obtain ⟨c, hc1, hc2, hc⟩ := h.cell0
  obtain ⟨g0, ⟨v1, g1, hv1⟩, g2, g3⟩ := h.get (h.idx h1 h2)
  obtain ⟨A1, c1, rfl, hcl, hcm, hread⟩ := hv1.get
  unfold maxLen at hc2
  have qc := fun o => alloc_cell h.ltP hc o
  have q0 := fun o => alloc_cell h.ltG g0 o
  have q1 := fun o => alloc_cell h.ltG g1 o
  have q2 := fun o => alloc_cell h.ltG g2 o
  have q3 := fun o => alloc_cell h.ltG g3 o
  have hds' : (nd t (ino.toNat - 1)).data.size ≤ 100000 := hds
  have hwr : IntKind.u32.wrap ((nd t (ino.toNat - 1)).data.size : Int) = ((nd t (ino.toNat - 1)).data.size : Int) := IntWalk.u32_in _ (by omega)
  clear hread hv1 hds
  go_enter Try.func32, Try.ntmps32
  go_wp2_with (first | (go_at_call 40; (with_reducible refine (t_there P G t ino _ HT.out _ (h.alloc _) h0).mono ?_); rintro e w' ⟨rfl, rfl⟩))
  go_region_held3 (fun w' => w'.cell? ⟨w.heap.size + 1, 0, none⟩ = some (.int .u8 (nd t (ino.toNat - 1)).kind) ∧ w'.cell? ⟨w.heap.size + 1, 2, none⟩ = some (.string (nd t (ino.toNat - 1)).data)) (go_keep)
    (first | (go_at_call 44; refine (t_links P G t ino _ HV.out _ ((h.alloc _).alloc _).drew h1 h2 hsl).mono ?_; rintro e w' ⟨rfl, rfl⟩))
  go_wp2_with fail
  exact bodyPost_ret (v := .tuple #[statV ino (ndAt t ino).kind v ((ndAt t ino).data.size : Nat), .int .i64 0]) (by simp [results, Try.f32, go_sem]; rfl) rfl ⟨rfl, below_drew' (((Below.refl _ w).alloc (Nat.le_refl _) _).alloc (by simp) _)⟩
end Go.Proofs.Ytnnidgjfjgkdpaa
