/- TreePages: the row of bytes beside the tree, and what each call does to both. -/
import Derived.Test.YtpcjbfhgmcioaaaSC
import Derived.Deep.CutBlock
import Derived.Deep.DeepCutAuto
import Derived.Laws.OwnMore
namespace Go.Proofs.Ytpcjbfhgmcioaaa
open Go.RowKit Go.Maps

/-- A row of 2304 bytes. -/
structure RowB (w : World) (B : Nat) (g : Nat → UInt8) : Prop where
  cell : ∀ q, q < 2304 → w.cell? ⟨B, q, none⟩ = some (byteV (g q))
  froz : ∀ q, q < 2304 → w.frozen? ⟨B, q, none⟩ = false
variable {w W : World} {B : Nat} {g h : Nat → UInt8}
theorem RowB.lt (r : RowB w B g) : B < w.heap.size := World.block_lt_of_cell? w _ (r.cell 0 (by omega))
theorem RowB.same {w' : World} (r : RowB w B g) (hb : w'.heap[B]? = w.heap[B]?) : RowB w' B g :=
  ⟨fun q hq => (World.cell?_of_block (a := ⟨B, q, none⟩) hb).trans (r.cell q hq), fun q hq => (World.frozen?_of_block (a := ⟨B, q, none⟩) hb).trans (r.froz q hq)⟩
theorem RowB.there (r : RowB w B g) (o n : Nat) (hn : o + n ≤ 2304) : w.there B o n := fun j hj =>
  ⟨by rw [r.cell (o + j) (by omega)]; rfl, r.froz (o + j) (by omega)⟩
def putF (g : Nat → UInt8) (o : Nat) (d : List UInt8) : Nat → UInt8 := fun q => if o ≤ q ∧ q < o + d.length then d.getD (q - o) 0 else g q
theorem RowB.put (r : RowB w B g) (o : Nat) (d : List UInt8) (hd : o + d.length ≤ 2304) : RowB (w.setCells B o (d.map byteV)) B (putF g o d) := by
  have ht : ∀ q, q < 2304 → w.there B q 1 := fun q hq => r.there q 1 (by omega)
  refine ⟨fun q hq => ?_, fun q hq => ?_⟩
  · unfold putF
    by_cases hj : o ≤ q ∧ q < o + d.length
    · rw [if_pos hj]
      have := World.cell?_setCells_in B (d.map byteV) o w (fun i hi => (r.there o d.length hd i (by rw [List.length_map] at hi; exact hi)).1) (q - o) (by rw [List.length_map]; omega)
      rw [show o + (q - o) = q by omega] at this
      rw [this, List.getElem_map, List.getD_eq_getElem?_getD, List.getElem?_eq_getElem (by omega)]
      rfl
    · rw [if_neg hj, World.cell?_setCells_out B _ o w ⟨B, q, none⟩ (fun _ _ => by rw [List.length_map]; show q < o ∨ o + d.length ≤ q; omega)]
      exact r.cell q hq
  · have := (World.there_setCells (r.there 0 2304 (by omega)) B o (d.map byteV) q hq).2
    rwa [Nat.zero_add] at this
theorem RowB.set (r : RowB w B g) (k : Nat) (hk : k < 2304) (v : UInt8) : RowB (w.setCell ⟨B, k, none⟩ (byteV v)) B (putF g k [v]) := r.put k [v] (by simp; omega)
/-- make([]byte, 2304) -/
theorem row_make (w : World) : ∃ w', (Instr.makeSlice 32 (.int .i64 2304) (.int .i64 2304)).run Try.prog w = .ok (.slice (some ⟨w.heap.size, 0, none⟩) 2304 2304) w' ∧ RowB w' w.heap.size (fun _ => 0) ∧ Below w.heap.size w w' := by
  obtain ⟨i, hi, hz, hs, hb⟩ : ∃ i, Try.prog.info? 5 = some i ∧ i.zero = some (.int .u8 0) ∧ i.size = 1 ∧ i.bytes = 1 := by
    have : (Try.prog.info? 5).map (fun i => (i.zero, i.size, i.bytes)) = some (some (.int .u8 0), 1, 1) := by kernel_rfl
    obtain ⟨i, hi, he⟩ := Option.map_eq_some_iff.1 this
    simp only [Prod.mk.injEq] at he
    exact ⟨i, hi, he.1, he.2.1, he.2.2⟩
  have hr := run_make (P := Try.prog) w 32 5 i _ Try.underlying32 hi hz .i64 .i64 2304 2304 (by omega) (by omega) (by rw [hb]; omega) (by omega)
  refine ⟨_, hr, ?_, below_a1 w _⟩
  rw [hs]
  have hl : madeCells (Value.int IntKind.u8 0).cells ((2304 : Int).toNat * 1) = (List.replicate 2304 (Value.int .u8 0)).toArray := by
    rw [← Array.toArray_toList (xs := madeCells _ _)]
    congr 1
    exact toList_madeCells_one (.int .u8 0) 2304
  rw [hl]
  have hn := heap_alloc_new w (.cells (List.replicate 2304 (Value.int .u8 0)).toArray 5)
  refine ⟨fun q hq => ?_, fun q hq => ?_⟩
  · simp only [World.cell?, hn]
    rw [List.getElem?_toArray, List.getElem?_replicate, if_pos hq]
    rfl
  · simp only [World.frozen?, hn]
    simp
/-- string(b[o:o+m]) -/
theorem RowB.text (r : RowB w B g) (o m c : Nat) (hm : o + m ≤ 2304) :
    (convert 32 9 (.slice (some ⟨B, o, none⟩) m c)).run Try.prog w = .ok (.string ⟨((List.range m).map fun j => g (o + j)).toArray⟩) w := by
  rw [run_convert_bytes_string w _ _ _ _ _ _ Try.underlying32 Try.underlying5 Try.underlying9]
  have hl : (loadCells ⟨B, o, none⟩ m).run Try.prog w = .ok ((((List.range m).map fun j => g (o + j)).map fun c : UInt8 => (c.toNat : Int)).map (Value.int .u8)).toArray w := by
    have := run_loadCells_list (P := Try.prog) w ⟨B, o, none⟩ (((List.range m).map fun j => g (o + j)).map byteV) (fun j v hv => by
      rw [Addr.add_mid]
      rw [List.map_map, List.getElem?_map] at hv
      obtain ⟨j', hj', rfl⟩ := Option.map_eq_some_iff.1 hv
      have hlt : j < m := by
        have := (List.getElem?_eq_some_iff.1 hj').1
        simpa using this
      have : j' = j := by rw [List.getElem?_range hlt] at hj'; injection hj' with e; exact e.symm
      subst this
      exact r.cell (o + j') (by omega))
    rw [List.length_map, List.length_map, List.length_range] at this
    rw [List.map_map (l := List.map (fun j => g (o + j)) (List.range m))]
    exact this
  rw [run_bytesToString w _ _ _ _ hl, push_all]
  rfl
/-- copy(b[o:], d) -/
theorem RowB.copy (r : RowB w B g) (o : Nat) (d : ByteArray) (hd : o + d.size ≤ 2304) (c : Nat) (hc : 2304 - o = c) : (∀ ty, (Builtin.copy_ #[32, 9] ty #[.slice (some ⟨B, o, none⟩) c c, .string d]).run Try.prog w = .ok (goInt d.size) (w.setCells B o (d.data.toList.map byteV))) ∧ RowB (w.setCells B o (d.data.toList.map byteV)) B (putF g o d.data.toList) := by
  have hdl : d.data.toList.length = d.size := by simp
  refine ⟨fun ty => ?_, r.put o _ (by rw [hdl]; exact hd)⟩
  exact _root_.Go.run_copy_string (P := Try.prog) w 32 9 ty 5 B o c c d Try.underlying32 (fun w => by kernel_rfl) (by omega) (fun j hj => by rw [r.cell (o + j) (by omega)]; rfl) (fun j hj => r.froz (o + j) (by omega))
end Go.Proofs.Ytpcjbfhgmcioaaa
