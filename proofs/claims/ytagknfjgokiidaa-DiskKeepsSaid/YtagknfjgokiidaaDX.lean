/- the disk: the laws' Page. -/
import Derived.Test.YtagknfjgokiidaaDC
import Derived.Test.YtagknfjgokiidaaDMt
import Derived.Test.YtagknfjgokiidaaDDs
namespace Go.Proofs.Ytagknfjgokiidaa
open Go.RowKit Go.Maps
set_option linter.unusedVariables false
set_option linter.unusedSimpArgs false
set_option maxRecDepth 6000

theorem mk_one (z : Value) (n : Nat) : madeCells #[z] n = (List.replicate n z).toArray := by
  apply Array.ext
  · simp [madeCells]
  · intro i h1 h2
    simp [madeCells, Nat.mod_one]
theorem wp_mkN {P : Program} {W : World} {ops : Array Oper} {rest : List Oper} {o : Oper} {a : Act} {Q : Exit → Act → World → Prop} (hg : o.guard = none) (l : Operand) (t e : TypeId) (z : Value) (bytes : Nat) (hop : o.op = Op.makeSlice t l l)
    (ht : P.underlying t = some (.slice e)) (hinfo : (P.info? e).map (fun i => (i.zero, i.size, i.bytes)) = some (some z, 1, bytes)) (hz : z.cells = #[z]) (F : Nat) (hl : a.eval l = .int .i64 (F : Int)) (hF : bytes * F ≤ 281474976710656) (hF2 : F ≤ 281474976710656)
    (hK : ∀ W', W'.heap[W.heap.size]? = some (.cells (List.replicate F z).toArray e (0, 0)) → Below W.heap.size W W' → wpList P ops Q rest (a.put o.dst (.slice (some ⟨W.heap.size, 0, none⟩) F F)) W') : wpList P ops Q (o :: rest) a W := by
  obtain ⟨i, hi, hz0, hz1, hz2⟩ := info_parts hinfo
  refine wpList_plain hg fun K hK' => ?_
  have hb : (i.bytes : Int) * (F : Int) ≤ 281474976710656 := by
    rw [hz2]
    have h : ((bytes * F : Nat) : Int) ≤ 281474976710656 := by omega
    rwa [Int.natCast_mul] at h
  have hrun := run_make (P := P) W t e i z ht hi hz0 .i64 .i64 (F : Int) (F : Int) (by omega) (Int.le_refl _) hb (by omega)
  rw [hz1, hz, Int.toNat_natCast, Nat.mul_one, mk_one] at hrun
  unfold Oper.wp execOp
  simp only [hop, hl, hrun, Sem.run_bind, Sem.run_pure, Result.andThen_ok]
  exact hK' _ _ (hK _ (heap_alloc_new _ _) ((Below.refl _ _).alloc (Nat.le_refl _) _))
def pgCells (c : Int) (i : Nat) : List Value := List.replicate i (.int .u8 c) ++ List.replicate (256 - i) (.int .u8 0)
theorem pgCells_get (c : Int) {i : Nat} (h : i < 256) : (pgCells c i)[i]? = some (.int .u8 0) := by
  unfold pgCells
  rw [List.getElem?_append_right (by simp), List.length_replicate, Nat.sub_self, List.getElem?_replicate, if_pos (by omega)]
theorem pgCells_set (c : Int) {i : Nat} (h : i < 256) : (pgCells c i).toArray.setIfInBounds i (.int .u8 c) = (pgCells c (i + 1)).toArray := by
  rw [List.setIfInBounds_toArray]
  congr 1
  unfold pgCells
  rw [List.set_append_right _ _ (by simp)]
  simp only [List.length_replicate, Nat.sub_self]
  rw [show 256 - i = (256 - (i + 1)) + 1 by omega, List.replicate_succ, List.set_cons_zero, List.replicate_succ', List.append_assoc]
  rfl
theorem page_walk (w : World) (c : Int) : Calls Try.prog 17 #[.int .u8 c] w fun e w' => e = .returned (.slice (some ⟨w.heap.size, 0, none⟩) 256 256) ∧ w'.ownsRow w.heap.size 5 1 (.slice (some ⟨w.heap.size, 0, none⟩) 256 256) 256 (b8 (List.replicate 256 c)) ∧ Below w.heap.size w w' := by
  have info8 := inf8
  go_enter Try.func17, Try.ntmps17
  go_wp2_with (at_make; refine wp_mkN rfl (.const (.int .i64 256)) 31 5 (.int .u8 0) 1 rfl Try.underlying31 info8 rfl 256 rfl (by omega) (by omega) ?_; intro w1 h0 b0; have h0 : Hid (w1.heap[w.heap.size]? = some (.cells (pgCells c 0).toArray 5 (0, 0))) := h0; have b0 := Lib.hid b0)
  clear info8
  go_loopw [4] (fun y wr => ∃ i : Nat, i ≤ 256 ∧ y = .int .i64 (i : Int) ∧ Hid (wr.heap[w.heap.size]? = some (.cells (pgCells c i).toArray 5 (0, 0))) ∧ Hid (Below w.heap.size w wr)) (fun y _ => 256 - (intOf y).toNat)
  case atStart => exact ⟨0, by omega, rfl, h0, b0⟩
  case round =>
    clear h0 b0
    obtain ⟨i, hi, rfl, HC, HB⟩ := hrel
    by_cases hlt : i < 256
    · have c0 : wr.cell? ⟨w.heap.size, i, none⟩ = some (.int .u8 0) := by
        rw [cell_of_blk HC.out i, List.getElem?_toArray]
        exact pgCells_get c hlt
      have f0 := free_of_blk HC.out i
      have HC2 : Hid ((wr.setCell ⟨w.heap.size, i, none⟩ (.int .u8 c)).heap[w.heap.size]? = some (.cells (pgCells c (i + 1)).toArray 5 (0, 0))) := by
        have := blk_set HC.out i (.int .u8 c)
        rw [pgCells_set c hlt] at this
        exact this
      have HB2 : Hid (Below w.heap.size w (wr.setCell ⟨w.heap.size, i, none⟩ (.int .u8 c))) := HB.out.setCell (by simp) _
      clear HC HB
      go_wp2
      go_roundw
      case measure => simp [intOf]; omega
      exact ⟨i + 1, by omega, by go_num, HC2, HB2⟩
    · obtain rfl : i = 256 := by omega
      go_wp2
      go_ret
      refine ⟨rfl, ?_, HB.out⟩
      have := HC.out
      exact ⟨by simp, .inr ⟨w.heap.size, 256, _, rfl, Nat.le_refl _, this, Nat.le_refl _, by simp [maxLen], by simp [pgCells], by simp [pgCells]⟩⟩
end Go.Proofs.Ytagknfjgokiidaa
