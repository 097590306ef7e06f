/- the disk: Meter. -/
import Derived.Test.YtagknfjgokiidaaDC
namespace Go.Proofs.Ytagknfjgokiidaa
open Go.RowKit Go.Maps
set_option linter.unusedVariables false
set_option linter.unusedSimpArgs false
set_option maxRecDepth 6000

section
variable {w : World} {bd bm bf : Nat} {V : Int → Value} {R : Int} {F : List Int} {s : Ds}
abbrev mtr (s : Ds) : Value := .agg #[.int .i64 s.reads, .int .i64 s.writes, .int .i64 s.used, .int .i64 s.peak]
theorem dmeter (H : Dsk w bd bm bf V R F s) : Calls Try.prog 21 #[dp bd] w fun e w' => e = .returned (mtr s) ∧ Below w.heap.size w w' := by
  have HR := Lib.hid (dready (H.turn ((Turn.refl (fun _ => False) w).alloc (.cells #[.int .i64 0, .int .i64 0, .int .i64 0, .int .i64 0] 47)) (fun _ _ => id)))
  obtain ⟨c0, c1, c2, c3, c4, c5, c6, c7, c8, hb⟩ := H.cells
  clear H
  go_enter Try.func21, Try.ntmps21
  go_wp2_with (go_at_call 42; refine HR.out.mono ?_; rintro e w1 ⟨rfl, hw⟩; obtain rfl := hw.symm; clear hw)
  exact ⟨rfl, _, results_cell_row (p := 2) (ty := 47) rfl _ _ w.heap.size 47 _ (0, 0) _ rfl (heap_alloc_new w _) Try.underlying47 rfl (by kernel_rfl), rfl, (Below.refl _ _).alloc (Nat.le_refl _) _⟩
end
section
variable {w : World} {S : Nat → Prop} {bd : Nat} {R : Int} {F : List Int} {s : Ds}
theorem d_meter (H : DR bd R F s w S) : Calls Try.prog 21 #[dp bd] w fun e w' => e = .returned (mtr s) ∧ Below w.heap.size w w' := by
  obtain ⟨bm, bf, V, h, rfl⟩ := H
  exact dmeter h
end
theorem n_meter (w : World) : Calls Try.prog 21 #[NP] w fun e w' => e = .returned (.agg #[.int .i64 0, .int .i64 0, .int .i64 0, .int .i64 0]) ∧ Below w.heap.size w w' := by
  have HR := Lib.hid dready_nil
  go_enter Try.func21, Try.ntmps21
  go_wp2_with (go_at_call 42; refine (HR.out _).mono ?_; rintro e w1 ⟨rfl, hw⟩; obtain rfl := hw.symm; clear hw)
  exact ⟨rfl, _, results_cell_row (p := 2) (ty := 47) rfl _ _ w.heap.size 47 _ (0, 0) _ rfl (heap_alloc_new w _) Try.underlying47 rfl (by kernel_rfl), rfl, (Below.refl _ _).alloc (Nat.le_refl _) _⟩
section
variable {w0 w : World} {Fr : Res} {bd : Nat} {R : Int} {F : List Int} {s : Ds}
theorem v_meter (g : Good Fr) (H : In w0 w (star (DR bd R F s) Fr)) : Calls Try.prog 21 #[dp bd] w fun e w' => e = .returned (mtr s) ∧ Below w.heap.size w w' ∧ In w0 w' (star (DR bd R F s) Fr) :=
  H.left.get fun S h1 => (d_meter h1).mono fun e w' h => ⟨h.1, h.2, H.below (star_good (DR_good _ _ _ _) g) h.2⟩
end
end Go.Proofs.Ytagknfjgokiidaa
