/- the disk: Deeds. -/
import Derived.Test.YtagknfjgokiidaaDC
namespace Go.Proofs.Ytagknfjgokiidaa
open Go.RowKit Go.Maps
set_option linter.unusedVariables false
set_option linter.unusedSimpArgs false
set_option maxRecDepth 6000

section
variable {w : World} {bd bm bf : Nat} {V : Int → Value} {R : Int} {F : List Int} {s : Ds}
theorem ddeeds (H : Dsk w bd bm bf V R F s) : Calls Try.prog 22 #[dp bd] w fun e w' => e = .returned (.int .i64 s.deeds) ∧ w' = w := by
  have HR := Lib.hid (dready H)
  obtain ⟨c0, c1, c2, c3, c4, c5, c6, c7, c8, hb⟩ := H.cells
  clear H
  go_enter Try.func22, Try.ntmps22
  go_wp2_with (go_at_call 42; refine HR.out.mono ?_; rintro e w1 ⟨rfl, hw⟩; obtain rfl := hw.symm; clear hw)
  go_ret
  exact ⟨by trivial, rfl⟩
end
section
variable {w : World} {S : Nat → Prop} {bd : Nat} {R : Int} {F : List Int} {s : Ds}
theorem d_deeds (H : DR bd R F s w S) : Calls Try.prog 22 #[dp bd] w fun e w' => e = .returned (.int .i64 s.deeds) ∧ w' = w := by
  obtain ⟨bm, bf, V, h, rfl⟩ := H
  exact ddeeds h
end
theorem n_deeds (w : World) : Calls Try.prog 22 #[NP] w fun e w' => e = .returned (.int .i64 0) ∧ Below w.heap.size w w' := by
  have HR := Lib.hid dready_nil
  go_enter Try.func22, Try.ntmps22
  go_wp2_with (go_at_call 42; refine (HR.out _).mono ?_; rintro e w1 ⟨rfl, hw⟩; obtain rfl := hw.symm; clear hw)
  go_ret
  exact ⟨by trivial, Below.refl _ _⟩
section
variable {w0 w : World} {Fr : Res} {bd : Nat} {R : Int} {F : List Int} {s : Ds}
theorem v_deeds (g : Good Fr) (H : In w0 w (star (DR bd R F s) Fr)) : Calls Try.prog 22 #[dp bd] w fun e w' => e = .returned (.int .i64 s.deeds) ∧ w' = w :=
  H.left.get fun S h1 => d_deeds h1
end
end Go.Proofs.Ytagknfjgokiidaa
