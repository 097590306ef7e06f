/- the disk: a nil one; Page; the calls beside a frame. -/
import Derived.Test.YtagknfjgokiidaaDL
import Derived.Maps.AppendAt
namespace Go.Proofs.Ytagknfjgokiidaa
open Go.RowKit Go.Maps
set_option linter.unusedVariables false
set_option linter.unusedSimpArgs false
set_option maxRecDepth 6000

abbrev NP : Value := .pointer none
theorem n_create (w : World) : Calls Try.prog 15 #[NP] w fun e w' => e = .returned (.tuple #[.int .i64 0, .int .i64 6]) ∧ Below w.heap.size w w' := by
  have HR := Lib.hid dready_nil
  go_enter Try.func15, Try.ntmps15
  go_wp2_with (go_at_call 42; refine (HR.out _).mono ?_; rintro e w1 ⟨rfl, hw⟩; obtain rfl := hw.symm; clear hw)
  go_ret2
  exact ⟨by trivial, Below.refl _ _⟩
theorem n_app (w : World) (n : Int) (v : Value) : Calls Try.prog 16 #[NP, .int .i64 n, v] w fun e w' => e = .returned (.int .i64 6) ∧ Below w.heap.size w w' := by
  have HR := Lib.hid dready_nil
  go_enter Try.func16, Try.ntmps16
  go_wp2_with (go_at_call 42; refine (HR.out _).mono ?_; rintro e w1 ⟨rfl, hw⟩; obtain rfl := hw.symm; clear hw)
  go_ret
  exact ⟨by trivial, Below.refl _ _⟩
theorem n_read (w : World) (n i : Int) : Calls Try.prog 20 #[NP, .int .i64 n, .int .i64 i] w fun e w' => e = .returned (.tuple #[.slice none 0 0, .int .i64 6]) ∧ Below w.heap.size w w' := by
  have HR := Lib.hid dready_nil
  go_enter Try.func20, Try.ntmps20
  go_wp2_with (go_at_call 42; refine (HR.out _).mono ?_; rintro e w1 ⟨rfl, hw⟩; obtain rfl := hw.symm; clear hw)
  go_ret2
  exact ⟨by trivial, Below.refl _ _⟩
theorem n_del (w : World) (n : Int) : Calls Try.prog 18 #[NP, .int .i64 n] w fun e w' => e = .returned (.int .i64 6) ∧ Below w.heap.size w w' := by
  have HR := Lib.hid dready_nil
  go_enter Try.func18, Try.ntmps18
  go_wp2_with (go_at_call 42; refine (HR.out _).mono ?_; rintro e w1 ⟨rfl, hw⟩; obtain rfl := hw.symm; clear hw)
  go_ret
  exact ⟨by trivial, Below.refl _ _⟩
theorem n_size (w : World) (n : Int) : Calls Try.prog 19 #[NP, .int .i64 n] w fun e w' => e = .returned (.tuple #[.int .i64 0, .int .i64 6]) ∧ Below w.heap.size w w' := by
  have HR := Lib.hid dready_nil
  go_enter Try.func19, Try.ntmps19
  go_wp2_with (go_at_call 42; refine (HR.out _).mono ?_; rintro e w1 ⟨rfl, hw⟩; obtain rfl := hw.symm; clear hw)
  go_ret2
  exact ⟨by trivial, Below.refl _ _⟩
theorem n_files (w : World) : Calls Try.prog 23 #[NP] w fun e w' => e = .returned (.slice none 0 0) ∧ Below w.heap.size w w' := by
  have HR := Lib.hid dready_nil
  go_enter Try.func23, Try.ntmps23
  go_wp2_with (go_at_call 42; refine (HR.out _).mono ?_; rintro e w1 ⟨rfl, hw⟩; obtain rfl := hw.symm; clear hw)
  go_ret
  exact ⟨by trivial, Below.refl _ _⟩
end Go.Proofs.Ytagknfjgokiidaa
