/- the ledger: a nil one. -/
import Derived.Test.YtagknfjgokiidaaLA
namespace Go.Proofs.Ytagknfjgokiidaa
open Go.RowKit
set_option linter.unusedVariables false
set_option linter.unusedSimpArgs false

abbrev LP : Value := .pointer Option.none
theorem open_nil (w : World) (n g : Int) : Calls Try.prog 26 #[LP, .int .i64 n, .int .i64 g] w fun e w' => e = .returned (.tuple #[.int .i64 0, .int .i64 6]) ∧ Below w.heap.size w w' := by
  have HF := Lib.hid find_nil
  have HR := Lib.hid ready_nil
  go_enter Try.func26, Try.ntmps26
  go_wp2_with (first
    | (go_at_call 47; refine (HF.out _ _).mono ?_; rintro e w1 ⟨rfl, hw⟩; have b1 : Below w.heap.size w w1 := (by rw [hw]; exact (Below.refl _ _).alloc (Nat.le_refl _) _); clear hw)
    | (go_at_call 48; refine (HR.out _).mono ?_; rintro e w2 ⟨rfl, hw2⟩; obtain rfl := hw2.symm; clear hw2))
  go_ret2
  exact ⟨by trivial, b1⟩
theorem close_nil (w : World) (n : Int) : Calls Try.prog 27 #[LP, .int .i64 n] w fun e w' => e = .returned (.int .i64 6) ∧ Below w.heap.size w w' := by
  have HF := Lib.hid find_nil
  have HR := Lib.hid ready_nil
  go_enter Try.func27, Try.ntmps27
  go_wp2_with (first
    | (go_at_call 47; refine (HF.out _ _).mono ?_; rintro e w1 ⟨rfl, hw⟩; have b1 : Below w.heap.size w w1 := (by rw [hw]; exact (Below.refl _ _).alloc (Nat.le_refl _) _); clear hw)
    | (go_at_call 48; refine (HR.out _).mono ?_; rintro e w2 ⟨rfl, hw2⟩; obtain rfl := hw2.symm; clear hw2))
  go_ret
  exact ⟨by trivial, b1⟩
theorem take_nil (w : World) (n g : Int) : Calls Try.prog 28 #[LP, .int .i64 n, .int .i64 g] w fun e w' => e = .returned (.int .i64 6) ∧ Below w.heap.size w w' := by
  have HF := Lib.hid find_nil
  have HR := Lib.hid ready_nil
  go_enter Try.func28, Try.ntmps28
  go_wp2_with (first
    | (go_at_call 47; refine (HF.out _ _).mono ?_; rintro e w1 ⟨rfl, hw⟩; have b1 : Below w.heap.size w w1 := (by rw [hw]; exact (Below.refl _ _).alloc (Nat.le_refl _) _); clear hw)
    | (go_at_call 48; refine (HR.out _).mono ?_; rintro e w2 ⟨rfl, hw2⟩; obtain rfl := hw2.symm; clear hw2))
  go_ret
  exact ⟨by trivial, b1⟩
theorem give_nil (w : World) (n g : Int) : Calls Try.prog 29 #[LP, .int .i64 n, .int .i64 g] w fun e w' => e = .returned (.int .i64 6) ∧ Below w.heap.size w w' := by
  have HF := Lib.hid find_nil
  have HR := Lib.hid ready_nil
  go_enter Try.func29, Try.ntmps29
  go_wp2_with (first
    | (go_at_call 47; refine (HF.out _ _).mono ?_; rintro e w1 ⟨rfl, hw⟩; have b1 : Below w.heap.size w w1 := (by rw [hw]; exact (Below.refl _ _).alloc (Nat.le_refl _) _); clear hw)
    | (go_at_call 48; refine (HR.out _).mono ?_; rintro e w2 ⟨rfl, hw2⟩; obtain rfl := hw2.symm; clear hw2))
  go_ret
  exact ⟨by trivial, b1⟩
theorem find_nil2 (w : World) (n : Int) : Calls Try.prog 47 #[LP, .int .i64 n] w fun e w' => e = .returned (.tuple #[.pointer (some ⟨w.heap.size, 0, Option.none⟩), .bool false]) ∧ w'.heap[w.heap.size]? = some (acObj Ac.none) ∧ Below w.heap.size w w' := by
  refine (find_nil w n).mono ?_
  rintro e w' ⟨rfl, rfl⟩
  exact ⟨rfl, heap_alloc_new _ _, (Below.refl _ _).alloc (Nat.le_refl _) _⟩
theorem grant_nil (w : World) (n : Int) : Calls Try.prog 32 #[LP, .int .i64 n] w fun e w' => e = .returned (.int .i64 0) ∧ Below w.heap.size w w' := by
  have HF := Lib.hid find_nil2
  go_enter Try.func32, Try.ntmps32
  go_wp2_with (go_at_call 47; refine (HF.out _ _).mono ?_; rintro e w1 ⟨rfl, hg, b1⟩; obtain ⟨c0, c1, c2, c3, c4, c5, hb⟩ := ac_cells hg; dsimp only [Ac.none] at c0 c1 c2 c3 c4 c5; clear hg)
  go_ret
  exact ⟨by trivial, b1⟩
theorem held_nil (w : World) (n : Int) : Calls Try.prog 31 #[LP, .int .i64 n] w fun e w' => e = .returned (.int .i64 0) ∧ Below w.heap.size w w' := by
  have HF := Lib.hid find_nil2
  go_enter Try.func31, Try.ntmps31
  go_wp2_with (go_at_call 47; refine (HF.out _ _).mono ?_; rintro e w1 ⟨rfl, hg, b1⟩; obtain ⟨c0, c1, c2, c3, c4, c5, hb⟩ := ac_cells hg; dsimp only [Ac.none] at c0 c1 c2 c3 c4 c5; clear hg)
  go_ret
  exact ⟨by trivial, b1⟩
theorem peak_nil (w : World) (n : Int) : Calls Try.prog 34 #[LP, .int .i64 n] w fun e w' => e = .returned (.int .i64 0) ∧ Below w.heap.size w w' := by
  have HF := Lib.hid find_nil2
  go_enter Try.func34, Try.ntmps34
  go_wp2_with (go_at_call 47; refine (HF.out _ _).mono ?_; rintro e w1 ⟨rfl, hg, b1⟩; obtain ⟨c0, c1, c2, c3, c4, c5, hb⟩ := ac_cells hg; dsimp only [Ac.none] at c0 c1 c2 c3 c4 c5; clear hg)
  go_ret
  exact ⟨by trivial, b1⟩
theorem leftn_nil (w : World) (n : Int) : Calls Try.prog 33 #[LP, .int .i64 n] w fun e w' => e = .returned (.int .i64 0) ∧ Below w.heap.size w w' := by
  have HF := Lib.hid find_nil2
  go_enter Try.func33, Try.ntmps33
  go_wp2_with (first
    | (go_at_call 47; refine (HF.out _ _).mono ?_; rintro e w1 ⟨rfl, hg, b1⟩; have HL := Lib.hid (left_walk hg (by decide) (by decide) (by decide) (by decide) (by decide) (by decide)); clear hg)
    | (go_at_call 49; refine HL.out.mono ?_; rintro e w2 ⟨rfl, b2⟩))
  go_ret
  exact ⟨by trivial, b1.trans (b2.mono b1.size)⟩
theorem total_nil (w : World) : Calls Try.prog 35 #[LP] w fun e w' => e = .returned (.int .i64 0) ∧ Below w.heap.size w w' := by
  have HR := Lib.hid ready_nil
  go_enter Try.func35, Try.ntmps35
  go_wp2_with (go_at_call 48; refine (HR.out _).mono ?_; rintro e w2 ⟨rfl, hw2⟩; obtain rfl := hw2.symm; clear hw2)
  go_ret
  exact ⟨by trivial, Below.refl _ _⟩
theorem most_nil (w : World) : Calls Try.prog 36 #[LP] w fun e w' => e = .returned (.int .i64 0) ∧ Below w.heap.size w w' := by
  have HR := Lib.hid ready_nil
  go_enter Try.func36, Try.ntmps36
  go_wp2_with (go_at_call 48; refine (HR.out _).mono ?_; rintro e w2 ⟨rfl, hw2⟩; obtain rfl := hw2.symm; clear hw2)
  go_ret
  exact ⟨by trivial, Below.refl _ _⟩
end Go.Proofs.Ytagknfjgokiidaa
