/- DiskNobody: the walk. -/
import Derived.Test.YtagknfjgokiidaaDO
import Derived.Test.YtagknfjgokiidaaDY
namespace Go.Proofs.Ytagknfjgokiidaa
open Go.RowKit Go.Maps
set_option linter.unusedVariables false
set_option linter.unusedSimpArgs false
set_option maxRecDepth 6000

structure NB4 (w : World) (x : Op4) (W : World) : Prop where
  bel : Below w.heap.size w W
  box : W.heap[w.heap.size]? = some (.cells #[.int .i64 x.k, .int .i64 x.f, .int .i64 x.i, .slice x.A x.n x.c] 33 (0, 0))
theorem NB4.step {w W W' : World} {x : Op4} (h : NB4 w x W) (b : Below W.heap.size W W') : NB4 w x W' :=
  ⟨h.bel.trans (b.mono h.bel.size), blk_below h.box b (lt_of_heap h.box)⟩
theorem NB4.cells {w W : World} {x : Op4} (h : NB4 w x W) : W.cell? ⟨w.heap.size, 0, none⟩ = some (.int .i64 x.k) ∧ W.cell? ⟨w.heap.size, 1, none⟩ = some (.int .i64 x.f) ∧ W.cell? ⟨w.heap.size, 2, none⟩ = some (.int .i64 x.i) ∧ W.cell? ⟨w.heap.size, 3, none⟩ = some (.slice x.A x.n x.c) :=
  ⟨cell_of_blk h.box 0, cell_of_blk h.box 1, cell_of_blk h.box 2, cell_of_blk h.box 3⟩
theorem NB4.start (w : World) (x : Op4) : NB4 w x (w.alloc (.cells #[.int .i64 x.k, .int .i64 x.f, .int .i64 x.i, .slice x.A x.n x.c] 33)) := ⟨(Below.refl _ _).alloc (Nat.le_refl _) _, heap_alloc_new _ _⟩
set_option maxHeartbeats 4000000 in
theorem DiskNobody.walk {w : World} (x : Op4) (hx : x.wf w) : Calls Try.prog 6 #[x.val] w fun e w' => e = .returned (.bool true) ∧ Below w.heap.size w w' := by
  have hn := hx.n
  obtain ⟨k, f, i, A, n, c, p⟩ := x
  unfold Op4.val
  have N := Lib.hid (NB4.start w ⟨k, f, i, A, n, c, p⟩)
  have HL := Lib.hid dlives
  have C1 := Lib.hid n_create
  have C2 := Lib.hid n_read
  have C3 := Lib.hid n_size
  have C4 := Lib.hid n_app
  have C5 := Lib.hid n_del
  have C6 := Lib.hid n_files
  have C7 := Lib.hid n_meter
  have C8 := Lib.hid n_deeds
  dsimp only at hn ⊢
  clear hx
  by_cases hl : 1000 < n
  · have hl1 : (1000 : Int) < n := by omega
    clear hl
    go_enter Try.func6, Try.ntmps6
    go_wp2_with (go_at_call 10; (with_reducible refine (HL.out _).mono ?_); rintro e w1 ⟨rfl, b1⟩; have N := Lib.hid (N.out.step b1); clear b1)
    go_ret
    exact ⟨by trivial, N.out.bel⟩
  · have hl1 : ¬ (1000 : Int) < n := by omega
    clear hl
    go_enter Try.func6, Try.ntmps6
    go_wp2_with (first
      | (go_at_call 15; (with_reducible refine (C1.out _).mono ?_); rintro e w1 ⟨rfl, b1⟩; have N := Lib.hid (N.out.step b1); obtain ⟨k0, k1, k2, k3⟩ := N.out.cells; clear b1)
      | (go_at_call 20; (with_reducible refine (C2.out _ _ _).mono ?_); rintro e w1 ⟨rfl, b1⟩; have N := Lib.hid (N.out.step b1); obtain ⟨k0, k1, k2, k3⟩ := N.out.cells; clear b1)
      | (go_at_call 19; (with_reducible refine (C3.out _ _).mono ?_); rintro e w1 ⟨rfl, b1⟩; have N := Lib.hid (N.out.step b1); obtain ⟨k0, k1, k2, k3⟩ := N.out.cells; clear b1)
      | (go_at_call 16; (with_reducible refine (C4.out _ _ _).mono ?_); rintro e w1 ⟨rfl, b1⟩; have N := Lib.hid (N.out.step b1); obtain ⟨k0, k1, k2, k3⟩ := N.out.cells; clear b1)
      | (go_at_call 18; (with_reducible refine (C5.out _ _).mono ?_); rintro e w1 ⟨rfl, b1⟩; have N := Lib.hid (N.out.step b1); obtain ⟨k0, k1, k2, k3⟩ := N.out.cells; clear b1)
      | (go_at_call 23; (with_reducible refine (C6.out _).mono ?_); rintro e w1 ⟨rfl, b1⟩; have N := Lib.hid (N.out.step b1); obtain ⟨k0, k1, k2, k3⟩ := N.out.cells; clear b1)
      | (go_at_call 21; (with_reducible refine (C7.out _).mono ?_); rintro e w1 ⟨rfl, b1⟩; have N := Lib.hid (N.out.step b1); obtain ⟨k0, k1, k2, k3⟩ := N.out.cells; clear b1)
      | (go_at_call 22; (with_reducible refine (C8.out _).mono ?_); rintro e w1 ⟨rfl, b1⟩; have N := Lib.hid (N.out.step b1); obtain ⟨k0, k1, k2, k3⟩ := N.out.cells; clear b1)
      | (go_at_call 10; (with_reducible refine (HL.out _).mono ?_); rintro e w1 ⟨rfl, b1⟩; have N := Lib.hid (N.out.step b1); obtain ⟨k0, k1, k2, k3⟩ := N.out.cells; clear b1))
    go_ret
    exact ⟨by trivial, N.out.bel⟩
end Go.Proofs.Ytagknfjgokiidaa
