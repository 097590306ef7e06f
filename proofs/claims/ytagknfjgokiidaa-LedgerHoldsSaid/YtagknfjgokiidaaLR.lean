/- What comes in: a call of a ledger, and many. -/
import Derived.Test.YtagknfjgokiidaaLV
import Derived.SliceStrings
import Derived.ChangeArms
namespace Go.Proofs.Ytagknfjgokiidaa
open Go.RowKit Go.ChangeShapes Go.WideShapes Go.Deep
set_option linter.unusedVariables false
set_option linter.unusedSimpArgs false

structure Op3 where
  k : Int
  n : Int
  p : Int
def Op3.wf (x : Op3) : Prop := (Lit.int .i64 x.k).wf = true ∧ (Lit.int .i64 x.n).wf = true ∧ (Lit.int .i64 x.p).wf = true
def Op3.val (x : Op3) : Value := .agg #[.int .i64 x.k, .int .i64 x.n, .int .i64 x.p]
section
variable {H : Type} {enc : TypeId × Value → H} {W : World} {base : Nat} {spare : Nat → Bool} {held : Bool}
theorem len3 {α : Type} : ∀ {cs : List α}, cs.length = 3 → ∃ a b c, cs = [a, b, c]
  | [a, b, c], _ => ⟨a, b, c, rfl⟩
theorem triple_ints {t : TypeId} (f0 f1 f2 : Field) (hu : Try.prog.underlying t = some (.struct #[f0, f1, f2])) (hone : oneCellFields Try.prog #[f0, f1, f2] = true) (h0 : Try.prog.underlying f0.type = some (.int .i64)) (h1 : Try.prog.underlying f1.type = some (.int .i64)) (h2 : Try.prog.underlying f2.type = some (.int .i64)) (hC : Try.prog.cellsOf t = 3) {n : Nat} {cs : List Value} {y : DataW H × List MemPlace}
    (h : DataW.trod enc Try.prog W base spare held n t cs = some y) : ∃ x : Op3, cs = [.int .i64 x.k, .int .i64 x.n, .int .i64 x.p] ∧ x.wf := by
  obtain ⟨ys, m, _, _, hlen, hyl, hf⟩ := DataW.trod_struct hu h
  obtain ⟨o0, k0⟩ := hone_of hone 0 f0 rfl
  obtain ⟨o1, k1⟩ := hone_of hone 1 f1 rfl
  obtain ⟨o2, k2⟩ := hone_of hone 2 f2 rfl
  obtain ⟨c0, c1, c2, rfl⟩ := len3 (hlen.trans hC)
  obtain ⟨y0, y1, y2, rfl⟩ := len3 hyl
  have e0 := hf 0 f0 rfl
  have e1 := hf 1 f1 rfl
  have e2 := hf 2 f2 rfl
  rw [o0, k0] at e0
  rw [o1, k1] at e1
  rw [o2, k2] at e2
  obtain ⟨a, ea, _, wa⟩ := DataW.trod_int h0 (by simpa using e0)
  obtain ⟨b, eb, _, wb⟩ := DataW.trod_int h1 (by simpa using e1)
  obtain ⟨c, ec, _, wc⟩ := DataW.trod_int h2 (by simpa using e2)
  simp at ea eb ec
  exact ⟨⟨a, b, c⟩, by rw [ea, eb, ec], wa, wb, wc⟩
theorem op_cells {n : Nat} {cs : List Value} {y : DataW H × List MemPlace} (h : DataW.trod enc Try.prog W base spare held n 58 cs = some y) : ∃ x : Op3, cs = [.int .i64 x.k, .int .i64 x.n, .int .i64 x.p] ∧ x.wf :=
  triple_ints _ _ _ Try.underlying58 (by kernel_rfl) Try.underlying3 Try.underlying3 Try.underlying3 (by kernel_rfl) h
set_option maxRecDepth 100000 in
theorem open_06Op {v : Value} {r : Reach} {b2 : Nat} {d : DataW H} {ps : List MemPlace} (hv : Value.okWide Try.prog W r b2 58 v) (h : DataW.Trod enc Try.prog W base spare held 58 v d ps) : ∃ x : Op3, x.wf ∧ v = x.val := by
  obtain ⟨fuel, hf⟩ := h
  obtain ⟨cs, rfl, _⟩ := okWide_struct Try.underlying58 hv
  obtain ⟨x, e, hw⟩ := op_cells hf
  refine ⟨x, hw, ?_⟩
  have : cs.toList = [.int .i64 x.k, .int .i64 x.n, .int .i64 x.p] := e
  unfold Op3.val
  rw [← this]
/-- Many of them, read. -/
def RdO (w : World) (A : Option Addr) (n : Nat) (xs : List Op3) : Prop :=
  xs.length = n ∧ n ≤ 9223372036854775807 ∧ (∀ x ∈ xs, x.wf) ∧ (0 < n → ∃ ad, A = some ad ∧ ad.block < w.heap.size ∧ ∀ i x, xs[i]? = some x → w.cell? (ad.add (i * 3)) = some (.int .i64 x.k) ∧ w.cell? ((ad.add (i * 3)).add 1) = some (.int .i64 x.n) ∧ w.cell? ((ad.add (i * 3)).add 2) = some (.int .i64 x.p))
theorem op_zero : (⟨0, 0, 0⟩ : Op3).wf := ⟨by decide, by decide, by decide⟩
theorem slice_cells {A B : Option Addr} {len cap l c : Nat} (h : (Value.slice A len cap).cells.toList = [.slice B l c]) : A = B ∧ len = l ∧ cap = c := by
  simpa [Value.cells] using h
theorem addr_block (a : Addr) (n : Nat) : (a.add n).block = a.block := by unfold Addr.add; split <;> rfl
theorem open_S06Op {A : Option Addr} {len cap : Nat} {d : DataW H} {ps : List MemPlace} (h : DataW.Trod enc Try.prog W base spare held 53 (.slice A len cap) d ps) : ∃ xs : List Op3, RdO W A len xs := by
  obtain ⟨fuel, hf⟩ := h
  rcases open_slice Try.underlying53 hf with ⟨hcs, _⟩ | ⟨a, l, c, m, n, D, Pl, hcs, hb, hl, hm, hmm, hx, hi⟩
  · obtain ⟨rfl, rfl, rfl⟩ := slice_cells hcs
    exact ⟨[], rfl, by omega, by simp, fun h => absurd h (by omega)⟩
  · obtain ⟨rfl, rfl, rfl⟩ := slice_cells hcs
    have hC : Try.prog.cellsOf 58 = 3 := by kernel_rfl
    have hlm : len ≤ m := by rw [hmm]; split <;> omega
    have hex : ∀ i, ∃ x : Op3, x.wf ∧ (i < len → W.cell? (a.add (i * 3)) = some (.int .i64 x.k) ∧ W.cell? ((a.add (i * 3)).add 1) = some (.int .i64 x.n) ∧ W.cell? ((a.add (i * 3)).add 2) = some (.int .i64 x.p)) := fun i => by
      by_cases hil : i < len
      · obtain ⟨cs', hc, ht'⟩ := hi i (by omega)
        rw [hC] at hc
        obtain ⟨x, rfl, hw⟩ := op_cells ht'
        obtain ⟨_, _, hat⟩ := World.cells?_some hc
        have h0 := hat 0 (by omega)
        have h1 := hat 1 (by omega)
        have h2 := hat 2 (by omega)
        refine ⟨x, hw, fun _ => ⟨?_, ?_, ?_⟩⟩
        · simpa [Addr.add] using h0
        · exact h1
        · exact h2
      · exact ⟨⟨0, 0, 0⟩, op_zero, fun h => absurd h hil⟩
    obtain ⟨f, hf2⟩ := Classical.axiomOfChoice hex
    refine ⟨(List.range len).map f, by simp, by simp only [maxLen] at hm; omega, ?_, fun hn => ⟨a, rfl, ?_, fun i x hx => ?_⟩⟩
    · intro x hx
      obtain ⟨i, _, rfl⟩ := List.mem_map.1 hx
      exact (hf2 i).1
    · have := World.block_lt_of_cell? W _ ((hf2 0).2 hn).1
      rwa [addr_block] at this
    · rw [List.getElem?_map] at hx
      by_cases hil : i < len
      · rw [List.getElem?_range hil] at hx
        obtain rfl : f i = x := by simpa using hx
        exact (hf2 i).2 hil
      · rw [List.getElem?_eq_none (by simpa using hil)] at hx
        cases hx
end
structure NB (w : World) (x : Op3) (W : World) : Prop where
  bel : Below w.heap.size w W
  box : W.heap[w.heap.size]? = some (.cells #[.int .i64 x.k, .int .i64 x.n, .int .i64 x.p] 58 (0, 0))
theorem NB.step {w W W' : World} {x : Op3} (h : NB w x W) (b : Below W.heap.size W W') : NB w x W' :=
  ⟨h.bel.trans (b.mono h.bel.size), blk_below h.box b (lt_of_heap h.box)⟩
theorem NB.cells {w W : World} {x : Op3} (h : NB w x W) : W.cell? ⟨w.heap.size, 0, Option.none⟩ = some (.int .i64 x.k) ∧ W.cell? ⟨w.heap.size, 1, Option.none⟩ = some (.int .i64 x.n) ∧ W.cell? ⟨w.heap.size, 2, Option.none⟩ = some (.int .i64 x.p) :=
  ⟨cell_of_blk h.box 0, cell_of_blk h.box 1, cell_of_blk h.box 2⟩
theorem NB.start (w : World) (x : Op3) : NB w x (w.alloc (.cells #[.int .i64 x.k, .int .i64 x.n, .int .i64 x.p] 58)) := ⟨(Below.refl _ _).alloc (Nat.le_refl _) _, heap_alloc_new _ _⟩
set_option maxHeartbeats 4000000 in
theorem LedgerNobody.walk {w : World} (x : Op3) (hx : x.wf) : Calls Try.prog 9 #[x.val] w fun e w' => e = .returned (.bool true) ∧ Below w.heap.size w w' := by
  obtain ⟨k, n, p⟩ := x
  unfold Op3.val
  have N := Lib.hid (NB.start w ⟨k, n, p⟩)
  have HL := Lib.hid lives_walk
  have C1 := Lib.hid open_nil
  have C2 := Lib.hid close_nil
  have C3 := Lib.hid take_nil
  have C4 := Lib.hid give_nil
  have C5 := Lib.hid grant_nil
  have C6 := Lib.hid held_nil
  have C7 := Lib.hid leftn_nil
  have C8 := Lib.hid peak_nil
  have C9 := Lib.hid total_nil
  have C10 := Lib.hid most_nil
  have C11 := Lib.hid (fun W => (accounts_nil W).mono fun e w' h => show e = .returned (.slice Option.none 0 0) ∧ Below W.heap.size W w' from ⟨h.1, by rw [h.2]; exact Below.refl _ _⟩)
  dsimp only
  clear hx
  go_enter Try.func9, Try.ntmps9
  go_wp2_with (first
    | (go_at_call 26; (with_reducible refine (C1.out _ _ _).mono ?_); rintro e w1 ⟨rfl, b1⟩; have N := Lib.hid (N.out.step b1); obtain ⟨k0, k1, k2⟩ := N.out.cells; clear b1)
    | (go_at_call 27; (with_reducible refine (C2.out _ _).mono ?_); rintro e w1 ⟨rfl, b1⟩; have N := Lib.hid (N.out.step b1); obtain ⟨k0, k1, k2⟩ := N.out.cells; clear b1)
    | (go_at_call 28; (with_reducible refine (C3.out _ _ _).mono ?_); rintro e w1 ⟨rfl, b1⟩; have N := Lib.hid (N.out.step b1); obtain ⟨k0, k1, k2⟩ := N.out.cells; clear b1)
    | (go_at_call 29; (with_reducible refine (C4.out _ _ _).mono ?_); rintro e w1 ⟨rfl, b1⟩; have N := Lib.hid (N.out.step b1); obtain ⟨k0, k1, k2⟩ := N.out.cells; clear b1)
    | (go_at_call 32; (with_reducible refine (C5.out _ _).mono ?_); rintro e w1 ⟨rfl, b1⟩; have N := Lib.hid (N.out.step b1); obtain ⟨k0, k1, k2⟩ := N.out.cells; clear b1)
    | (go_at_call 31; (with_reducible refine (C6.out _ _).mono ?_); rintro e w1 ⟨rfl, b1⟩; have N := Lib.hid (N.out.step b1); obtain ⟨k0, k1, k2⟩ := N.out.cells; clear b1)
    | (go_at_call 33; (with_reducible refine (C7.out _ _).mono ?_); rintro e w1 ⟨rfl, b1⟩; have N := Lib.hid (N.out.step b1); obtain ⟨k0, k1, k2⟩ := N.out.cells; clear b1)
    | (go_at_call 34; (with_reducible refine (C8.out _ _).mono ?_); rintro e w1 ⟨rfl, b1⟩; have N := Lib.hid (N.out.step b1); obtain ⟨k0, k1, k2⟩ := N.out.cells; clear b1)
    | (go_at_call 35; (with_reducible refine (C9.out _).mono ?_); rintro e w1 ⟨rfl, b1⟩; have N := Lib.hid (N.out.step b1); obtain ⟨k0, k1, k2⟩ := N.out.cells; clear b1)
    | (go_at_call 36; (with_reducible refine (C10.out _).mono ?_); rintro e w1 ⟨rfl, b1⟩; have N := Lib.hid (N.out.step b1); obtain ⟨k0, k1, k2⟩ := N.out.cells; clear b1)
    | (go_at_call 30; (with_reducible refine (C11.out _).mono ?_); rintro e w1 ⟨rfl, b1⟩; have N := Lib.hid (N.out.step b1); obtain ⟨k0, k1, k2⟩ := N.out.cells; clear b1)
    | (go_at_call 25; (with_reducible refine (HL.out _).mono ?_); rintro e w1 ⟨rfl, b1⟩; have N := Lib.hid (N.out.step b1); obtain ⟨k0, k1, k2⟩ := N.out.cells; clear b1))
  go_ret
  exact ⟨rfl, N.out.bel⟩
end Go.Proofs.Ytagknfjgokiidaa
