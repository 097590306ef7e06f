/- What comes in to the disk's laws. -/
import Derived.Test.YtagknfjgokiidaaDX
import Derived.SliceStrings
import Derived.Deep.Slices
import Derived.Deep.Fields
import Derived.ChangeArms
namespace Go.Proofs.Ytagknfjgokiidaa
open Go.RowKit Go.ChangeShapes Go.WideShapes Go.Deep
set_option linter.unusedVariables false
set_option linter.unusedSimpArgs false

structure Op4 where
  k : Int
  f : Int
  i : Int
  A : Option Addr
  n : Nat
  c : Nat
  p : List Int
structure Op4.wf (w : World) (x : Op4) : Prop where
  k : (Lit.int .i64 x.k).wf = true
  f : (Lit.int .i64 x.f).wf = true
  i : (Lit.int .i64 x.i).wf = true
  rd : RdBy w x.A x.n x.p
  b : ∀ y ∈ x.p, 0 ≤ y ∧ y ≤ 255
  n : x.n ≤ 9223372036854775807
def Op4.val (x : Op4) : Value := .agg #[.int .i64 x.k, .int .i64 x.f, .int .i64 x.i, .slice x.A x.n x.c]
section
variable {H : Type} {enc : TypeId × Value → H} {W : World} {base : Nat} {spare : Nat → Bool} {held : Bool}
theorem u8_bd {y : Int} (h : (Lit.int .u8 y).wf = true) : 0 ≤ y ∧ y ≤ 255 := by
  simp [Lit.wf, IntKind.min, IntKind.max, IntKind.bits, IntKind.signed] at h
  omega
theorem dr_ints {k : IntKind} {t e : TypeId} (ht : Try.prog.underlying t = some (.slice e)) (he : Try.prog.underlying e = some (.int k)) (hc : Try.prog.cellsOf e = 1) {fuel : Nat} {cs : List Value} {x : DataW H × List MemPlace}
    (h : DataW.trod enc Try.prog W base spare held fuel t cs = some x) : ∃ A len cap, ∃ xs : List Int, cs = [.slice A len cap] ∧ xs.length = len ∧ len ≤ 9223372036854775807 ∧ (∀ y ∈ xs, (Lit.int k y).wf = true) ∧ (0 < len → ∃ ad, A = some ad ∧ ad.block < W.heap.size ∧ ∀ j u, (xs.map (Value.int k))[j]? = some u → W.cell? (ad.add j) = some u) := by
  rcases open_ints ht he hc h with ⟨hcs, _⟩ | ⟨x, l, c, zs, hcs, _, hl, hm, hz, _, hcell, hwz⟩
  · exact ⟨none, 0, 0, [], hcs, rfl, by omega, by simp, fun h => absurd h (by omega)⟩
  · have hle : l ≤ zs.length := by rw [hz]; split <;> omega
    refine ⟨_, _, _, zs.take l, hcs, by simp; omega, by simp only [maxLen] at hm; omega, fun y hy => hwz y (List.mem_of_mem_take hy), fun hn => ⟨_, rfl, ?_, fun j u hu => ?_⟩⟩
    · have := World.block_lt_of_cell? W _ (hcell 0 (by omega))
      rwa [add_blk] at this
    · rw [List.getElem?_map, List.getElem?_take] at hu
      split at hu
      · rename_i hj
        rw [hcell j (by omega), List.getD_eq_getElem?_getD]
        rw [List.getElem?_eq_getElem (by omega)] at hu ⊢
        simpa using hu
      · simp at hu
theorem slc_cells {A B : Option Addr} {len cap l c : Nat} (h : (Value.slice A len cap).cells.toList = [.slice B l c]) : A = B ∧ len = l ∧ cap = c := by
  simpa [Value.cells] using h
theorem open_SInt {A : Option Addr} {len cap : Nat} {d : DataW H} {ps : List MemPlace} (h : DataW.Trod enc Try.prog W base spare held 22 (.slice A len cap) d ps) : ∃ xs : List Int, RdI W A len xs := by
  obtain ⟨fuel, hf⟩ := h
  obtain ⟨B, l, c, xs, e, h1, h2, h3, h4⟩ := dr_ints Try.underlying22 Try.underlying3 (by kernel_rfl) hf
  obtain ⟨rfl, rfl, rfl⟩ := slc_cells e
  refine ⟨xs, h1, h2, h3, fun hn => ?_⟩
  obtain ⟨ad, e, hb, hc⟩ := h4 hn
  exact ⟨ad, e, hb, fun j x hx => hc j _ (by rw [List.getElem?_map, hx]; rfl)⟩
theorem len4 {α : Type} : ∀ {cs : List α}, cs.length = 4 → ∃ a b c d, cs = [a, b, c, d]
  | [a, b, c, d], _ => ⟨a, b, c, d, rfl⟩
theorem quad {t : TypeId} (f0 f1 f2 f3 : Field) (hu : Try.prog.underlying t = some (.struct #[f0, f1, f2, f3])) (hone : oneCellFields Try.prog #[f0, f1, f2, f3] = true) (h0 : Try.prog.underlying f0.type = some (.int .i64)) (h1 : Try.prog.underlying f1.type = some (.int .i64)) (h2 : Try.prog.underlying f2.type = some (.int .i64)) (h3 : Try.prog.underlying f3.type = some (.slice 5)) (hC : Try.prog.cellsOf t = 4) {n : Nat} {cs : List Value} {y : DataW H × List MemPlace}
    (h : DataW.trod enc Try.prog W base spare held n t cs = some y) : ∃ x : Op4, cs = [.int .i64 x.k, .int .i64 x.f, .int .i64 x.i, .slice x.A x.n x.c] ∧ x.wf W := by
  obtain ⟨ys, m, _, _, hlen, hyl, hf⟩ := DataW.trod_struct hu h
  obtain ⟨o0, k0⟩ := hone_of hone 0 f0 rfl
  obtain ⟨o1, k1⟩ := hone_of hone 1 f1 rfl
  obtain ⟨o2, k2⟩ := hone_of hone 2 f2 rfl
  obtain ⟨o3, k3⟩ := hone_of hone 3 f3 rfl
  obtain ⟨c0, c1, c2, c3, rfl⟩ := len4 (hlen.trans hC)
  obtain ⟨y0, y1, y2, y3, rfl⟩ := len4 hyl
  have e0 := hf 0 f0 rfl
  have e1 := hf 1 f1 rfl
  have e2 := hf 2 f2 rfl
  have e3 := hf 3 f3 rfl
  rw [o0, k0] at e0
  rw [o1, k1] at e1
  rw [o2, k2] at e2
  rw [o3, k3] at e3
  obtain ⟨a, ea, _, wa⟩ := DataW.trod_int h0 (by simpa using e0)
  obtain ⟨b, eb, _, wb⟩ := DataW.trod_int h1 (by simpa using e1)
  obtain ⟨c, ec, _, wc⟩ := DataW.trod_int h2 (by simpa using e2)
  obtain ⟨A, l, cp, xs, es, g1, g2, g3, g4⟩ := dr_ints h3 Try.underlying5 (by kernel_rfl) (by simpa using e3)
  simp at ea eb ec es
  exact ⟨⟨a, b, c, A, l, cp, xs⟩, by rw [ea, eb, ec, es], wa, wb, wc, ⟨g1, fun hn => by obtain ⟨ad, e, hb, hc⟩ := g4 hn; exact ⟨ad, e, hb, hc⟩⟩, fun y hy => u8_bd (g3 y hy), g2⟩
theorem op4_cells {n : Nat} {cs : List Value} {y : DataW H × List MemPlace} (h : DataW.trod enc Try.prog W base spare held n 33 cs = some y) : ∃ x : Op4, cs = [.int .i64 x.k, .int .i64 x.f, .int .i64 x.i, .slice x.A x.n x.c] ∧ x.wf W :=
  quad _ _ _ _ Try.underlying33 (by kernel_rfl) Try.underlying3 Try.underlying3 Try.underlying3 Try.underlying31 (by kernel_rfl) h
set_option maxRecDepth 100000 in
theorem open_05Op {v : Value} {r : Reach} {b2 : Nat} {d : DataW H} {ps : List MemPlace} (hv : Value.okWide Try.prog W r b2 33 v) (h : DataW.Trod enc Try.prog W base spare held 33 v d ps) : ∃ x : Op4, x.wf W ∧ v = x.val := by
  obtain ⟨fuel, hf⟩ := h
  obtain ⟨cs, rfl, _⟩ := okWide_struct Try.underlying33 hv
  obtain ⟨x, e, hw⟩ := op4_cells hf
  refine ⟨x, hw, ?_⟩
  have : cs.toList = [.int .i64 x.k, .int .i64 x.f, .int .i64 x.i, .slice x.A x.n x.c] := e
  unfold Op4.val
  rw [← this]
/-- Many of them, read. -/
def RdO4 (w : World) (A : Option Addr) (n : Nat) (xs : List Op4) : Prop :=
  xs.length = n ∧ n ≤ 9223372036854775807 ∧ (∀ x ∈ xs, x.wf w) ∧ (0 < n → ∃ ad, A = some ad ∧ ad.block < w.heap.size ∧ ∀ i x, xs[i]? = some x → w.cell? (ad.add (i * 4)) = some (.int .i64 x.k) ∧ w.cell? ((ad.add (i * 4)).add 1) = some (.int .i64 x.f) ∧ w.cell? ((ad.add (i * 4)).add 2) = some (.int .i64 x.i) ∧ w.cell? ((ad.add (i * 4)).add 3) = some (.slice x.A x.n x.c))
theorem Op4.wf0 (w : World) : Op4.wf w ⟨0, 0, 0, none, 0, 0, []⟩ := ⟨by decide, by decide, by decide, ⟨rfl, fun h => absurd h (by simp)⟩, by simp, by simp⟩
theorem open_S05Op {A : Option Addr} {len cap : Nat} {d : DataW H} {ps : List MemPlace} (h : DataW.Trod enc Try.prog W base spare held 23 (.slice A len cap) d ps) : ∃ xs : List Op4, RdO4 W A len xs := by
  obtain ⟨fuel, hf⟩ := h
  rcases open_slice Try.underlying23 hf with ⟨hcs, _⟩ | ⟨a, l, c, m, n, D, Pl, hcs, hb, hl, hm, hmm, hx, hi⟩
  · obtain ⟨rfl, rfl, rfl⟩ := slc_cells hcs
    exact ⟨[], rfl, by omega, by simp, fun h => absurd h (by omega)⟩
  · obtain ⟨rfl, rfl, rfl⟩ := slc_cells hcs
    have hC : Try.prog.cellsOf 33 = 4 := by kernel_rfl
    have hlm : len ≤ m := by rw [hmm]; split <;> omega
    have hex : ∀ i, ∃ x : Op4, x.wf W ∧ (i < len → W.cell? (a.add (i * 4)) = some (.int .i64 x.k) ∧ W.cell? ((a.add (i * 4)).add 1) = some (.int .i64 x.f) ∧ W.cell? ((a.add (i * 4)).add 2) = some (.int .i64 x.i) ∧ W.cell? ((a.add (i * 4)).add 3) = some (.slice x.A x.n x.c)) := fun i => by
      by_cases hil : i < len
      · obtain ⟨cs', hc, ht'⟩ := hi i (by omega)
        rw [hC] at hc
        obtain ⟨x, rfl, hw⟩ := op4_cells ht'
        obtain ⟨_, _, hat⟩ := World.cells?_some hc
        have h0 := hat 0 (by omega)
        have h1 := hat 1 (by omega)
        have h2 := hat 2 (by omega)
        have h3 := hat 3 (by omega)
        refine ⟨x, hw, fun _ => ⟨?_, h1, h2, h3⟩⟩
        simpa [Addr.add] using h0
      · exact ⟨_, Op4.wf0 W, fun h => absurd h hil⟩
    obtain ⟨f, hf2⟩ := Classical.axiomOfChoice hex
    refine ⟨(List.range len).map f, by simp, by simp only [maxLen] at hm; omega, ?_, fun hn => ⟨a, rfl, ?_, fun i x hx => ?_⟩⟩
    · intro x hx
      obtain ⟨i, _, rfl⟩ := List.mem_map.1 hx
      exact (hf2 i).1
    · have := World.block_lt_of_cell? W _ ((hf2 0).2 hn).1
      rwa [add_blk] at this
    · rw [List.getElem?_map] at hx
      by_cases hil : i < len
      · rw [List.getElem?_range hil] at hx
        obtain rfl : f i = x := by simpa using hx
        exact (hf2 i).2 hil
      · rw [List.getElem?_eq_none (by simpa using hil)] at hx
        cases hx
end
theorem Op4.wf.below {w w' : World} {x : Op4} (h : x.wf w) (hb : Below w.heap.size w w') : x.wf w' := ⟨h.k, h.f, h.i, h.rd.below hb, h.b, h.n⟩
theorem RdO4.below {w w' : World} {A : Option Addr} {n : Nat} {xs : List Op4} (h : RdO4 w A n xs) (hb : Below w.heap.size w w') : RdO4 w' A n xs := by
  refine ⟨h.1, h.2.1, fun x hx => (h.2.2.1 x hx).below hb, fun hn => ?_⟩
  obtain ⟨ad, e, hlt, hc⟩ := h.2.2.2 hn
  refine ⟨ad, e, Nat.lt_of_lt_of_le hlt hb.size, fun i x hx => ?_⟩
  obtain ⟨h0, h1, h2, h3⟩ := hc i x hx
  exact ⟨(hb.cell (by rw [add_blk]; exact hlt)).trans h0, (hb.cell (by rw [add_blk, add_blk]; exact hlt)).trans h1, (hb.cell (by rw [add_blk, add_blk]; exact hlt)).trans h2, (hb.cell (by rw [add_blk, add_blk]; exact hlt)).trans h3⟩
theorem RdO4.at_ {w : World} {A : Option Addr} {n : Nat} {xs : List Op4} (h : RdO4 w A n xs) {k : Nat} (hk : k < n) : ∃ (ad : Addr) (x : Op4), xs[k]? = some x ∧ A = some ad ∧ ad.block < w.heap.size ∧ x.wf w ∧ w.cell? (ad.add (k * 4)) = some (.int .i64 x.k) ∧ w.cell? ((ad.add (k * 4)).add 1) = some (.int .i64 x.f) ∧ w.cell? ((ad.add (k * 4)).add 2) = some (.int .i64 x.i) ∧ w.cell? ((ad.add (k * 4)).add 3) = some (.slice x.A x.n x.c) := by
  obtain ⟨ad, e, hlt, hc⟩ := h.2.2.2 (by omega)
  have hl : k < xs.length := by have := h.1; omega
  have := hc k _ (List.getElem?_eq_getElem hl)
  exact ⟨ad, _, List.getElem?_eq_getElem hl, e, hlt, h.2.2.1 _ (List.getElem_mem hl), this⟩
end Go.Proofs.Ytagknfjgokiidaa
