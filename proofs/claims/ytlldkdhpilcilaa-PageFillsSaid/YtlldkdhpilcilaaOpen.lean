/- What a row's reading gives. -/
import Derived.Test.YtlldkdhpilcilaaSplit
import Derived.SliceStrings
import Derived.Deep.Slices
import Derived.Deep.Fields
namespace Go.Proofs.Ytlldkdhpilcilaa
open Go.RowKit Go.ChangeShapes Go.WideShapes Go.Deep

section
variable {H : Type} {enc : TypeId × Value → H} {W : World} {base : Nat} {spare : Nat → Bool} {held : Bool}
theorem rd_ints {k : IntKind} {t e : TypeId} (ht : Try.prog.underlying t = some (.slice e)) (he : Try.prog.underlying e = some (.int k)) (hc : Try.prog.cellsOf e = 1) {fuel : Nat} {cs : List Value} {x : DataW H × List MemPlace}
    (h : DataW.trod enc Try.prog W base spare held fuel t cs = some x) : ∃ A len cap, ∃ xs : List Int, cs = [.slice A len cap] ∧ Rd1 W A len (xs.map (Value.int k)) ∧ ∀ y ∈ xs, (Lit.int k y).wf = true := by
  rcases open_ints ht he hc h with ⟨hcs, _⟩ | ⟨x, l, c, zs, hcs, _, hl, hm, hz, _, hcell, hwz⟩
  · exact ⟨none, 0, 0, [], hcs, ⟨rfl, by omega, fun h => absurd h (by omega)⟩, by simp⟩
  · have hle : l ≤ zs.length := by rw [hz]; split <;> omega
    refine ⟨_, _, _, zs.take l, hcs, ⟨by simp; omega, by simp only [maxLen] at hm; omega, fun hn => ⟨_, rfl, ?_, fun j u hu => ?_⟩⟩, fun y hy => hwz y (List.mem_of_mem_take hy)⟩
    · have := World.block_lt_of_cell? W _ (hcell 0 (by omega))
      rwa [add_block] at this
    · rw [List.getElem?_map, List.getElem?_take] at hu
      split at hu
      · rename_i hj
        rw [hcell j (by omega), List.getD_eq_getElem?_getD]
        rw [List.getElem?_eq_getElem (by omega)] at hu ⊢
        simpa using hu
      · simp at hu
theorem slice_cells {A B : Option Addr} {len cap l c : Nat} (h : (Value.slice A len cap).cells.toList = [.slice B l c]) : A = B ∧ len = l ∧ cap = c := by
  simpa [Value.cells] using h
theorem open_SInt {A : Option Addr} {len cap : Nat} {d : DataW H} {ps : List MemPlace} (h : DataW.Trod enc Try.prog W base spare held 39 (.slice A len cap) d ps) : ∃ xs : List Int, Rd1 W A len (xs.map (Value.int .i64)) := by
  obtain ⟨fuel, hf⟩ := h
  obtain ⟨B, l, c, xs, e, hr, _⟩ := rd_ints Try.underlying39 Try.underlying3 (by kernel_rfl) hf
  obtain ⟨rfl, rfl, rfl⟩ := slice_cells e
  exact ⟨xs, hr⟩
theorem open_SByte {A : Option Addr} {len cap : Nat} {d : DataW H} {ps : List MemPlace} (h : DataW.Trod enc Try.prog W base spare held 23 (.slice A len cap) d ps) : ∃ xs : List Int, Rd1 W A len (xs.map (Value.int .u8)) ∧ ∀ y ∈ xs, (Lit.int .u8 y).wf = true := by
  obtain ⟨fuel, hf⟩ := h
  obtain ⟨B, l, c, xs, e, hr, hw⟩ := rd_ints Try.underlying23 Try.underlying5 (by kernel_rfl) hf
  obtain ⟨rfl, rfl, rfl⟩ := slice_cells e
  exact ⟨xs, hr, hw⟩
theorem len3 {α : Type} : ∀ {cs : List α}, cs.length = 3 → ∃ a b c, cs = [a, b, c]
  | [a, b, c], _ => ⟨a, b, c, rfl⟩
theorem triple_cells {t : TypeId} (f0 f1 f2 : Field) (hu : Try.prog.underlying t = some (.struct #[f0, f1, f2])) (hone : oneCellFields Try.prog #[f0, f1, f2] = true) (h0 : Try.prog.underlying f0.type = some (.int .i64)) (h1 : Try.prog.underlying f1.type = some (.int .i64)) (h2 : Try.prog.underlying f2.type = some .string) (hC : Try.prog.cellsOf t = 3) {n : Nat} {cs : List Value} {y : DataW H × List MemPlace}
    (h : DataW.trod enc Try.prog W base spare held n t cs = some y) : ∃ v : V, cs = [.int .i64 v.k, .int .i64 v.n, .string v.s] ∧ v.s.size ≤ maxLen := by
  obtain ⟨ys, m, _, _, hlen, hyl, hf⟩ := DataW.trod_struct hu h
  obtain ⟨o0, k0⟩ := hone_of hone 0 f0 rfl
  obtain ⟨o1, k1⟩ := hone_of hone 1 f1 rfl
  obtain ⟨o2, k2⟩ := hone_of hone 2 f2 rfl
  obtain ⟨c0, c1, c2, rfl⟩ := len3 (hlen.trans hC)
  obtain ⟨y0, y1, y2, rfl⟩ := len3 hyl
  have e0 := hf 0 f0 rfl
  have e1 := hf 1 f1 rfl
  have e2 := hf 2 f2 rfl
  rw [o0, k0] at e0
  rw [o1, k1] at e1
  rw [o2, k2] at e2
  obtain ⟨a, ea, _, _⟩ := DataW.trod_int h0 (by simpa using e0)
  obtain ⟨b, eb, _, _⟩ := DataW.trod_int h1 (by simpa using e1)
  obtain ⟨s, es, _, hs⟩ := DataW.trod_string h2 (by simpa using e2)
  simp at ea eb es
  exact ⟨⟨a, b, s⟩, by rw [ea, eb, es], hs⟩
theorem val_cells {n : Nat} {cs : List Value} {y : DataW H × List MemPlace} (h : DataW.trod enc Try.prog W base spare held n 76 cs = some y) : ∃ v : V, cs = [.int .i64 v.k, .int .i64 v.n, .string v.s] ∧ v.s.size ≤ maxLen :=
  triple_cells _ _ _ Try.underlying76 (by kernel_rfl) Try.underlying3 Try.underlying3 Try.underlying9 (by kernel_rfl) h
theorem rd_row {fuel : Nat} {cs : List Value} {x : DataW H × List MemPlace} (h : DataW.trod enc Try.prog W base spare held fuel 24 cs = some x) : ∃ A len cap r, cs = [.slice A len cap] ∧ RdV W A len r := by
  rcases open_slice Try.underlying24 h with ⟨hcs, _⟩ | ⟨a, l, c, m, n, D, Pl, hcs, hb, hl, hm, hmm, hx, hi⟩
  · exact ⟨none, 0, 0, [], hcs, RdV.nil _⟩
  · have hC : Try.prog.cellsOf 76 = 3 := by kernel_rfl
    have hlm : l ≤ m := by rw [hmm]; split <;> omega
    have hex : ∀ i, ∃ v : V, (i < l → V.at_ W (a.add (i * 3)) v) ∧ v.s.size ≤ maxLen := fun i => by
      by_cases hil : i < l
      · obtain ⟨cs', hc, ht'⟩ := hi i (by omega)
        rw [hC] at hc
        obtain ⟨v, rfl, hs⟩ := val_cells ht'
        obtain ⟨_, _, hat⟩ := World.cells?_some hc
        have h0 := hat 0 (by omega)
        have h1 := hat 1 (by omega)
        have h2 := hat 2 (by omega)
        refine ⟨v, fun _ => ⟨?_, ?_, ?_⟩, hs⟩
        · simpa [Addr.add] using h0
        · have e : (a.add (i * 3)).add 1 = ⟨(a.add (i * 3)).block, (a.add (i * 3)).off + 1, none⟩ := rfl
          rw [e] at h1; simpa using h1
        · have e : (a.add (i * 3)).add 2 = ⟨(a.add (i * 3)).block, (a.add (i * 3)).off + 2, none⟩ := rfl
          rw [e] at h2; simpa using h2
      · exact ⟨dV, fun h => absurd h hil, Nat.zero_le _⟩
    obtain ⟨f, hf⟩ := Classical.axiomOfChoice hex
    refine ⟨_, l, c, (List.range l).map f, hcs, by simp, by simp only [maxLen] at hm; omega, fun hn => ⟨a, rfl, ?_, fun i v hv => ?_⟩, ?_⟩
    · have := World.block_lt_of_cell? W _ ((hf 0).1 hn).1
      rwa [add_block] at this
    · rw [List.getElem?_map] at hv
      by_cases hil : i < l
      · rw [List.getElem?_range hil] at hv
        obtain rfl : f i = v := by simpa using hv
        exact (hf i).1 hil
      · rw [List.getElem?_eq_none (by simpa using hil)] at hv
        cases hv
    · intro v hv
      obtain ⟨i, _, rfl⟩ := List.mem_map.1 hv
      exact (hf i).2
theorem open_SValue {A : Option Addr} {len cap : Nat} {d : DataW H} {ps : List MemPlace} (h : DataW.Trod enc Try.prog W base spare held 24 (.slice A len cap) d ps) : ∃ r, RdV W A len r := by
  obtain ⟨fuel, hf⟩ := h
  obtain ⟨B, l, c, r, e, hr⟩ := rd_row hf
  obtain ⟨rfl, rfl, rfl⟩ := slice_cells e
  exact ⟨r, hr⟩
end
end Go.Proofs.Ytlldkdhpilcilaa
