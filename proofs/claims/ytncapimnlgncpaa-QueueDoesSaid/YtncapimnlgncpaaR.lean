/- What comes in; the document's queue. -/
import Derived.Test.YtncapimnlgncpaaProg
import Derived.Test.YtncapimnlgncpaaOwn
import Derived.ChangeShapes
import Derived.SliceStrings
import Derived.Deep.QuietTactic
import Derived.BigQuiet
import Derived.Outline
import Derived.Lib.Hide
import Derived.KernelRfl
namespace Go.Proofs.Ytncapimnlgncpaa
open Go.RowKit

/-- A slice of one-cell elements that is read. -/
def Rd1 (w : World) (A : Option Addr) (n : Nat) (xs : List Value) : Prop :=
  xs.length = n ∧ n ≤ 9223372036854775807 ∧ (0 < n → ∃ ad, A = some ad ∧ ad.block < w.heap.size ∧ ∀ j u, xs[j]? = some u → w.cell? (ad.add j) = some u)
theorem add_block (a : Addr) (n : Nat) : (a.add n).block = a.block := by unfold Addr.add; split <;> rfl
theorem Rd1.below {w w' : World} {A : Option Addr} {n : Nat} {xs : List Value} (h : Rd1 w A n xs) (hb : Below w.heap.size w w') : Rd1 w' A n xs :=
  ⟨h.1, h.2.1, fun hn => by
    obtain ⟨ad, e, hlt, hc⟩ := h.2.2 hn
    exact ⟨ad, e, Nat.lt_of_lt_of_le hlt hb.size, fun j u hu => (hb.cell (by rw [add_block]; exact hlt)).trans (hc j u hu)⟩⟩
theorem Rd1.turn {S : Nat → Prop} {w w' : World} {A : Option Addr} {n : Nat} {xs : List Value} (h : Rd1 w A n xs) (ht : Turn S w w') (hs : ∀ ad, A = some ad → ¬ S ad.block) : Rd1 w' A n xs :=
  ⟨h.1, h.2.1, fun hn => by
    obtain ⟨ad, e, hlt, hc⟩ := h.2.2 hn
    exact ⟨ad, e, Nat.lt_of_lt_of_le hlt ht.size, fun j u hu => (World.cell?_of_block (ht.block _ (by rw [add_block]; exact hlt) (by rw [add_block]; exact hs ad e))).trans (hc j u hu)⟩⟩
theorem Rd1.of_own {w : World} {base : Nat} {e : TypeId} {A : Option Addr} {n m c : Nat} {xs : List Value} (h : w.ownsRow base e 1 (.slice A m c) n xs) : m = n ∧ Rd1 w A n xs := by
  have hl : xs.length = n := by simpa using h.1
  rcases h.2 with ⟨e, rfl⟩ | ⟨g, cap, cur, e, hb, hg, hnc, hm, _⟩
  · injection e with e1 e2
    exact ⟨e2, hl, by omega, fun h => absurd h (by omega)⟩
  · injection e with e1 e2
    subst e1
    refine ⟨e2, hl, by simp only [maxLen] at hm; omega, fun hn => ⟨_, rfl, lt_of_heap hg, h.cells (g := g) rfl⟩⟩
theorem Rd1.at_ {w : World} {A : Option Addr} {n : Nat} {xs : List Value} (h : Rd1 w A n xs) {k : Nat} (hk : k < n) : ∃ ad, A = some ad ∧ w.cell? (ad.add k) = xs[k]? := by
  obtain ⟨ad, e, _, hc⟩ := h.2.2 (by omega)
  have hl : k < xs.length := by have := h.1; omega
  exact ⟨ad, e, by rw [List.getElem?_eq_getElem hl]; exact hc k _ (List.getElem?_eq_getElem hl)⟩
theorem Rd1.at2 {w : World} {A : Option Addr} {n : Nat} {xs : List Value} (h : Rd1 w A n xs) {k : Nat} (hk : k < n) : ∃ ad, A = some ad ∧ ad.block < w.heap.size ∧ w.cell? (ad.add k) = xs[k]? := by
  obtain ⟨ad, e, hb, hc⟩ := h.2.2 (by omega)
  have hl : k < xs.length := by have := h.1; omega
  exact ⟨ad, e, hb, by rw [List.getElem?_eq_getElem hl]; exact hc k _ (List.getElem?_eq_getElem hl)⟩
theorem cell_turn {S : Nat → Prop} {w w' : World} {a : Addr} {v : Value} (h : w.cell? a = some v) (ht : Turn S w w') (hs : ¬ S a.block) : w'.cell? a = some v :=
  (World.cell?_of_block (ht.block _ (World.block_lt_of_cell? w a h) hs)).trans h
theorem cell_belowv {B : Nat} {w w' : World} {a : Addr} {v : Value} (h : w.cell? a = some v) (hb : Below B w w') (hs : a.block < B) : w'.cell? a = some v := (hb.cell hs).trans h

section
open Go.ChangeShapes
variable {H : Type} {enc : TypeId × Value → H} {W : World} {base : Nat} {spare : Nat → Bool} {held : Bool}
theorem open_SInt {A : Option Addr} {len cap : Nat} {d : DataW H} {ps : List MemPlace} (h : DataW.Trod enc Try.prog W base spare held 22 (.slice A len cap) d ps) : ∃ xs : List Int, Rd1 W A len (xs.map (Value.int .i64)) := by
  obtain ⟨fuel, hf⟩ := h
  rcases open_ints Try.underlying22 Try.underlying3 (by kernel_rfl) hf with ⟨hcs, _⟩ | ⟨x, l, c, zs, hcs, _, hl, hm, hz, _, hcell, hwz⟩
  · simp [Value.cells] at hcs
    obtain ⟨rfl, rfl, rfl⟩ := hcs
    exact ⟨[], rfl, by omega, fun h => absurd h (by omega)⟩
  · simp [Value.cells] at hcs
    obtain ⟨rfl, rfl, rfl⟩ := hcs
    have hle : len ≤ zs.length := by rw [hz]; split <;> omega
    refine ⟨zs.take len, by simp; omega, by simp only [maxLen] at hm; omega, fun hn => ⟨_, rfl, ?_, fun j u hu => ?_⟩⟩
    · have := World.block_lt_of_cell? W _ (hcell 0 (by omega))
      rwa [add_block] at this
    · rw [List.getElem?_map, List.getElem?_take] at hu
      split at hu
      · rename_i hj
        rw [hcell j (by omega), List.getD_eq_getElem?_getD]
        rw [List.getElem?_eq_getElem (by omega)] at hu ⊢
        simpa using hu
      · simp at hu
theorem open_SStr {A : Option Addr} {len cap : Nat} {d : DataW H} {ps : List MemPlace} (h : DataW.Trod enc Try.prog W base spare held 43 (.slice A len cap) d ps) : ∃ xs : List ByteArray, Rd1 W A len (xs.map Value.string) := by
  obtain ⟨fuel, hf⟩ := h
  rcases open_strings Try.underlying43 Try.underlying9 (by kernel_rfl) hf with ⟨hcs, _⟩ | ⟨x, l, c, zs, hcs, _, hl, hm, hz, _, hcell, hwz⟩
  · simp [Value.cells] at hcs
    obtain ⟨rfl, rfl, rfl⟩ := hcs
    exact ⟨[], rfl, by omega, fun h => absurd h (by omega)⟩
  · simp [Value.cells] at hcs
    obtain ⟨rfl, rfl, rfl⟩ := hcs
    have hle : len ≤ zs.length := by rw [hz]; split <;> omega
    refine ⟨zs.take len, by simp; omega, by simp only [maxLen] at hm; omega, fun hn => ⟨_, rfl, ?_, fun j u hu => ?_⟩⟩
    · have := World.block_lt_of_cell? W _ (hcell 0 (by omega))
      rwa [add_block] at this
    · rw [List.getElem?_map, List.getElem?_take] at hu
      split at hu
      · rename_i hj
        rw [hcell j (by omega), List.getD_eq_getElem?_getD]
        rw [List.getElem?_eq_getElem (by omega)] at hu ⊢
        simpa using hu
      · simp at hu
end

theorem getD_map {α β : Type} {f : α → β} {xs : List α} (d : α) {k : Nat} (h : k < xs.length) : (xs.map f)[k]? = some (f (xs.getD k d)) := by
  rw [List.getElem?_map, List.getElem?_eq_getElem h, List.getD_eq_getElem?_getD, List.getElem?_eq_getElem h]
  rfl
theorem take_snoc {α : Type} (xs : List α) (d : α) {k : Nat} (h : k < xs.length) : xs.take (k + 1) = xs.take k ++ [xs.getD k d] := by
  rw [List.take_succ_eq_append_getElem h, List.getD_eq_getElem?_getD, List.getElem?_eq_getElem h]
  rfl
theorem drop_cons {α : Type} (xs : List α) (d : α) {k : Nat} (h : k < xs.length) : xs.drop k = xs.getD k d :: xs.drop (k + 1) := by
  rw [List.drop_eq_getElem_cons h, List.getD_eq_getElem?_getD, List.getElem?_eq_getElem h]
  rfl

/-! ### Same -/
theorem same_walk {w : World} {A B : Option Addr} {n m c d : Nat} (xs ys : List Int) (ha : Rd1 w A n (xs.map (Value.int .i64))) (hb : Rd1 w B m (ys.map (Value.int .i64))) :
    Calls Try.prog 12 #[.slice A n c, .slice B m d] w fun e w' => e = .returned (.bool (decide (xs = ys))) ∧ ∃ k, w' = w.drewN k := by
  have hn : xs.length = n := by simpa using ha.1
  have hm : ys.length = m := by simpa using hb.1
  have hn' := ha.2.1
  have hm' := hb.2.1
  by_cases hnm : n = m
  case neg =>
    have hf : decide (xs = ys) = false := by
      rw [decide_eq_false_iff_not]
      rintro rfl
      omega
    have H := Lib.hid hf
    have ht : ((n : Int) != (m : Int)) = true := by rw [bne_iff_ne]; omega
    clear hf ha hb hn hm
    go_enter Try.func12, Try.ntmps12
    go_wp2
    go_ret
    exact ⟨by rw [H.out]; rfl, 0, rfl⟩
  case pos =>
    subst hnm
    go_enter Try.func12, Try.ntmps12
    go_wp2
    go_loopw [5] (fun i wr => ∃ k : Nat, k ≤ n ∧ i = .int .i64 k ∧ xs.take k = ys.take k ∧ ∃ j, wr = w.drewN j) (fun i _ => n - (intOf i).toNat)
    case atStart => exact ⟨0, Nat.zero_le _, rfl, by simp, 0, rfl⟩
    case round =>
      obtain ⟨k, hk, rfl, heq, j, rfl⟩ := hrel
      have HE := Lib.hid heq
      clear heq
      by_cases hlt : k < n
      · obtain ⟨a1, rfl, h1⟩ := ha.at_ hlt
        obtain ⟨b1, rfl, h2⟩ := hb.at_ hlt
        rw [getD_map (xs := xs) 0 (by omega)] at h1
        rw [getD_map (xs := ys) 0 (by omega)] at h2
        obtain ⟨x, hx⟩ : ∃ x, x = xs.getD k 0 := ⟨_, rfl⟩
        obtain ⟨y, hy⟩ : ∃ y, y = ys.getD k 0 := ⟨_, rfl⟩
        rw [← hx] at h1
        rw [← hy] at h2
        have HX := Lib.hid hx
        have HY := Lib.hid hy
        have hn0 := Lib.hid hn
        have hm0 := Lib.hid hm
        clear ha hb hx hy hn hm
        by_cases hxy : x = y
        · subst hxy
          go_wp2
          go_quiet (fail)
          go_wp2
          go_roundw
          case rel =>
            refine ⟨k + 1, by omega, by go_num, ?_, _, rfl⟩
            rw [take_snoc xs 0 (by have := hn0.out; omega), take_snoc ys 0 (by have := hm0.out; omega), HE.out, ← HX.out, ← HY.out]
          case measure => simp [intOf]; omega
        · have hne : (!x == y) = true := by simpa using hxy
          have hff : decide (xs = ys) = false := by
            rw [decide_eq_false_iff_not]
            rintro rfl
            exact hxy (HX.out.trans HY.out.symm)
          have HF := Lib.hid hff
          clear hff
          go_wp2
          go_quiet (fail)
          go_wp2
          go_ret
          exact ⟨by rw [HF.out]; rfl, _, World.drewN_drewN ..⟩
      · have hff : decide (xs = ys) = true := by
          rw [decide_eq_true_iff]
          have := HE.out
          rwa [List.take_of_length_le (by omega), List.take_of_length_le (by omega)] at this
        have HF := Lib.hid hff
        clear hff ha hb hn hm
        go_wp2
        go_ret
        exact ⟨by rw [HF.out]; rfl, _, rfl⟩
theorem same_true {w : World} {A B : Option Addr} {n m c d : Nat} (xs ys : List Int) (ha : Rd1 w A n (xs.map (Value.int .i64))) (hb : Rd1 w B m (ys.map (Value.int .i64))) (he : xs = ys) :
    Calls Try.prog 12 #[.slice A n c, .slice B m d] w fun e w' => e = .returned (.bool true) ∧ ∃ k, w' = w.drewN k :=
  (same_walk xs ys ha hb).mono fun e w' ⟨h, k⟩ => ⟨by rw [h, he]; simp, k⟩
end Go.Proofs.Ytncapimnlgncpaa
