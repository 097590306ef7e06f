/- What comes in. -/
import Derived.Test.YtlldkdhpilcilaaProg
import Derived.Test.YtlldkdhpilcilaaOwn
import Derived.ChangeShapes
import Derived.Deep.Slices
import Derived.Deep.Fields
import Derived.ChangeSame
import Derived.Deep.QuietTactic
import Derived.BigQuiet
import Derived.Outline
import Derived.Lib.Hide
import Derived.KernelRfl
import Derived.OpenShut
namespace Go.Proofs.Ytlldkdhpilcilaa
open Go.RowKit

/-- A slice of one-cell elements that is read. -/
def Rd1 (w : World) (A : Option Addr) (n : Nat) (xs : List Value) : Prop :=
  xs.length = n ∧ n ≤ 9223372036854775807 ∧ (0 < n → ∃ ad, A = some ad ∧ ad.block < w.heap.size ∧ ∀ j u, xs[j]? = some u → w.cell? (ad.add j) = some u)
theorem add_block (a : Addr) (n : Nat) : (a.add n).block = a.block := by unfold Addr.add; split <;> rfl
theorem Rd1.below {w w' : World} {A : Option Addr} {n : Nat} {xs : List Value} (h : Rd1 w A n xs) (hb : Below w.heap.size w w') : Rd1 w' A n xs :=
  ⟨h.1, h.2.1, fun hn => by
    obtain ⟨ad, e, hlt, hc⟩ := h.2.2 hn
    exact ⟨ad, e, Nat.lt_of_lt_of_le hlt hb.size, fun j u hu => (hb.cell (by rw [add_block]; exact hlt)).trans (hc j u hu)⟩⟩
theorem Rd1.turn {S : Nat → Prop} {w w' : World} {A : Option Addr} {n : Nat} {xs : List Value} (h : Rd1 w A n xs) (ht : Turn S w w') (hs : ∀ ad, A = some ad → ¬ S ad.block) : Rd1 w' A n xs :=
  ⟨h.1, h.2.1, fun hn => by
    obtain ⟨ad, e, hlt, hc⟩ := h.2.2 hn
    exact ⟨ad, e, Nat.lt_of_lt_of_le hlt ht.size, fun j u hu => (World.cell?_of_block (ht.block _ (by rw [add_block]; exact hlt) (by rw [add_block]; exact hs ad e))).trans (hc j u hu)⟩⟩
theorem Rd1.of_own {w : World} {base : Nat} {e : TypeId} {A : Option Addr} {n m c : Nat} {xs : List Value} (h : w.ownsRow base e 1 (.slice A m c) n xs) : m = n ∧ Rd1 w A n xs := by
  have hl : xs.length = n := by simpa using h.1
  rcases h.2 with ⟨e, rfl⟩ | ⟨g, cap, cur, e, hb, hg, hnc, hm, _⟩
  · injection e with e1 e2
    exact ⟨e2, hl, by omega, fun h => absurd h (by omega)⟩
  · injection e with e1 e2
    subst e1
    refine ⟨e2, hl, by simp only [maxLen] at hm; omega, fun hn => ⟨_, rfl, lt_of_heap hg, h.cells (g := g) rfl⟩⟩
theorem Rd1.at_ {w : World} {A : Option Addr} {n : Nat} {xs : List Value} (h : Rd1 w A n xs) {k : Nat} (hk : k < n) : ∃ ad, A = some ad ∧ w.cell? (ad.add k) = xs[k]? := by
  obtain ⟨ad, e, _, hc⟩ := h.2.2 (by omega)
  have hl : k < xs.length := by have := h.1; omega
  exact ⟨ad, e, by rw [List.getElem?_eq_getElem hl]; exact hc k _ (List.getElem?_eq_getElem hl)⟩
theorem Rd1.at2 {w : World} {A : Option Addr} {n : Nat} {xs : List Value} (h : Rd1 w A n xs) {k : Nat} (hk : k < n) : ∃ ad, A = some ad ∧ ad.block < w.heap.size ∧ w.cell? (ad.add k) = xs[k]? := by
  obtain ⟨ad, e, hb, hc⟩ := h.2.2 (by omega)
  have hl : k < xs.length := by have := h.1; omega
  exact ⟨ad, e, hb, by rw [List.getElem?_eq_getElem hl]; exact hc k _ (List.getElem?_eq_getElem hl)⟩
theorem cell_turn {S : Nat → Prop} {w w' : World} {a : Addr} {v : Value} (h : w.cell? a = some v) (ht : Turn S w w') (hs : ¬ S a.block) : w'.cell? a = some v :=
  (World.cell?_of_block (ht.block _ (World.block_lt_of_cell? w a h) hs)).trans h
theorem cell_belowv {B : Nat} {w w' : World} {a : Addr} {v : Value} (h : w.cell? a = some v) (hb : Below B w w') (hs : a.block < B) : w'.cell? a = some v := (hb.cell hs).trans h

theorem getD_map {α β : Type} {f : α → β} {xs : List α} (d : α) {k : Nat} (h : k < xs.length) : (xs.map f)[k]? = some (f (xs.getD k d)) := by
  rw [List.getElem?_map, List.getElem?_eq_getElem h, List.getD_eq_getElem?_getD, List.getElem?_eq_getElem h]
  rfl
theorem take_snoc {α : Type} (xs : List α) (d : α) {k : Nat} (h : k < xs.length) : xs.take (k + 1) = xs.take k ++ [xs.getD k d] := by
  rw [List.take_succ_eq_append_getElem h, List.getD_eq_getElem?_getD, List.getElem?_eq_getElem h]
  rfl
theorem drop_cons {α : Type} (xs : List α) (d : α) {k : Nat} (h : k < xs.length) : xs.drop k = xs.getD k d :: xs.drop (k + 1) := by
  rw [List.drop_eq_getElem_cons h, List.getD_eq_getElem?_getD, List.getElem?_eq_getElem h]
  rfl


/-- A value. -/
structure V where
  k : Int
  n : Int
  s : ByteArray
def V.val (v : V) : Value := .agg #[.int .i64 v.k, .int .i64 v.n, .string v.s]
/-- It lies at an address, as the walk spells it. -/
def V.at_ (w : World) (a : Addr) (v : V) : Prop :=
  w.cell? a = some (.int .i64 v.k) ∧ w.cell? ⟨a.block, a.off + 1, none⟩ = some (.int .i64 v.n) ∧ w.cell? ⟨a.block, a.off + 2, none⟩ = some (.string v.s)
/-- A row that is read. -/
structure RdV (w : World) (A : Option Addr) (n : Nat) (r : List V) : Prop where
  len : r.length = n
  max : n ≤ 9223372036854775807
  cells : 0 < n → ∃ ad, A = some ad ∧ ad.block < w.heap.size ∧ ∀ i v, r[i]? = some v → V.at_ w (ad.add (i * 3)) v
  str : ∀ v ∈ r, v.s.size ≤ 9223372036854775807
theorem V.at_.below {w w' : World} {a : Addr} {v : V} {B : Nat} (h : V.at_ w a v) (hb : Below B w w') (ha : a.block < B) : V.at_ w' a v :=
  ⟨(hb.cell ha).trans h.1, (hb.cell (p := ⟨a.block, a.off + 1, none⟩) ha).trans h.2.1, (hb.cell (p := ⟨a.block, a.off + 2, none⟩) ha).trans h.2.2⟩
theorem V.at_.turn {S : Nat → Prop} {w w' : World} {a : Addr} {v : V} (h : V.at_ w a v) (ht : Turn S w w') (hs : ¬ S a.block) : V.at_ w' a v :=
  ⟨cell_turn h.1 ht hs, cell_turn h.2.1 ht hs, cell_turn h.2.2 ht hs⟩
theorem RdV.below {w w' : World} {A : Option Addr} {n : Nat} {r : List V} (h : RdV w A n r) (hb : Below w.heap.size w w') : RdV w' A n r :=
  ⟨h.len, h.max, fun hn => by
    obtain ⟨ad, e, hlt, hc⟩ := h.cells hn
    exact ⟨ad, e, Nat.lt_of_lt_of_le hlt hb.size, fun i v hv => (hc i v hv).below hb (by rw [add_block]; exact hlt)⟩, h.str⟩
theorem RdV.turn {S : Nat → Prop} {w w' : World} {A : Option Addr} {n : Nat} {r : List V} (h : RdV w A n r) (ht : Turn S w w') (hs : ∀ ad, A = some ad → ¬ S ad.block) : RdV w' A n r :=
  ⟨h.len, h.max, fun hn => by
    obtain ⟨ad, e, hlt, hc⟩ := h.cells hn
    exact ⟨ad, e, Nat.lt_of_lt_of_le hlt ht.size, fun i v hv => (hc i v hv).turn ht (by rw [add_block]; exact hs ad e)⟩, h.str⟩
/-- Element k, in a later world. -/
theorem RdV.at_ {w wr : World} {A : Option Addr} {n : Nat} {r : List V} (h : RdV w A n r) (hb : Below w.heap.size w wr) {k : Nat} (hk : k < n) : ∃ ad v, A = some ad ∧ ad.block < w.heap.size ∧ r[k]? = some v ∧ v.s.size ≤ 9223372036854775807 ∧
    wr.cell? (ad.add (k * 3)) = some (.int .i64 v.k) ∧ wr.cell? ⟨(ad.add (k * 3)).block, (ad.add (k * 3)).off + 1, none⟩ = some (.int .i64 v.n) ∧ wr.cell? ⟨(ad.add (k * 3)).block, (ad.add (k * 3)).off + 2, none⟩ = some (.string v.s) := by
  obtain ⟨ad, e, hlt, hc⟩ := h.cells (by omega)
  have hl : k < r.length := by have := h.len; omega
  have h1 := (hc k _ (List.getElem?_eq_getElem hl)).below hb (by rw [add_block]; exact hlt)
  exact ⟨ad, _, e, hlt, List.getElem?_eq_getElem hl, h.str _ (List.getElem_mem hl), h1.1, h1.2.1, h1.2.2⟩
theorem RdV.nil (w : World) : RdV w none 0 [] := ⟨rfl, by omega, fun h => absurd h (by omega), by simp⟩
theorem all_take {r : List V} {p : V → Bool} {k : Nat} {v : V} (h : r[k]? = some v) : (r.take (k + 1)).all p = ((r.take k).all p && p v) := by
  obtain ⟨hl, e⟩ := List.getElem?_eq_some_iff.1 h
  rw [List.take_succ_eq_append_getElem hl, e, List.all_append]
  simp
theorem all_false {r : List V} {p : V → Bool} {k : Nat} {v : V} (h : r[k]? = some v) (hp : p v = false) : r.all p = false := by
  obtain ⟨hl, e⟩ := List.getElem?_eq_some_iff.1 h
  rw [List.all_eq_false]
  exact ⟨v, e ▸ List.getElem_mem hl, by simp [hp]⟩

/-- May a value be? -/
def vOk (v : V) : Bool := decide ((v.k = 0 ∧ v.n = 0 ∧ v.s.size = 0) ∨ (v.k = 1 ∧ (v.n = 0 ∨ v.n = 1) ∧ v.s.size = 0) ∨ (v.k = 2 ∧ -9007199254740991 ≤ v.n ∧ v.n ≤ 9007199254740991 ∧ v.s.size = 0) ∨ (v.k = 3 ∧ v.n = 0 ∧ v.s.size ≤ 64))
def rowOk (r : List V) : Bool := decide (r.length ≤ 32) && r.all vOk
end Go.Proofs.Ytlldkdhpilcilaa
