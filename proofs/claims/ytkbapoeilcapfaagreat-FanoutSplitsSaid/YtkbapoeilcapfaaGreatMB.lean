/- Values and rows, their bytes, their checks, their parts. -/
import Derived.Test.YtkbapoeilcapfaaGreatProg
import Derived.Test.YtkbapoeilcapfaaGreatMA
import Derived.ChangeShapes
import Derived.Deep.Slices
import Derived.Deep.Fields
import Derived.ChangeSame
import Derived.Deep.QuietTactic
import Derived.BigQuiet
import Derived.Outline
import Derived.Lib.Hide
import Derived.KernelRfl
import Derived.OpenShut
import Derived.WalkLawsBesides
import Derived.Laws.StructEq
import Derived.Lib.AppendStr
import Derived.Deep.RegionLaw
/- What comes in. -/
namespace Go.Proofs.YtkbapoeilcapfaaGreat
open Go.RowKit

/-- A slice of one-cell elements that is read. -/
def Rd1 (w : World) (A : Option Addr) (n : Nat) (xs : List Value) : Prop :=
  xs.length = n ∧ n ≤ 9223372036854775807 ∧ (0 < n → ∃ ad, A = some ad ∧ ad.block < w.heap.size ∧ ∀ j u, xs[j]? = some u → w.cell? (ad.add j) = some u)
theorem add_block (a : Addr) (n : Nat) : (a.add n).block = a.block := by unfold Addr.add; split <;> rfl
theorem Rd1.below {w w' : World} {A : Option Addr} {n : Nat} {xs : List Value} (h : Rd1 w A n xs) (hb : Below w.heap.size w w') : Rd1 w' A n xs :=
  ⟨h.1, h.2.1, fun hn => by
    obtain ⟨ad, e, hlt, hc⟩ := h.2.2 hn
    exact ⟨ad, e, Nat.lt_of_lt_of_le hlt hb.size, fun j u hu => (hb.cell (by rw [add_block]; exact hlt)).trans (hc j u hu)⟩⟩
theorem Rd1.turn {S : Nat → Prop} {w w' : World} {A : Option Addr} {n : Nat} {xs : List Value} (h : Rd1 w A n xs) (ht : Turn S w w') (hs : ∀ ad, A = some ad → ¬ S ad.block) : Rd1 w' A n xs :=
  ⟨h.1, h.2.1, fun hn => by
    obtain ⟨ad, e, hlt, hc⟩ := h.2.2 hn
    exact ⟨ad, e, Nat.lt_of_lt_of_le hlt ht.size, fun j u hu => (World.cell?_of_block (ht.block _ (by rw [add_block]; exact hlt) (by rw [add_block]; exact hs ad e))).trans (hc j u hu)⟩⟩
theorem Rd1.of_own {w : World} {base : Nat} {e : TypeId} {A : Option Addr} {n m c : Nat} {xs : List Value} (h : w.ownsRow base e 1 (.slice A m c) n xs) : m = n ∧ Rd1 w A n xs := by
  have hl : xs.length = n := by simpa using h.1
  rcases h.2 with ⟨e, rfl⟩ | ⟨g, cap, cur, e, hb, hg, hnc, hm, _⟩
  · injection e with e1 e2
    exact ⟨e2, hl, by omega, fun h => absurd h (by omega)⟩
  · injection e with e1 e2
    subst e1
    refine ⟨e2, hl, by simp only [maxLen] at hm; omega, fun hn => ⟨_, rfl, lt_of_heap hg, h.cells (g := g) rfl⟩⟩
theorem Rd1.at_ {w : World} {A : Option Addr} {n : Nat} {xs : List Value} (h : Rd1 w A n xs) {k : Nat} (hk : k < n) : ∃ ad, A = some ad ∧ w.cell? (ad.add k) = xs[k]? := by
  obtain ⟨ad, e, _, hc⟩ := h.2.2 (by omega)
  have hl : k < xs.length := by have := h.1; omega
  exact ⟨ad, e, by rw [List.getElem?_eq_getElem hl]; exact hc k _ (List.getElem?_eq_getElem hl)⟩
theorem Rd1.at2 {w : World} {A : Option Addr} {n : Nat} {xs : List Value} (h : Rd1 w A n xs) {k : Nat} (hk : k < n) : ∃ ad, A = some ad ∧ ad.block < w.heap.size ∧ w.cell? (ad.add k) = xs[k]? := by
  obtain ⟨ad, e, hb, hc⟩ := h.2.2 (by omega)
  have hl : k < xs.length := by have := h.1; omega
  exact ⟨ad, e, hb, by rw [List.getElem?_eq_getElem hl]; exact hc k _ (List.getElem?_eq_getElem hl)⟩
theorem cell_turn {S : Nat → Prop} {w w' : World} {a : Addr} {v : Value} (h : w.cell? a = some v) (ht : Turn S w w') (hs : ¬ S a.block) : w'.cell? a = some v :=
  (World.cell?_of_block (ht.block _ (World.block_lt_of_cell? w a h) hs)).trans h
theorem cell_belowv {B : Nat} {w w' : World} {a : Addr} {v : Value} (h : w.cell? a = some v) (hb : Below B w w') (hs : a.block < B) : w'.cell? a = some v := (hb.cell hs).trans h

theorem getD_map {α β : Type} {f : α → β} {xs : List α} (d : α) {k : Nat} (h : k < xs.length) : (xs.map f)[k]? = some (f (xs.getD k d)) := by
  rw [List.getElem?_map, List.getElem?_eq_getElem h, List.getD_eq_getElem?_getD, List.getElem?_eq_getElem h]
  rfl
theorem take_snoc {α : Type} (xs : List α) (d : α) {k : Nat} (h : k < xs.length) : xs.take (k + 1) = xs.take k ++ [xs.getD k d] := by
  rw [List.take_succ_eq_append_getElem h, List.getD_eq_getElem?_getD, List.getElem?_eq_getElem h]
  rfl
theorem drop_cons {α : Type} (xs : List α) (d : α) {k : Nat} (h : k < xs.length) : xs.drop k = xs.getD k d :: xs.drop (k + 1) := by
  rw [List.drop_eq_getElem_cons h, List.getD_eq_getElem?_getD, List.getElem?_eq_getElem h]
  rfl


/-- A value. -/
structure V where
  k : Int
  n : Int
  s : ByteArray
def V.val (v : V) : Value := .agg #[.int .i64 v.k, .int .i64 v.n, .string v.s]
/-- It lies at an address, as the walk spells it. -/
def V.at_ (w : World) (a : Addr) (v : V) : Prop :=
  w.cell? a = some (.int .i64 v.k) ∧ w.cell? ⟨a.block, a.off + 1, none⟩ = some (.int .i64 v.n) ∧ w.cell? ⟨a.block, a.off + 2, none⟩ = some (.string v.s)
/-- A row that is read. -/
structure RdV (w : World) (A : Option Addr) (n : Nat) (r : List V) : Prop where
  len : r.length = n
  max : n ≤ 9223372036854775807
  cells : 0 < n → ∃ ad, A = some ad ∧ ad.block < w.heap.size ∧ ∀ i v, r[i]? = some v → V.at_ w (ad.add (i * 3)) v
  str : ∀ v ∈ r, v.s.size ≤ 9223372036854775807
theorem V.at_.below {w w' : World} {a : Addr} {v : V} {B : Nat} (h : V.at_ w a v) (hb : Below B w w') (ha : a.block < B) : V.at_ w' a v :=
  ⟨(hb.cell ha).trans h.1, (hb.cell (p := ⟨a.block, a.off + 1, none⟩) ha).trans h.2.1, (hb.cell (p := ⟨a.block, a.off + 2, none⟩) ha).trans h.2.2⟩
theorem V.at_.turn {S : Nat → Prop} {w w' : World} {a : Addr} {v : V} (h : V.at_ w a v) (ht : Turn S w w') (hs : ¬ S a.block) : V.at_ w' a v :=
  ⟨cell_turn h.1 ht hs, cell_turn h.2.1 ht hs, cell_turn h.2.2 ht hs⟩
theorem RdV.below {w w' : World} {A : Option Addr} {n : Nat} {r : List V} (h : RdV w A n r) (hb : Below w.heap.size w w') : RdV w' A n r :=
  ⟨h.len, h.max, fun hn => by
    obtain ⟨ad, e, hlt, hc⟩ := h.cells hn
    exact ⟨ad, e, Nat.lt_of_lt_of_le hlt hb.size, fun i v hv => (hc i v hv).below hb (by rw [add_block]; exact hlt)⟩, h.str⟩
theorem RdV.turn {S : Nat → Prop} {w w' : World} {A : Option Addr} {n : Nat} {r : List V} (h : RdV w A n r) (ht : Turn S w w') (hs : ∀ ad, A = some ad → ¬ S ad.block) : RdV w' A n r :=
  ⟨h.len, h.max, fun hn => by
    obtain ⟨ad, e, hlt, hc⟩ := h.cells hn
    exact ⟨ad, e, Nat.lt_of_lt_of_le hlt ht.size, fun i v hv => (hc i v hv).turn ht (by rw [add_block]; exact hs ad e)⟩, h.str⟩
/-- Element k, in a later world. -/
theorem RdV.at_ {w wr : World} {A : Option Addr} {n : Nat} {r : List V} (h : RdV w A n r) (hb : Below w.heap.size w wr) {k : Nat} (hk : k < n) : ∃ ad v, A = some ad ∧ ad.block < w.heap.size ∧ r[k]? = some v ∧ v.s.size ≤ 9223372036854775807 ∧
    wr.cell? (ad.add (k * 3)) = some (.int .i64 v.k) ∧ wr.cell? ⟨(ad.add (k * 3)).block, (ad.add (k * 3)).off + 1, none⟩ = some (.int .i64 v.n) ∧ wr.cell? ⟨(ad.add (k * 3)).block, (ad.add (k * 3)).off + 2, none⟩ = some (.string v.s) := by
  obtain ⟨ad, e, hlt, hc⟩ := h.cells (by omega)
  have hl : k < r.length := by have := h.len; omega
  have h1 := (hc k _ (List.getElem?_eq_getElem hl)).below hb (by rw [add_block]; exact hlt)
  exact ⟨ad, _, e, hlt, List.getElem?_eq_getElem hl, h.str _ (List.getElem_mem hl), h1.1, h1.2.1, h1.2.2⟩
theorem RdV.nil (w : World) : RdV w none 0 [] := ⟨rfl, by omega, fun h => absurd h (by omega), by simp⟩
theorem all_take {r : List V} {p : V → Bool} {k : Nat} {v : V} (h : r[k]? = some v) : (r.take (k + 1)).all p = ((r.take k).all p && p v) := by
  obtain ⟨hl, e⟩ := List.getElem?_eq_some_iff.1 h
  rw [List.take_succ_eq_append_getElem hl, e, List.all_append]
  simp
theorem all_false {r : List V} {p : V → Bool} {k : Nat} {v : V} (h : r[k]? = some v) (hp : p v = false) : r.all p = false := by
  obtain ⟨hl, e⟩ := List.getElem?_eq_some_iff.1 h
  rw [List.all_eq_false]
  exact ⟨v, e ▸ List.getElem_mem hl, by simp [hp]⟩

/-- May a value be? -/
def vOk (v : V) : Bool := decide ((v.k = 0 ∧ v.n = 0 ∧ v.s.size = 0) ∨ (v.k = 1 ∧ (v.n = 0 ∨ v.n = 1) ∧ v.s.size = 0) ∨ (v.k = 2 ∧ -9007199254740991 ≤ v.n ∧ v.n ≤ 9007199254740991 ∧ v.s.size = 0) ∨ (v.k = 3 ∧ v.n = 0 ∧ v.s.size ≤ 64))
def rowOk (r : List V) : Bool := decide (r.length ≤ 32) && r.all vOk
end Go.Proofs.YtkbapoeilcapfaaGreat

/- value.Check, and the document's. -/
namespace Go.Proofs.YtkbapoeilcapfaaGreat
open Go.RowKit

def vErr (v : V) : Int := if vOk v then 0 else 10
def VPost (v : V) (w : World) (e : Ending) (w' : World) : Prop := e = .returned (.int .i64 (vErr v)) ∧ Below w.heap.size w w'
def CPost (v : V) (w : World) (e : Ending) (w' : World) : Prop := e = .returned (.bool (vOk v)) ∧ Below w.heap.size w w'
theorem ret_int {k : IntKind} {a b : Int} (h : a = b) : Ending.returned (.int k a) = .returned (.int k b) := by rw [h]
theorem ret_bool {a b : Bool} (h : a = b) : Ending.returned (.bool a) = .returned (.bool b) := by rw [h]
theorem empty_iff (s : ByteArray) : s.toList.isEmpty = decide (s.size = 0) := by
  rw [ByteArray.toList_eq]
  have h : s.size = s.data.toList.length := by simp
  rw [h]
  cases s.data.toList <;> simp

set_option maxHeartbeats 1000000 in
theorem vcheck_e (k n : Int) (s : ByteArray) (w : World) (hz : s.size = 0) : Calls Tryz.prog 163 #[.agg #[.int .i64 k, .int .i64 n, .string s]] w (VPost ⟨k, n, s⟩ w) := by
  have hE : s.toList.isEmpty = true := by rw [empty_iff]; simpa using hz
  have HZ := Lib.hid hz
  clear hz
  by_cases h0 : k = 0
  · subst h0
    go_enter Tryz.func163, Tryz.ntmps163
    go_wp2
    all_goals
      go_ret
      have hz := HZ.out
      refine ⟨ret_int ?_, (Below.refl _ _).alloc (Nat.le_refl _) _⟩
      first
        | (show (0 : Int) = _; unfold vErr vOk; rw [if_pos (decide_eq_true (by dsimp only; first | omega | (simp; done) | (simp; omega)))])
        | (show (10 : Int) = _; unfold vErr vOk; rw [if_neg (fun h => by have h := of_decide_eq_true h; dsimp only at h; omega)])
  by_cases h1 : k = 1
  · subst h1
    go_enter Tryz.func163, Tryz.ntmps163
    go_wp2
    all_goals
      go_ret
      have hz := HZ.out
      refine ⟨ret_int ?_, (Below.refl _ _).alloc (Nat.le_refl _) _⟩
      first
        | (show (0 : Int) = _; unfold vErr vOk; rw [if_pos (decide_eq_true (by dsimp only; first | omega | (simp; done) | (simp; omega)))])
        | (show (10 : Int) = _; unfold vErr vOk; rw [if_neg (fun h => by have h := of_decide_eq_true h; dsimp only at h; omega)])
  by_cases h2 : k = 2
  · subst h2
    go_enter Tryz.func163, Tryz.ntmps163
    go_wp2
    all_goals
      go_ret
      have hz := HZ.out
      refine ⟨ret_int ?_, (Below.refl _ _).alloc (Nat.le_refl _) _⟩
      first
        | (show (0 : Int) = _; unfold vErr vOk; rw [if_pos (decide_eq_true (by dsimp only; first | omega | (simp; done) | (simp; omega)))])
        | (show (10 : Int) = _; unfold vErr vOk; rw [if_neg (fun h => by have h := of_decide_eq_true h; dsimp only at h; omega)])
  by_cases h3 : k = 3
  · subst h3
    by_cases hn : n = 0
    · subst hn
      by_cases hl : s.size ≤ 64
      · have hd : decide ((s.size : Int) ≤ 64) = true := by simp; omega
        go_enter Tryz.func163, Tryz.ntmps163
        go_wp2
        all_goals
          go_ret
          have hz := HZ.out
          refine ⟨ret_int ?_, (Below.refl _ _).alloc (Nat.le_refl _) _⟩
          first
            | (show (0 : Int) = _; unfold vErr vOk; rw [if_pos (decide_eq_true (by dsimp only; first | omega | (simp; done) | (simp; omega)))])
            | (show (10 : Int) = _; unfold vErr vOk; rw [if_neg (fun h => by have h := of_decide_eq_true h; dsimp only at h; omega)])
      · have hd : decide ((s.size : Int) ≤ 64) = false := by simp; omega
        go_enter Tryz.func163, Tryz.ntmps163
        go_wp2
        all_goals
          go_ret
          have hz := HZ.out
          refine ⟨ret_int ?_, (Below.refl _ _).alloc (Nat.le_refl _) _⟩
          first
            | (show (0 : Int) = _; unfold vErr vOk; rw [if_pos (decide_eq_true (by dsimp only; first | omega | (simp; done) | (simp; omega)))])
            | (show (10 : Int) = _; unfold vErr vOk; rw [if_neg (fun h => by have h := of_decide_eq_true h; dsimp only at h; omega)])
    · have hnb : (n == 0) = false := beq_eq_false_iff_ne.2 hn
      go_enter Tryz.func163, Tryz.ntmps163
      go_wp2
      all_goals
        go_ret
        have hz := HZ.out
        refine ⟨ret_int ?_, (Below.refl _ _).alloc (Nat.le_refl _) _⟩
        first
          | (show (0 : Int) = _; unfold vErr vOk; rw [if_pos (decide_eq_true (by dsimp only; first | omega | (simp; done) | (simp; omega)))])
          | (show (10 : Int) = _; unfold vErr vOk; rw [if_neg (fun h => by have h := of_decide_eq_true h; dsimp only at h; omega)])
  have b0 : (k == 0) = false := beq_eq_false_iff_ne.2 h0
  have b1 : (k == 1) = false := beq_eq_false_iff_ne.2 h1
  have b2 : (k == 2) = false := beq_eq_false_iff_ne.2 h2
  have b3 : (k == 3) = false := beq_eq_false_iff_ne.2 h3
  go_enter Tryz.func163, Tryz.ntmps163
  go_wp2
  all_goals
    go_ret
    have hz := HZ.out
    refine ⟨ret_int ?_, (Below.refl _ _).alloc (Nat.le_refl _) _⟩
    first
      | (show (0 : Int) = _; unfold vErr vOk; rw [if_pos (decide_eq_true (by dsimp only; first | omega | (simp; done) | (simp; omega)))])
      | (show (10 : Int) = _; unfold vErr vOk; rw [if_neg (fun h => by have h := of_decide_eq_true h; dsimp only at h; omega)])

set_option maxHeartbeats 1000000 in
theorem vcheck_n (k n : Int) (s : ByteArray) (w : World) (hz : ¬ s.size = 0) (hs : s.size ≤ 9223372036854775807) : Calls Tryz.prog 163 #[.agg #[.int .i64 k, .int .i64 n, .string s]] w (VPost ⟨k, n, s⟩ w) := by
  have hE : s.toList.isEmpty = false := by rw [empty_iff]; simpa using hz
  have HZ := Lib.hid hz
  clear hz
  by_cases h0 : k = 0
  · subst h0
    go_enter Tryz.func163, Tryz.ntmps163
    go_wp2
    all_goals
      go_ret
      have hz := HZ.out
      refine ⟨ret_int ?_, (Below.refl _ _).alloc (Nat.le_refl _) _⟩
      first
        | (show (0 : Int) = _; unfold vErr vOk; rw [if_pos (decide_eq_true (by dsimp only; first | omega | (simp; done) | (simp; omega)))])
        | (show (10 : Int) = _; unfold vErr vOk; rw [if_neg (fun h => by have h := of_decide_eq_true h; dsimp only at h; omega)])
  by_cases h1 : k = 1
  · subst h1
    go_enter Tryz.func163, Tryz.ntmps163
    go_wp2
    all_goals
      go_ret
      have hz := HZ.out
      refine ⟨ret_int ?_, (Below.refl _ _).alloc (Nat.le_refl _) _⟩
      first
        | (show (0 : Int) = _; unfold vErr vOk; rw [if_pos (decide_eq_true (by dsimp only; first | omega | (simp; done) | (simp; omega)))])
        | (show (10 : Int) = _; unfold vErr vOk; rw [if_neg (fun h => by have h := of_decide_eq_true h; dsimp only at h; omega)])
  by_cases h2 : k = 2
  · subst h2
    go_enter Tryz.func163, Tryz.ntmps163
    go_wp2
    all_goals
      go_ret
      have hz := HZ.out
      refine ⟨ret_int ?_, (Below.refl _ _).alloc (Nat.le_refl _) _⟩
      first
        | (show (0 : Int) = _; unfold vErr vOk; rw [if_pos (decide_eq_true (by dsimp only; first | omega | (simp; done) | (simp; omega)))])
        | (show (10 : Int) = _; unfold vErr vOk; rw [if_neg (fun h => by have h := of_decide_eq_true h; dsimp only at h; omega)])
  by_cases h3 : k = 3
  · subst h3
    by_cases hn : n = 0
    · subst hn
      by_cases hl : s.size ≤ 64
      · have hd : decide ((s.size : Int) ≤ 64) = true := by simp; omega
        go_enter Tryz.func163, Tryz.ntmps163
        go_wp2
        all_goals
          go_ret
          have hz := HZ.out
          refine ⟨ret_int ?_, (Below.refl _ _).alloc (Nat.le_refl _) _⟩
          first
            | (show (0 : Int) = _; unfold vErr vOk; rw [if_pos (decide_eq_true (by dsimp only; first | omega | (simp; done) | (simp; omega)))])
            | (show (10 : Int) = _; unfold vErr vOk; rw [if_neg (fun h => by have h := of_decide_eq_true h; dsimp only at h; omega)])
      · have hd : decide ((s.size : Int) ≤ 64) = false := by simp; omega
        go_enter Tryz.func163, Tryz.ntmps163
        go_wp2
        all_goals
          go_ret
          have hz := HZ.out
          refine ⟨ret_int ?_, (Below.refl _ _).alloc (Nat.le_refl _) _⟩
          first
            | (show (0 : Int) = _; unfold vErr vOk; rw [if_pos (decide_eq_true (by dsimp only; first | omega | (simp; done) | (simp; omega)))])
            | (show (10 : Int) = _; unfold vErr vOk; rw [if_neg (fun h => by have h := of_decide_eq_true h; dsimp only at h; omega)])
    · have hnb : (n == 0) = false := beq_eq_false_iff_ne.2 hn
      go_enter Tryz.func163, Tryz.ntmps163
      go_wp2
      all_goals
        go_ret
        have hz := HZ.out
        refine ⟨ret_int ?_, (Below.refl _ _).alloc (Nat.le_refl _) _⟩
        first
          | (show (0 : Int) = _; unfold vErr vOk; rw [if_pos (decide_eq_true (by dsimp only; first | omega | (simp; done) | (simp; omega)))])
          | (show (10 : Int) = _; unfold vErr vOk; rw [if_neg (fun h => by have h := of_decide_eq_true h; dsimp only at h; omega)])
  have b0 : (k == 0) = false := beq_eq_false_iff_ne.2 h0
  have b1 : (k == 1) = false := beq_eq_false_iff_ne.2 h1
  have b2 : (k == 2) = false := beq_eq_false_iff_ne.2 h2
  have b3 : (k == 3) = false := beq_eq_false_iff_ne.2 h3
  go_enter Tryz.func163, Tryz.ntmps163
  go_wp2
  all_goals
    go_ret
    have hz := HZ.out
    refine ⟨ret_int ?_, (Below.refl _ _).alloc (Nat.le_refl _) _⟩
    first
      | (show (0 : Int) = _; unfold vErr vOk; rw [if_pos (decide_eq_true (by dsimp only; first | omega | (simp; done) | (simp; omega)))])
      | (show (10 : Int) = _; unfold vErr vOk; rw [if_neg (fun h => by have h := of_decide_eq_true h; dsimp only at h; omega)])

theorem vcheck (v : V) (w : World) (hs : v.s.size ≤ 9223372036854775807) : Calls Tryz.prog 163 #[v.val] w (VPost v w) := by
  obtain ⟨k, n, s⟩ := v
  by_cases hz : s.size = 0
  · exact vcheck_e k n s w hz
  · exact vcheck_n k n s w hz hs

set_option maxHeartbeats 1000000 in
theorem vcheckRef_e (k n : Int) (s : ByteArray) (w : World) (hz : s.size = 0) : Calls Tryz.prog 127 #[.agg #[.int .i64 k, .int .i64 n, .string s]] w (CPost ⟨k, n, s⟩ w) := by
  have hE : s.toList.isEmpty = true := by rw [empty_iff]; simpa using hz
  have HZ := Lib.hid hz
  clear hz
  by_cases h0 : k = 0
  · subst h0
    go_enter Tryz.func127, Tryz.ntmps127
    go_wp2
    all_goals
      go_ret
      have hz := HZ.out
      refine ⟨ret_bool ?_, (Below.refl _ _).alloc (Nat.le_refl _) _⟩
      first
        | (show true = _; unfold vOk; symm; rw [decide_eq_true_iff]; dsimp only; omega)
        | (show false = _; unfold vOk; symm; rw [decide_eq_false_iff_not]; dsimp only; omega)
        | (show decide _ = _; unfold vOk; rw [decide_eq_decide]; dsimp only; omega)
  by_cases h1 : k = 1
  · subst h1
    go_enter Tryz.func127, Tryz.ntmps127
    go_wp2
    all_goals
      go_ret
      have hz := HZ.out
      refine ⟨ret_bool ?_, (Below.refl _ _).alloc (Nat.le_refl _) _⟩
      first
        | (show true = _; unfold vOk; symm; rw [decide_eq_true_iff]; dsimp only; omega)
        | (show false = _; unfold vOk; symm; rw [decide_eq_false_iff_not]; dsimp only; omega)
        | (show decide _ = _; unfold vOk; rw [decide_eq_decide]; dsimp only; omega)
  by_cases h2 : k = 2
  · subst h2
    go_enter Tryz.func127, Tryz.ntmps127
    go_wp2
    all_goals
      go_ret
      have hz := HZ.out
      refine ⟨ret_bool ?_, (Below.refl _ _).alloc (Nat.le_refl _) _⟩
      first
        | (show true = _; unfold vOk; symm; rw [decide_eq_true_iff]; dsimp only; omega)
        | (show false = _; unfold vOk; symm; rw [decide_eq_false_iff_not]; dsimp only; omega)
        | (show decide _ = _; unfold vOk; rw [decide_eq_decide]; dsimp only; omega)
  by_cases h3 : k = 3
  · subst h3
    go_enter Tryz.func127, Tryz.ntmps127
    go_wp2
    all_goals
      go_ret
      have hz := HZ.out
      refine ⟨ret_bool ?_, (Below.refl _ _).alloc (Nat.le_refl _) _⟩
      first
        | (show true = _; unfold vOk; symm; rw [decide_eq_true_iff]; dsimp only; omega)
        | (show false = _; unfold vOk; symm; rw [decide_eq_false_iff_not]; dsimp only; omega)
        | (show decide _ = _; unfold vOk; rw [decide_eq_decide]; dsimp only; omega)
  have b0 : (k == 0) = false := beq_eq_false_iff_ne.2 h0
  have b1 : (k == 1) = false := beq_eq_false_iff_ne.2 h1
  have b2 : (k == 2) = false := beq_eq_false_iff_ne.2 h2
  have b3 : (k == 3) = false := beq_eq_false_iff_ne.2 h3
  go_enter Tryz.func127, Tryz.ntmps127
  go_wp2
  all_goals
    go_ret
    have hz := HZ.out
    refine ⟨ret_bool ?_, (Below.refl _ _).alloc (Nat.le_refl _) _⟩
    first
      | (show true = _; unfold vOk; symm; rw [decide_eq_true_iff]; dsimp only; omega)
      | (show false = _; unfold vOk; symm; rw [decide_eq_false_iff_not]; dsimp only; omega)
      | (show decide _ = _; unfold vOk; rw [decide_eq_decide]; dsimp only; omega)

set_option maxHeartbeats 1000000 in
theorem vcheckRef_n (k n : Int) (s : ByteArray) (w : World) (hz : ¬ s.size = 0) (hs : s.size ≤ 9223372036854775807) : Calls Tryz.prog 127 #[.agg #[.int .i64 k, .int .i64 n, .string s]] w (CPost ⟨k, n, s⟩ w) := by
  have hE : s.toList.isEmpty = false := by rw [empty_iff]; simpa using hz
  have HZ := Lib.hid hz
  clear hz
  by_cases h0 : k = 0
  · subst h0
    go_enter Tryz.func127, Tryz.ntmps127
    go_wp2
    all_goals
      go_ret
      have hz := HZ.out
      refine ⟨ret_bool ?_, (Below.refl _ _).alloc (Nat.le_refl _) _⟩
      first
        | (show true = _; unfold vOk; symm; rw [decide_eq_true_iff]; dsimp only; omega)
        | (show false = _; unfold vOk; symm; rw [decide_eq_false_iff_not]; dsimp only; omega)
        | (show decide _ = _; unfold vOk; rw [decide_eq_decide]; dsimp only; omega)
  by_cases h1 : k = 1
  · subst h1
    go_enter Tryz.func127, Tryz.ntmps127
    go_wp2
    all_goals
      go_ret
      have hz := HZ.out
      refine ⟨ret_bool ?_, (Below.refl _ _).alloc (Nat.le_refl _) _⟩
      first
        | (show true = _; unfold vOk; symm; rw [decide_eq_true_iff]; dsimp only; omega)
        | (show false = _; unfold vOk; symm; rw [decide_eq_false_iff_not]; dsimp only; omega)
        | (show decide _ = _; unfold vOk; rw [decide_eq_decide]; dsimp only; omega)
  by_cases h2 : k = 2
  · subst h2
    go_enter Tryz.func127, Tryz.ntmps127
    go_wp2
    all_goals
      go_ret
      have hz := HZ.out
      refine ⟨ret_bool ?_, (Below.refl _ _).alloc (Nat.le_refl _) _⟩
      first
        | (show true = _; unfold vOk; symm; rw [decide_eq_true_iff]; dsimp only; omega)
        | (show false = _; unfold vOk; symm; rw [decide_eq_false_iff_not]; dsimp only; omega)
        | (show decide _ = _; unfold vOk; rw [decide_eq_decide]; dsimp only; omega)
  by_cases h3 : k = 3
  · subst h3
    go_enter Tryz.func127, Tryz.ntmps127
    go_wp2
    all_goals
      go_ret
      have hz := HZ.out
      refine ⟨ret_bool ?_, (Below.refl _ _).alloc (Nat.le_refl _) _⟩
      first
        | (show true = _; unfold vOk; symm; rw [decide_eq_true_iff]; dsimp only; omega)
        | (show false = _; unfold vOk; symm; rw [decide_eq_false_iff_not]; dsimp only; omega)
        | (show decide _ = _; unfold vOk; rw [decide_eq_decide]; dsimp only; omega)
  have b0 : (k == 0) = false := beq_eq_false_iff_ne.2 h0
  have b1 : (k == 1) = false := beq_eq_false_iff_ne.2 h1
  have b2 : (k == 2) = false := beq_eq_false_iff_ne.2 h2
  have b3 : (k == 3) = false := beq_eq_false_iff_ne.2 h3
  go_enter Tryz.func127, Tryz.ntmps127
  go_wp2
  all_goals
    go_ret
    have hz := HZ.out
    refine ⟨ret_bool ?_, (Below.refl _ _).alloc (Nat.le_refl _) _⟩
    first
      | (show true = _; unfold vOk; symm; rw [decide_eq_true_iff]; dsimp only; omega)
      | (show false = _; unfold vOk; symm; rw [decide_eq_false_iff_not]; dsimp only; omega)
      | (show decide _ = _; unfold vOk; rw [decide_eq_decide]; dsimp only; omega)

theorem vcheckRef (v : V) (w : World) (hs : v.s.size ≤ 9223372036854775807) : Calls Tryz.prog 127 #[v.val] w (CPost v w) := by
  obtain ⟨k, n, s⟩ := v
  by_cases hz : s.size = 0
  · exact vcheckRef_e k n s w hz
  · exact vcheckRef_n k n s w hz hs
end Go.Proofs.YtkbapoeilcapfaaGreat

/- row.Check, and the document's. -/
namespace Go.Proofs.YtkbapoeilcapfaaGreat
open Go.RowKit

def rErr (r : List V) : Int := if rowOk r then 0 else 20
theorem vcheck_yes (v : V) (w : World) (hs : v.s.size ≤ 9223372036854775807) (h : vOk v = true) : Calls Tryz.prog 163 #[v.val] w fun e w' => e = .returned (.int .i64 0) ∧ Below w.heap.size w w' :=
  (vcheck v w hs).mono fun _ _ ⟨a, b⟩ => ⟨by rw [a, vErr, if_pos h], b⟩
theorem vcheck_no (v : V) (w : World) (hs : v.s.size ≤ 9223372036854775807) (h : vOk v = false) : Calls Tryz.prog 163 #[v.val] w fun e w' => e = .returned (.int .i64 10) ∧ Below w.heap.size w w' :=
  (vcheck v w hs).mono fun _ _ ⟨a, b⟩ => ⟨by rw [a, vErr, if_neg (by simp [h])], b⟩

theorem odd_yes (v : V) (w : World) (hs : v.s.size ≤ 9223372036854775807) (h : vOk v = true) : Calls Tryz.prog 164 #[v.val] w fun e w' => e = .returned (.bool false) ∧ Below w.heap.size w w' := by
  have hv := fun w => vcheck_yes v w hs h
  obtain ⟨k, n, s⟩ := v
  unfold V.val at hv ⊢
  dsimp only at hv hs ⊢
  have HV := Lib.hid hv
  clear hv h
  go_enter Tryz.func164, Tryz.ntmps164
  go_wp2_with (go_at_call 163; refine (HV.out _).mono ?_; rintro e w1 ⟨rfl, b1⟩)
  go_ret
  exact ⟨rfl, ((Below.refl _ _).alloc (Nat.le_refl _) _).trans (b1.mono (by simp))⟩
theorem odd_no (v : V) (w : World) (hs : v.s.size ≤ 9223372036854775807) (h : vOk v = false) : Calls Tryz.prog 164 #[v.val] w fun e w' => e = .returned (.bool true) ∧ Below w.heap.size w w' := by
  have hv := fun w => vcheck_no v w hs h
  obtain ⟨k, n, s⟩ := v
  unfold V.val at hv ⊢
  dsimp only at hv hs ⊢
  have HV := Lib.hid hv
  clear hv h
  go_enter Tryz.func164, Tryz.ntmps164
  go_wp2_with (go_at_call 163; refine (HV.out _).mono ?_; rintro e w1 ⟨rfl, b1⟩)
  go_ret
  exact ⟨rfl, ((Below.refl _ _).alloc (Nat.le_refl _) _).trans (b1.mono (by simp))⟩

def IPost (b : Bool) (w : World) (e : Ending) (w' : World) : Prop := ∃ i : Int, e = .returned (.int .i64 i) ∧ decide (0 ≤ i) = b ∧ Below w.heap.size w w'
theorem idx_walk {w : World} {A : Option Addr} {n c : Nat} (r : List V) (hr : RdV w A n r) :
    Calls Tryz.prog 167 #[.slice A n c, .func (.func 164) #[] #[]] w (IPost (!r.all vOk) w) := by
  have hn := hr.max
  have HL := Lib.hid hr.len
  go_enter Tryz.func167, Tryz.ntmps167
  go_wp2
  go_loopw [8] (fun i wr => ∃ k : Nat, k ≤ n ∧ i = .int .i64 k ∧ (r.take k).all vOk = true ∧ Below w.heap.size w wr) (fun i _ => n - (intOf i).toNat)
  case atStart => exact ⟨0, Nat.zero_le _, rfl, rfl, Below.refl _ _⟩
  case round =>
    obtain ⟨k, hk, rfl, hall, bel⟩ := hrel
    have HA := Lib.hid hall
    clear hall
    by_cases hlt : k < n
    · obtain ⟨ad, v, rfl, had, hv, hs, d0, d1, d2⟩ := hr.at_ bel hlt
      have HV := Lib.hid hv
      clear hr hv
      cases ho : vOk v with
      | true =>
        have HO := Lib.hid (fun w => odd_yes v w hs ho)
        have H2 := Lib.hid ho
        clear ho
        go_wp2_with (go_at_call 164; refine (HO.out _).mono ?_; rintro e w1 ⟨rfl, b1⟩)
        go_roundw
        case rel => exact ⟨k + 1, by omega, by go_num, by rw [all_take HV.out, HA.out, H2.out]; rfl, bel.trans (b1.mono bel.size)⟩
        case measure => simp [intOf]; omega
      | false =>
        have HO := Lib.hid (fun w => odd_no v w hs ho)
        have H2 := Lib.hid (all_false HV.out ho)
        clear ho
        go_wp2_with (go_at_call 164; refine (HO.out _).mono ?_; rintro e w1 ⟨rfl, b1⟩)
        go_ret
        exact ⟨k, rfl, by rw [H2.out]; simp, bel.trans (b1.mono bel.size)⟩
    · go_wp2
      go_ret
      have h := HA.out
      rw [List.take_of_length_le (by have := HL.out; omega)] at h
      exact ⟨-1, rfl, by rw [h]; rfl, bel⟩
theorem con_walk {w : World} {A : Option Addr} {n c : Nat} (r : List V) (hr : RdV w A n r) :
    Calls Tryz.prog 165 #[.slice A n c, .func (.func 164) #[] #[]] w fun e w' => e = .returned (.bool (!r.all vOk)) ∧ Below w.heap.size w w' := by
  have HI := Lib.hid (idx_walk (c := c) r hr)
  clear hr
  go_enter Tryz.func165, Tryz.ntmps165
  go_wp2_with (go_at_call 167; refine HI.out.mono ?_; rintro e w1 ⟨i, rfl, hi, b1⟩; have H := Lib.hid hi; clear hi)
  go_ret
  exact ⟨by rw [← H.out]; rfl, b1⟩
theorem rcheck {w : World} {A : Option Addr} {n c : Nat} (r : List V) (hr : RdV w A n r) :
    Calls Tryz.prog 152 #[.slice A n c] w fun e w' => e = .returned (.int .i64 (rErr r)) ∧ Below w.heap.size w w' := by
  have hn := hr.max
  have HL := Lib.hid hr.len
  by_cases hle : n ≤ 32
  · cases ha : r.all vOk with
    | true =>
      have HX := Lib.hid (show rErr r = 0 by have := HL.out; simp [rErr, rowOk, ha]; omega)
      have HI := con_walk (c := c) r hr
      rw [ha] at HI
      have HI := Lib.hid HI
      clear hr ha
      go_enter Tryz.func152, Tryz.ntmps152
      go_wp2_with (go_at_call 165; refine HI.out.mono ?_; rintro e w1 ⟨rfl, b1⟩)
      go_ret
      exact ⟨by rw [HX.out]; rfl, b1⟩
    | false =>
      have HX := Lib.hid (show rErr r = 20 by simp [rErr, rowOk, ha])
      have HI := con_walk (c := c) r hr
      rw [ha] at HI
      have HI := Lib.hid HI
      clear hr ha
      go_enter Tryz.func152, Tryz.ntmps152
      go_wp2_with (go_at_call 165; refine HI.out.mono ?_; rintro e w1 ⟨rfl, b1⟩)
      go_ret
      exact ⟨by rw [HX.out]; rfl, b1⟩
  · have HX := Lib.hid (show rErr r = 20 by have := HL.out; simp [rErr, rowOk]; intro; omega)
    clear hr
    go_enter Tryz.func152, Tryz.ntmps152
    go_wp2
    go_ret
    exact ⟨by rw [HX.out]; rfl, Below.refl _ _⟩

theorem vref_at (v : V) (w : World) (hs : v.s.size ≤ 9223372036854775807) (b : Bool) (h : vOk v = b) : Calls Tryz.prog 127 #[.agg #[.int .i64 v.k, .int .i64 v.n, .string v.s]] w fun e w' => e = .returned (.bool b) ∧ Below w.heap.size w w' :=
  (vcheckRef v w hs).mono fun _ _ ⟨a, b⟩ => ⟨by rw [a, h], b⟩
theorem rcheckRef {w : World} {A : Option Addr} {n c : Nat} (r : List V) (hr : RdV w A n r) :
    Calls Tryz.prog 101 #[.slice A n c] w fun e w' => e = .returned (.bool (rowOk r)) ∧ Below w.heap.size w w' := by
  have hn := hr.max
  have HL := Lib.hid hr.len
  go_enter Tryz.func101, Tryz.ntmps101
  go_wp2
  go_loopw [3] (fun i wr => ∃ k : Nat, k ≤ n ∧ i = .int .i64 k ∧ (r.take k).all vOk = true ∧ Below w.heap.size w wr) (fun i _ => n - (intOf i).toNat)
  case atStart => exact ⟨0, Nat.zero_le _, rfl, rfl, Below.refl _ _⟩
  case round =>
    obtain ⟨k, hk, rfl, hall, bel⟩ := hrel
    have HA := Lib.hid hall
    clear hall
    by_cases hlt : k < n
    · obtain ⟨ad, v, rfl, had, hv, hs, d0, d1, d2⟩ := hr.at_ bel hlt
      have HV := Lib.hid hv
      clear hr hv
      cases ho : vOk v with
      | true =>
        have HO := Lib.hid (fun w => vref_at v w hs true ho)
        have H2 := Lib.hid ho
        clear ho
        go_wp2_with (go_at_call 127; refine (HO.out _).mono ?_; rintro e w1 ⟨rfl, b1⟩)
        go_roundw
        case rel => exact ⟨k + 1, by omega, by go_num, by rw [all_take HV.out, HA.out, H2.out]; rfl, bel.trans (b1.mono bel.size)⟩
        case measure => simp [intOf]; omega
      | false =>
        have HO := Lib.hid (fun w => vref_at v w hs false ho)
        have H2 := Lib.hid (show rowOk r = false by rw [rowOk, all_false HV.out ho]; simp)
        clear ho
        go_wp2_with (go_at_call 127; refine (HO.out _).mono ?_; rintro e w1 ⟨rfl, b1⟩)
        go_ret
        exact ⟨by rw [H2.out]; rfl, bel.trans (b1.mono bel.size)⟩
    · have h := HA.out
      rw [List.take_of_length_le (by have := HL.out; omega)] at h
      have H2 := Lib.hid (show rowOk r = decide (n ≤ 32) by rw [rowOk, h, HL.out]; simp)
      clear h hr
      go_wp2
      go_ret
      refine ⟨?_, bel⟩
      rw [H2.out]
      first | rfl | (show Ending.returned (.bool (decide ((n : Int) ≤ 32))) = _; congr 2; rw [decide_eq_decide]; omega)
end Go.Proofs.YtkbapoeilcapfaaGreat

/- append as one operation, for a region that draws its order too. -/
namespace Go.Proofs.YtkbapoeilcapfaaGreat
open Go.RowKit

section
variable {P : Program} {ops : Array Oper} {o : Oper} {a : Act} {K : Act → World → Prop} {Q : Exit → Act → World → Prop}
theorem step_of_wp {w : World} {E : Prop} (hgd : o.guard = none) (h : o.wp P a w K Q) : if Region.wanted o (yielded ops a.tmps) = true then o.wp P a w K Q else E := by
  rw [if_pos (by simp [Region.wanted, hgd])]
  exact h
theorem op_append1 {W : World} (base : Nat) (s x : Operand) (t e : TypeId) (z : Value) (size bytes : Nat)
    (ho : o.op = .call { callee := .builtin .append, args := #[s, x], argTypes := #[t, t] })
    (ht : P.underlying t = some (.slice e)) (hinfo : (P.info? e).map (fun i => (i.zero, i.size, i.bytes)) = some (some z, size, bytes)) (hz : z.cells.size = size) (hs0 : 0 < size) (hb0 : 0 < bytes)
    (v : Value) (n : Nat) (xs ys : List Value) (hs : a.eval s = v) {S : Nat} (hx : a.eval x = .slice (some ⟨S, 0, none⟩) 1 1) (hS : S = W.heap.size) (hys : ys.length = size) (h1 : ∀ u ∈ ys, u.oneCell' = true)
    (HO : W.ownsRow base e size v n xs) (hbase : base ≤ W.heap.size) (hl : (n + 1) * bytes ≤ 140737488355328)
    (h : ∀ v1 w1, w1.ownsRow base e size v1 (n + 1) (xs ++ ys) → Turn (fun k => v.ownBlock = some k) W w1 → (v1.ownBlock = v.ownBlock ∨ ∃ b, v1.ownBlock = some b ∧ W.heap.size ≤ b) → K (a.put o.dst v1) w1) :
    o.wp P a (W.alloc (.cells ys.toArray e)) K Q := by
  subst hS
  obtain ⟨i0, hi, hz0, hz1, hz2⟩ := info_parts hinfo
  have hlen : n + 1 ≤ 140737488355328 := Nat.le_trans (Nat.le_mul_of_pos_right _ hb0) hl
  obtain ⟨v1, w1, hrun, hown, hg, _, hat⟩ := run_append_own_at (P := P) (W.alloc (.cells ys.toArray e)) base t o.type e i0 z size bytes ht hi hz0 hz1 hz2 hz hs0 v n xs (HO.alloc _) ⟨W.heap.size, 0, none⟩ 1 1 ys (by rw [hys]; simp)
    (by simpa using World.news_of_block (cs := ys.toArray) (t := e) (fr := (0, 0)) (heap_alloc_new W (.cells ys.toArray e))) h1 (by simp only [maxLen]; omega) hl (by simp; omega)
  unfold Oper.wp execOp
  simp only [ho, resolve, invoke, builtin, Sem.run_bind, Sem.run_pure, Result.andThen_ok, List.map_toArray, List.map_cons, List.map_nil, hs, hx, hrun]
  refine h v1 w1 hown (((Turn.refl _ W).alloc _).grown hg (fun k hk => .inl hk)) ?_
  rcases hat with hat | hat
  · exact .inl hat
  · exact .inr ⟨_, hat, by simp⟩
theorem op_appendS {W : World} (base : Nat) (sl x : Operand) (t u e : TypeId)
    (ho : o.op = .call { callee := .builtin .append, args := #[sl, x], argTypes := #[t, u] })
    (ht : P.underlying t = some (.slice e)) (hu : P.underlying u = some .string) (hinfo : (P.info? e).map (fun i => (i.zero, i.size, i.bytes)) = some (some (.int .u8 0), 1, 1))
    (v : Value) (n : Nat) (xs : List Value) (hs : a.eval sl = v) (s : ByteArray) (hx : a.eval x = .string s) (HO : W.ownsRow base e 1 v n xs) (hbase : base ≤ W.heap.size) (hl : n + s.size ≤ 140737488355328)
    (h : ∀ v1 w1, w1.ownsRow base e 1 v1 (n + s.size) (xs ++ Lib.strCells s) → Turn (fun k => v.ownBlock = some k) W w1 → K (a.put o.dst v1) w1) : o.wp P a W K Q := by
  obtain ⟨i0, hi, hz0, hz1, hz2⟩ := info_parts hinfo
  obtain ⟨v1, w1, hrun, hown, hg, _⟩ := Lib.run_append_own_string (P := P) (w := W) base t u o.type e i0 ht hu hi hz0 hz1 hz2 v n xs HO s (by simp only [maxLen]; omega) hl hbase
  unfold Oper.wp execOp
  simp only [ho, resolve, invoke, builtin, Sem.run_bind, Sem.run_pure, Result.andThen_ok, List.map_toArray, List.map_cons, List.map_nil, hs, hx, hrun]
  exact h v1 w1 hown ((Turn.refl _ W).grown hg (fun k hk => .inl hk))
theorem wp_appendS {W : World} {rest : List Oper} (base : Nat) (hgd : o.guard = none) (sl x : Operand) (t u e : TypeId)
    (ho : o.op = .call { callee := .builtin .append, args := #[sl, x], argTypes := #[t, u] })
    (ht : P.underlying t = some (.slice e)) (hu : P.underlying u = some .string) (hinfo : (P.info? e).map (fun i => (i.zero, i.size, i.bytes)) = some (some (.int .u8 0), 1, 1))
    (v : Value) (n : Nat) (xs : List Value) (hs : a.eval sl = v) (s : ByteArray) (hx : a.eval x = .string s) (HO : W.ownsRow base e 1 v n xs) (hbase : base ≤ W.heap.size) (hl : n + s.size ≤ 140737488355328)
    (h : ∀ v1 w1, w1.ownsRow base e 1 v1 (n + s.size) (xs ++ Lib.strCells s) → Turn (fun k => v.ownBlock = some k) W w1 → wpList P ops Q rest (a.put o.dst v1) w1) : wpList P ops Q (o :: rest) a W :=
  wpList_plain hgd fun _ hK => op_appendS base sl x t u e ho ht hu hinfo v n xs hs s hx HO hbase hl fun v1 w1 h1 h2 => hK _ _ (h v1 w1 h1 h2)
end

/-! ### a row's bytes -/
abbrev u8s (bs : List Int) : List Value := bs.map (Value.int .u8)
def be7 (m : Int) : List Int := [m / 281474976710656 % 256, m / 1099511627776 % 256, m / 4294967296 % 256, m / 16777216 % 256, m / 65536 % 256, m / 256 % 256, m % 256]
def bytesOf (s : ByteArray) : List Int := s.data.toList.map fun b => (b.toNat : Int)
def encV (v : V) : List Int :=
  if v.k = 1 then [1, v.n] else if v.k = 2 then 2 :: be7 (v.n + 9007199254740992) else if v.k = 3 then 3 :: (v.s.size : Int) :: bytesOf v.s else [0]
def encR (r : List V) : List Int := (r.length : Int) :: r.flatMap encV
theorem strCells_bytes (s : ByteArray) : Lib.strCells s = u8s (bytesOf s) := by simp [Lib.strCells, u8s, bytesOf]
theorem info_u8 : (Tryz.prog.info? 5).map (fun i => (i.zero, i.size, i.bytes)) = some (some (.int .u8 0), 1, 1) := by kernel_rfl
end Go.Proofs.YtkbapoeilcapfaaGreat

/- row.put. -/
namespace Go.Proofs.YtkbapoeilcapfaaGreat
open Go.RowKit

theorem be7_snoc {bs : List Value} {c : Int} (m : Int) {k : Nat} {y : Int} (hk : k < 7) (hy : y = (be7 m).getD k 0) : bs ++ u8s (c :: (be7 m).take k) ++ [.int .u8 y] = bs ++ u8s (c :: (be7 m).take (k + 1)) := by
  rw [take_snoc (be7 m) 0 (by simpa [be7] using hk), hy]
  simp [u8s]
theorem put_null {w : World} {B n : Nat} {bv : Value} {bs : List Value} (s : ByteArray) (HO : w.ownsRow B 5 1 bv n bs) (hB : B ≤ w.heap.size) (hn : n ≤ 100000) :
    Calls Tryz.prog 153 #[bv, .agg #[.int .i64 0, .int .i64 0, .string s]] w fun e w' => ∃ v', e = .returned v' ∧ w'.ownsRow B 5 1 v' (n + 1) (bs ++ u8s [0]) ∧ Below B w w' := by
  obtain ⟨A, c, rfl⟩ := own_slice HO
  go_enter Tryz.func153, Tryz.ntmps153
  go_wp2_with (first | (at_builtin; refine wp_append1 (W := w.alloc (.cells #[.int .i64 0, .int .i64 0, .string s] 86)) B rfl (.tmp 7) (.tmp 11) 136 5 (.int .u8 0) 1 1 rfl Tryz.underlying136 info_u8 rfl (by omega) (by omega) (.slice A n c) (n) _ [.int .u8 (0)] rfl rfl (by simp) rfl (by simp [Value.oneCell']) (HO.alloc _) (by simp; omega) (by omega) ?_; intro v1 w1 h1 t1 hor; obtain ⟨A1, c1, rfl⟩ := own_slice h1; have d0 := t1.heap (k := w.heap.size) (heap_alloc_new w _) (fun e => by have := (HO.lt _ e).2; omega); have d1 := cell_of_blk d0 0; have d2 := cell_of_blk d0 1; have d3 := cell_of_blk d0 2; clear d0))
  go_ret
  refine ⟨_, rfl, by simpa using h1, ?_⟩
  exact below_turn ((Below.refl _ _).alloc hB _) t1 (by simp; omega) (fun k hk => own_ge HO hk)
theorem put_int {w : World} {B n : Nat} {bv : Value} {bs : List Value} (x : Int) (s : ByteArray) (HO : w.ownsRow B 5 1 bv n bs) (hB : B ≤ w.heap.size) (hn : n ≤ 100000) (h1 : -9007199254740991 ≤ x) (h2 : x ≤ 9007199254740991) :
    Calls Tryz.prog 153 #[bv, .agg #[.int .i64 2, .int .i64 x, .string s]] w fun e w' => ∃ v', e = .returned v' ∧ w'.ownsRow B 5 1 v' (n + 8) (bs ++ u8s (2 :: be7 (x + 9007199254740992))) ∧ Below B w w' := by
  obtain ⟨A, c, rfl⟩ := own_slice HO
  go_enter Tryz.func153, Tryz.ntmps153
  go_wp2_with (first | (at_builtin; refine wp_append1 (W := w.alloc (.cells #[.int .i64 2, .int .i64 x, .string s] 86)) B rfl (.tmp 7) (.tmp 11) 136 5 (.int .u8 0) 1 1 rfl Tryz.underlying136 info_u8 rfl (by omega) (by omega) (.slice A n c) (n) _ [.int .u8 (2)] rfl rfl (by simp) rfl (by simp [Value.oneCell']) (HO.alloc _) (by simp; omega) (by omega) ?_; intro v1 w1 h1 t1 hor; obtain ⟨A1, c1, rfl⟩ := own_slice h1; have d0 := t1.heap (k := w.heap.size) (heap_alloc_new w _) (fun e => by have := (HO.lt _ e).2; omega); have d1 := cell_of_blk d0 0; have d2 := cell_of_blk d0 1; have d3 := cell_of_blk d0 2; clear d0))
  have B1 : Below B w w1 := below_turn ((Below.refl _ _).alloc hB _) t1 (by simp; omega) (fun k hk => own_ge HO hk)
  have sz1 := t1.size
  obtain ⟨m, hm⟩ : ∃ m, m = x + 9007199254740992 := ⟨_, rfl⟩
  rw [← hm]
  have m0 : 0 ≤ m := by omega
  have m1 : m < 18014398509481984 := by omega
  have HMM := Lib.hid hm
  clear hm
  go_loopw [0, 29] (fun b i wr => ∃ k : Nat, k ≤ 7 ∧ i = .int .i64 k ∧ wr.ownsRow B 5 1 b (n + 1 + k) (bs ++ u8s (2 :: (be7 m).take k)) ∧ Below B w wr ∧ B ≤ wr.heap.size) (fun _ i _ => 7 - (intOf i).toNat)
  case atStart => exact ⟨0, by omega, rfl, by simpa using h1, B1, by have := B1.size; omega⟩
  case round =>
    obtain ⟨k, hk, rfl, ho, bel, sz⟩ := hrel
    obtain ⟨A2, c2, rfl⟩ := own_slice ho
    by_cases hlt : k < 7
    · have hK := Lib.hid hk
      rcases (show k = 0 ∨ k = 1 ∨ k = 2 ∨ k = 3 ∨ k = 4 ∨ k = 5 ∨ k = 6 by omega) with rfl | rfl | rfl | rfl | rfl | rfl | rfl
      · go_wp2_with (at_builtin; refine wp_append1 B rfl (.tmp 32) (.tmp 39) 136 5 (.int .u8 0) 1 1 rfl Tryz.underlying136 info_u8 rfl (by omega) (by omega) (.slice A2 (n + 1 + 0) c2) (n + 1 + 0) _ [_] rfl rfl (by simp) rfl (by simp [Value.oneCell']) ho sz (by omega) ?_; intro v3 w3 h3 t3 _)
        go_roundw
        case rel => exact ⟨1, by omega, rfl, by rw [be7_snoc (k := 0) m (by omega) (by simp only [be7, List.getD_cons_zero]; omega)] at h3; exact h3, below_turn bel t3 sz (fun k hk => own_ge ho hk), Nat.le_trans sz t3.size⟩
        case measure => simp [intOf]
      · go_wp2_with (at_builtin; refine wp_append1 B rfl (.tmp 32) (.tmp 39) 136 5 (.int .u8 0) 1 1 rfl Tryz.underlying136 info_u8 rfl (by omega) (by omega) (.slice A2 (n + 1 + 1) c2) (n + 1 + 1) _ [_] rfl rfl (by simp) rfl (by simp [Value.oneCell']) ho sz (by omega) ?_; intro v3 w3 h3 t3 _)
        go_roundw
        case rel => exact ⟨2, by omega, rfl, by rw [be7_snoc (k := 1) m (by omega) (by simp only [be7, List.getD_cons_succ, List.getD_cons_zero])] at h3; exact h3, below_turn bel t3 sz (fun k hk => own_ge ho hk), Nat.le_trans sz t3.size⟩
        case measure => simp [intOf]
      · go_wp2_with (at_builtin; refine wp_append1 B rfl (.tmp 32) (.tmp 39) 136 5 (.int .u8 0) 1 1 rfl Tryz.underlying136 info_u8 rfl (by omega) (by omega) (.slice A2 (n + 1 + 2) c2) (n + 1 + 2) _ [_] rfl rfl (by simp) rfl (by simp [Value.oneCell']) ho sz (by omega) ?_; intro v3 w3 h3 t3 _)
        go_roundw
        case rel => exact ⟨3, by omega, rfl, by rw [be7_snoc (k := 2) m (by omega) (by simp only [be7, List.getD_cons_succ, List.getD_cons_zero])] at h3; exact h3, below_turn bel t3 sz (fun k hk => own_ge ho hk), Nat.le_trans sz t3.size⟩
        case measure => simp [intOf]
      · go_wp2_with (at_builtin; refine wp_append1 B rfl (.tmp 32) (.tmp 39) 136 5 (.int .u8 0) 1 1 rfl Tryz.underlying136 info_u8 rfl (by omega) (by omega) (.slice A2 (n + 1 + 3) c2) (n + 1 + 3) _ [_] rfl rfl (by simp) rfl (by simp [Value.oneCell']) ho sz (by omega) ?_; intro v3 w3 h3 t3 _)
        go_roundw
        case rel => exact ⟨4, by omega, rfl, by rw [be7_snoc (k := 3) m (by omega) (by simp only [be7, List.getD_cons_succ, List.getD_cons_zero])] at h3; exact h3, below_turn bel t3 sz (fun k hk => own_ge ho hk), Nat.le_trans sz t3.size⟩
        case measure => simp [intOf]
      · go_wp2_with (at_builtin; refine wp_append1 B rfl (.tmp 32) (.tmp 39) 136 5 (.int .u8 0) 1 1 rfl Tryz.underlying136 info_u8 rfl (by omega) (by omega) (.slice A2 (n + 1 + 4) c2) (n + 1 + 4) _ [_] rfl rfl (by simp) rfl (by simp [Value.oneCell']) ho sz (by omega) ?_; intro v3 w3 h3 t3 _)
        go_roundw
        case rel => exact ⟨5, by omega, rfl, by rw [be7_snoc (k := 4) m (by omega) (by simp only [be7, List.getD_cons_succ, List.getD_cons_zero])] at h3; exact h3, below_turn bel t3 sz (fun k hk => own_ge ho hk), Nat.le_trans sz t3.size⟩
        case measure => simp [intOf]
      · go_wp2_with (at_builtin; refine wp_append1 B rfl (.tmp 32) (.tmp 39) 136 5 (.int .u8 0) 1 1 rfl Tryz.underlying136 info_u8 rfl (by omega) (by omega) (.slice A2 (n + 1 + 5) c2) (n + 1 + 5) _ [_] rfl rfl (by simp) rfl (by simp [Value.oneCell']) ho sz (by omega) ?_; intro v3 w3 h3 t3 _)
        go_roundw
        case rel => exact ⟨6, by omega, rfl, by rw [be7_snoc (k := 5) m (by omega) (by simp only [be7, List.getD_cons_succ, List.getD_cons_zero])] at h3; exact h3, below_turn bel t3 sz (fun k hk => own_ge ho hk), Nat.le_trans sz t3.size⟩
        case measure => simp [intOf]
      · go_wp2_with (at_builtin; refine wp_append1 B rfl (.tmp 32) (.tmp 39) 136 5 (.int .u8 0) 1 1 rfl Tryz.underlying136 info_u8 rfl (by omega) (by omega) (.slice A2 (n + 1 + 6) c2) (n + 1 + 6) _ [_] rfl rfl (by simp) rfl (by simp [Value.oneCell']) ho sz (by omega) ?_; intro v3 w3 h3 t3 _)
        go_roundw
        case rel => exact ⟨7, by omega, rfl, by rw [be7_snoc (k := 6) m (by omega) (by simp only [be7, List.getD_cons_succ, List.getD_cons_zero])] at h3; exact h3, below_turn bel t3 sz (fun k hk => own_ge ho hk), Nat.le_trans sz t3.size⟩
        case measure => simp [intOf]
    · obtain rfl : k = 7 := by omega
      have HM := Lib.hid (And.intro ho bel)
      clear ho
      go_wp2
      go_ret
      refine ⟨_, rfl, ?_, HM.out.2⟩
      have h7 := HM.out.1
      rw [HMM.out] at h7
      exact h7
theorem below_drew {B : Nat} {a w : World} (h : Below B a w) : Below B a w.drew := ⟨h.os, h.tape, h.output, h.size, h.block⟩
theorem u8_small {n : Int} (h0 : 0 ≤ n) (h1 : n ≤ 255) : IntKind.u8.wrap n = n := by
  simp [IntKind.wrap, IntKind.bits, IntKind.signed]
  omega
theorem put_bool {w : World} {B n : Nat} {bv : Value} {bs : List Value} (x : Int) (s : ByteArray) (HO : w.ownsRow B 5 1 bv n bs) (hB : B ≤ w.heap.size) (hn : n ≤ 100000) (h0 : 0 ≤ x) (h01 : x ≤ 1) :
    Calls Tryz.prog 153 #[bv, .agg #[.int .i64 1, .int .i64 x, .string s]] w fun e w' => ∃ v', e = .returned v' ∧ w'.ownsRow B 5 1 v' (n + 2) (bs ++ u8s [1, x]) ∧ Below B w w' := by
  obtain ⟨A, c, rfl⟩ := own_slice HO
  go_enter Tryz.func153, Tryz.ntmps153
  go_wp2_with (first
    | (at_builtin; refine wp_append1 (W := w.alloc (.cells #[.int .i64 1, .int .i64 x, .string s] 86)) B rfl (.tmp 7) (.tmp 11) 136 5 (.int .u8 0) 1 1 rfl Tryz.underlying136 info_u8 rfl (by omega) (by omega) (.slice A n c) (n) _ [.int .u8 (1)] rfl rfl (by simp) rfl (by simp [Value.oneCell']) (HO.alloc _) (by simp; omega) (by omega) ?_; intro v1 w1 h1 t1 hor; obtain ⟨A1, c1, rfl⟩ := own_slice h1; have d0 := t1.heap (k := w.heap.size) (heap_alloc_new w _) (fun e => by have := (HO.lt _ e).2; omega); have d1 := cell_of_blk d0 0; have d2 := cell_of_blk d0 1; have d3 := cell_of_blk d0 2; clear d0)
    | (at_builtin; refine wp_append1 B rfl (.tmp 17) (.tmp 21) 136 5 (.int .u8 0) 1 1 rfl Tryz.underlying136 info_u8 rfl (by omega) (by omega) (.slice A1 (n + 1) c1) (n + 1) _ [.int .u8 x] rfl rfl (by simp) rfl (by simp [Value.oneCell']) h1 (Nat.le_trans (by simp; omega) t1.size) (by omega) ?_; intro v2 w2 h2 t2 _))
  go_ret
  refine ⟨_, rfl, by simpa [u8s] using h2, ?_⟩
  have sz : B ≤ (w.alloc (.cells #[.int .i64 1, .int .i64 x, .string s] 86)).heap.size := by simp; omega
  exact below_turn (below_turn ((Below.refl _ _).alloc hB _) t1 sz (fun k hk => own_ge HO hk)) t2 (Nat.le_trans sz t1.size) (fun k hk => own_ge h1 hk)
theorem bytesOf_length (s : ByteArray) : (bytesOf s).length = s.size := by simp [bytesOf]
set_option maxHeartbeats 1000000 in
theorem put_text {w : World} {B n : Nat} {bv : Value} {bs : List Value} (s : ByteArray) (HO : w.ownsRow B 5 1 bv n bs) (hB : B ≤ w.heap.size) (hn : n ≤ 100000) (hs : s.size ≤ 64) :
    Calls Tryz.prog 153 #[bv, .agg #[.int .i64 3, .int .i64 0, .string s]] w fun e w' => ∃ v', e = .returned v' ∧ w'.ownsRow B 5 1 v' (n + 2 + s.size) (bs ++ u8s (3 :: (s.size : Int) :: bytesOf s)) ∧ Below B w w' := by
  obtain ⟨A, c, rfl⟩ := own_slice HO
  go_enter Tryz.func153, Tryz.ntmps153
  go_wp2_with (first
    | (at_builtin; refine wp_append1 (W := w.alloc (.cells #[.int .i64 3, .int .i64 0, .string s] 86)) B rfl (.tmp 7) (.tmp 11) 136 5 (.int .u8 0) 1 1 rfl Tryz.underlying136 info_u8 rfl (by omega) (by omega) (.slice A n c) (n) _ [.int .u8 (3)] rfl rfl (by simp) rfl (by simp [Value.oneCell']) (HO.alloc _) (by simp; omega) (by omega) ?_; intro v1 w1 h1 t1 hor; obtain ⟨A1, c1, rfl⟩ := own_slice h1; have d0 := t1.heap (k := w.heap.size) (heap_alloc_new w _) (fun e => by have := (HO.lt _ e).2; omega); have d1 := cell_of_blk d0 0; have d2 := cell_of_blk d0 1; have d3 := cell_of_blk d0 2; clear d0))
  have sz1 : B ≤ w1.heap.size := Nat.le_trans (by simp; omega) t1.size
  have d3' : w1.drew.cell? ⟨w.heap.size, 2, none⟩ = some (.string s) := d3
  have hne : ∀ k, (Value.slice A1 (n + 1) c1).ownBlock = some k → k ≠ w.heap.size := by
    intro k hk e
    rcases hor with h | ⟨b, h, hb⟩
    · have := (HO.lt k (h ▸ hk)).2
      omega
    · rw [h] at hk
      injection hk with hk
      simp at hb
      omega
  have B1 : Below B w w1 := below_turn ((Below.refl _ _).alloc hB _) t1 (by simp; omega) (fun k hk => own_ge HO hk)
  have HH := Lib.hid (And.intro hne B1)
  clear hor hne B1 t1
  have h1d : w1.drew.ownsRow B 5 1 (.slice A1 (n + 1) c1) (n + 1) (bs ++ [Value.int .u8 3]) := h1
  have d3a : (w1.alloc (.cells #[.int .u8 s.size] 5)).cell? ⟨w.heap.size, 2, none⟩ = some (.string s) := (World.cell?_alloc_lt _ _ _ (World.block_lt_of_cell? w1 _ d3)).trans d3
  have hw8 : IntKind.u8.wrap (s.size : Int) = s.size := u8_small (by omega) (by omega)
  go_region_law (first
    | (refine step_of_wp rfl (show Oper.wp _ _ _ (w1.drew.alloc (.cells #[.int .u8 s.size] 5)) _ _ from op_append1 (W := w1.drew) B (.tmp 44) (.tmp 49) 136 5 (.int .u8 0) 1 1 rfl Tryz.underlying136 info_u8 rfl (by omega) (by omega) (.slice A1 (n + 1) c1) (n + 1) (bs ++ [Value.int .u8 3]) [Value.int .u8 s.size] rfl rfl (by simp) rfl (by simp [Value.oneCell']) h1d sz1 (by omega) ?_); intro v2 w2 h2 t2 hor2; obtain ⟨A2, c2, rfl⟩ := own_slice h2; have e3 := cell_turn d3' t2 (fun e => HH.out.1 _ e rfl))
    | (refine step_of_wp rfl (op_appendS B (.tmp 50) (.tmp 52) 136 9 5 rfl Tryz.underlying136 Tryz.underlying9 info_u8 (.slice A2 (n + 1 + 1) c2) (n + 1 + 1) _ rfl s rfl h2 (Nat.le_trans sz1 t2.size) (by omega) ?_); intro v3 w3 h3 t3))
  all_goals
    go_wp2
    go_ret
    refine ⟨_, rfl, ?_, below_turn (below_turn (below_drew HH.out.2) t2 sz1 (fun k hk => own_ge h1 hk)) t3 (Nat.le_trans sz1 t2.size) (fun k hk => own_ge h2 hk)⟩
    rw [strCells_bytes] at h3
    simpa [u8s] using h3
end Go.Proofs.YtkbapoeilcapfaaGreat

/- row.Put: a row's bytes. -/
namespace Go.Proofs.YtkbapoeilcapfaaGreat
open Go.RowKit

theorem encV_length_le (v : V) (h : vOk v = true) : (encV v).length ≤ 66 := by
  have h := of_decide_eq_true h
  unfold encV
  split
  · simp
  · split
    · simp [be7]
    · split
      · simp only [List.length_cons, bytesOf_length]
        omega
      · simp
theorem put_walk {w : World} {B n : Nat} {bv : Value} {bs : List Value} (v : V) (hv : vOk v = true) (HO : w.ownsRow B 5 1 bv n bs) (hB : B ≤ w.heap.size) (hn : n ≤ 100000) :
    Calls Tryz.prog 153 #[bv, .agg #[.int .i64 v.k, .int .i64 v.n, .string v.s]] w fun e w' => ∃ v', e = .returned v' ∧ w'.ownsRow B 5 1 v' (n + (encV v).length) (bs ++ u8s (encV v)) ∧ Below B w w' := by
  obtain ⟨k, m, s⟩ := v
  have h := of_decide_eq_true hv
  dsimp only at h ⊢
  rcases h with ⟨rfl, rfl, _⟩ | ⟨rfl, h2, _⟩ | ⟨rfl, h2, h3, _⟩ | ⟨rfl, rfl, h2⟩
  · exact put_null s HO hB hn
  · exact put_bool m s HO hB hn (by omega) (by omega)
  · exact put_int m s HO hB hn h2 h3
  · have := put_text s HO hB hn h2
    have e : n + (encV ⟨3, 0, s⟩).length = n + 2 + s.size := by simp [encV, bytesOf_length]; omega
    rw [e]
    exact this
theorem encs_length_le (r : List V) (h : r.all vOk = true) : (r.flatMap encV).length ≤ r.length * 66 := by
  induction r with
  | nil => simp
  | cons v r ih =>
    rw [List.all_cons, Bool.and_eq_true] at h
    have h1 := encV_length_le v h.1
    have h2 := ih h.2
    simp only [List.flatMap_cons, List.length_append, List.length_cons]
    omega
theorem flat_snoc {r : List V} {k : Nat} {v : V} (h : r[k]? = some v) : (r.take (k + 1)).flatMap encV = (r.take k).flatMap encV ++ encV v := by
  obtain ⟨hl, e⟩ := List.getElem?_eq_some_iff.1 h
  rw [List.take_succ_eq_append_getElem hl, e, List.flatMap_append]
  simp
theorem take_all {r : List V} {p : V → Bool} (k : Nat) (h : r.all p = true) : (r.take k).all p = true := by
  rw [List.all_eq_true] at h ⊢
  exact fun x hx => h x (List.mem_of_mem_take hx)

theorem rput_bad {w : World} {A : Option Addr} {n c : Nat} (r : List V) (hr : RdV w A n r) (hk : rowOk r = false) :
    Calls Tryz.prog 133 #[.slice A n c] w fun e w' => e = .returned (.tuple #[.slice none 0 0, .int .i64 20]) ∧ Below w.heap.size w w' := by
  have hc := rcheck (c := c) r hr
  rw [show rErr r = 20 by simp [rErr, hk]] at hc
  have HC := Lib.hid hc
  clear hc hr hk
  go_enter Tryz.func133, Tryz.ntmps133
  go_wp2_with (go_at_call 152; refine HC.out.mono ?_; rintro e w1 ⟨rfl, b1⟩)
  go_ret2
  exact ⟨rfl, b1⟩

theorem rput_ok {w : World} {A : Option Addr} {n c : Nat} (r : List V) (hr : RdV w A n r) (hk : rowOk r = true) :
    Calls Tryz.prog 133 #[.slice A n c] w fun e w' => ∃ v, e = .returned (.tuple #[v, .int .i64 0]) ∧ w'.ownsRow w.heap.size 5 1 v (encR r).length (u8s (encR r)) ∧ Below w.heap.size w w' := by
  have hc := rcheck (c := c) r hr
  rw [show rErr r = 0 by simp [rErr, hk]] at hc
  have HC := Lib.hid hc
  simp only [rowOk, Bool.and_eq_true, decide_eq_true_eq] at hk
  obtain ⟨hle, hall⟩ := hk
  have hlen := hr.len
  have hn : n ≤ 32 := by omega
  have HALL := Lib.hid hall
  have HLEN := Lib.hid hlen
  have hw8 : IntKind.u8.wrap (n : Int) = n := u8_small (by omega) (by omega)
  clear hc hle hall hlen
  go_enter Tryz.func133, Tryz.ntmps133
  go_wp2_with (go_at_call 152; refine HC.out.mono ?_; rintro e w1 ⟨rfl, b1⟩)
  have hown : (w1.alloc (.cells #[.int .u8 n] 5)).ownsRow w.heap.size 5 1 (.slice (some ⟨w1.heap.size, 0, none⟩) 1 1) (1 + ((r.take 0).flatMap encV).length) (u8s ((n : Int) :: (r.take 0).flatMap encV)) := by
    have := World.ownsRow_lit (base := w.heap.size) (e := 5) (size := 1) w1 #[.int .u8 n] 1 b1.size (by simp [maxLen]) (by simp)
    simpa [u8s] using this
  have bel1 : Below w.heap.size w (w1.alloc (.cells #[.int .u8 n] 5)) := b1.alloc b1.size _
  go_loopw [5, 19] (fun b i wr => ∃ k : Nat, k ≤ n ∧ i = .int .i64 k ∧ wr.ownsRow w.heap.size 5 1 b (1 + ((r.take k).flatMap encV).length) (u8s ((n : Int) :: (r.take k).flatMap encV)) ∧ Below w.heap.size w wr) (fun _ i _ => n - (intOf i).toNat)
  case atStart => exact ⟨0, Nat.zero_le _, rfl, hown, bel1⟩
  case round =>
    clear hown bel1 b1
    obtain ⟨k, hkn, rfl, ho, bel⟩ := hrel
    by_cases hlt : k < n
    · obtain ⟨ad, v, rfl, had, hv, hs, d0, d1, d2⟩ := hr.at_ bel hlt
      have HV := Lib.hid hv
      have hvo : vOk v = true := by
        have := HALL.out
        rw [List.all_eq_true] at this
        obtain ⟨hl, e⟩ := List.getElem?_eq_some_iff.1 hv
        exact this v (e ▸ List.getElem_mem hl)
      have hle : ((r.take k).flatMap encV).length ≤ 32 * 66 := by
        have := encs_length_le (r.take k) (take_all k HALL.out)
        have h2 : (r.take k).length ≤ 32 := by simp; omega
        omega
      have HP := Lib.hid (fun (W : World) (HO : W.ownsRow w.heap.size 5 1 u5 (1 + ((r.take k).flatMap encV).length) (u8s ((n : Int) :: (r.take k).flatMap encV))) (hB : w.heap.size ≤ W.heap.size) => put_walk v hvo HO hB (by omega))
      have sz := bel.size
      clear hr hv hvo hle
      go_wp2_with (go_at_call 153; refine (HP.out _ (ho.alloc _) (by simp; omega)).mono ?_; rintro e w2 ⟨v', rfl, ho2, b2⟩)
      have ho3 : w2.ownsRow w.heap.size 5 1 v' (1 + ((r.take (k + 1)).flatMap encV).length) (u8s ((n : Int) :: (r.take (k + 1)).flatMap encV)) := by
        rw [flat_snoc HV.out]
        simpa [u8s, Nat.add_assoc] using ho2
      have b3 : Below w.heap.size w w2 := (bel.alloc sz _).trans b2
      go_roundw
      case rel => exact ⟨k + 1, by omega, by go_num, ho3, b3⟩
      case measure => simp [intOf]; omega
    · obtain rfl : k = n := by omega
      have ho3 : wr.ownsRow w.heap.size 5 1 u5 (encR r).length (u8s (encR r)) := by
        rw [List.take_of_length_le (by have := HLEN.out; omega)] at ho
        simpa [encR, HLEN.out, Nat.add_comm] using ho
      clear hr
      go_wp2
      go_ret2
      exact ⟨_, rfl, ho3, bel⟩
end Go.Proofs.YtkbapoeilcapfaaGreat

/- the document's bytes of a row. -/
namespace Go.Proofs.YtkbapoeilcapfaaGreat
open Go.RowKit

theorem refput {w : World} {A : Option Addr} {n c : Nat} (r : List V) (hr : RdV w A n r) (hk : rowOk r = true) :
    Calls Tryz.prog 92 #[.slice A n c] w fun e w' => ∃ v, e = .returned v ∧ w'.ownsRow w.heap.size 5 1 v (encR r).length (u8s (encR r)) ∧ Below w.heap.size w w' := by
  simp only [rowOk, Bool.and_eq_true, decide_eq_true_eq] at hk
  obtain ⟨hle, hall⟩ := hk
  have hlen := hr.len
  have hn : n ≤ 32 := by omega
  have HALL := Lib.hid hall
  have HLEN := Lib.hid hlen
  have hw8 : IntKind.u8.wrap (n : Int) = n := u8_small (by omega) (by omega)
  clear hle hall hlen
  go_enter Tryz.func92, Tryz.ntmps92
  go_wp2
  have hown : (w.alloc (.cells #[.int .u8 n] 5)).ownsRow w.heap.size 5 1 (.slice (some ⟨w.heap.size, 0, none⟩) 1 1) (1 + ((r.take 0).flatMap encV).length) (u8s ((n : Int) :: (r.take 0).flatMap encV)) := by
    have := World.ownsRow_lit (base := w.heap.size) (e := 5) (size := 1) w #[.int .u8 n] 1 (Nat.le_refl _) (by simp [maxLen]) (by simp)
    simpa [u8s] using this
  have bel1 : Below w.heap.size w (w.alloc (.cells #[.int .u8 n] 5)) := (Below.refl _ _).alloc (Nat.le_refl _) _
  go_loopw [3, 4] (fun b i wr => ∃ k : Nat, k ≤ n ∧ i = .int .i64 k ∧ wr.ownsRow w.heap.size 5 1 b (1 + ((r.take k).flatMap encV).length) (u8s ((n : Int) :: (r.take k).flatMap encV)) ∧ Below w.heap.size w wr) (fun _ i _ => n - (intOf i).toNat)
  case atStart => exact ⟨0, Nat.zero_le _, rfl, hown, bel1⟩
  case round =>
    clear hown bel1
    obtain ⟨k, hkn, rfl, ho, bel⟩ := hrel
    by_cases hlt : k < n
    · obtain ⟨ad, v, rfl, had, hv, hs, d0, d1, d2⟩ := hr.at_ bel hlt
      have HV := Lib.hid hv
      have hvo : vOk v = true := by
        have := HALL.out
        rw [List.all_eq_true] at this
        obtain ⟨hl, e⟩ := List.getElem?_eq_some_iff.1 hv
        exact this v (e ▸ List.getElem_mem hl)
      have hle : ((r.take k).flatMap encV).length ≤ 32 * 66 := by
        have := encs_length_le (r.take k) (take_all k HALL.out)
        have h2 : (r.take k).length ≤ 32 := by simp; omega
        omega
      have sz := bel.size
      have next : ∀ (W : World) (v' : Value), W.ownsRow w.heap.size 5 1 v' (1 + ((r.take k).flatMap encV).length + (encV v).length) (u8s ((n : Int) :: (r.take k).flatMap encV) ++ u8s (encV v)) → W.ownsRow w.heap.size 5 1 v' (1 + ((r.take (k + 1)).flatMap encV).length) (u8s ((n : Int) :: (r.take (k + 1)).flatMap encV)) := by
        intro W v' h
        rw [flat_snoc HV.out]
        simpa [u8s, Nat.add_assoc] using h
      obtain ⟨N, hN⟩ : ∃ N, N = 1 + ((r.take k).flatMap encV).length := ⟨_, rfl⟩
      obtain ⟨bs, hbs⟩ : ∃ bs, bs = u8s ((n : Int) :: (r.take k).flatMap encV) := ⟨_, rfl⟩
      rw [← hN, ← hbs] at ho next
      have NX := Lib.hid next
      have hN2 : N ≤ 3000 := by omega
      clear hr hv hle next hN hbs
      obtain ⟨A0, c0, rfl⟩ := own_slice ho
      obtain ⟨kk, m, s⟩ := v
      have h := of_decide_eq_true hvo
      clear hvo
      dsimp only at h d0 d1 d2 hs
      rcases h with ⟨rfl, rfl, _⟩ | ⟨rfl, h2, _⟩ | ⟨rfl, h2, h3, _⟩ | ⟨rfl, rfl, h2⟩
      · go_wp2_with (first | (at_builtin; refine wp_append1 (W := wr.alloc (.cells #[.int .i64 0, .int .i64 0, .string s] 86)) w.heap.size rfl (.tmp 22) (.tmp 26) 136 5 (.int .u8 0) 1 1 rfl Tryz.underlying136 info_u8 rfl (by omega) (by omega) (.slice A0 N c0) N _ [.int .u8 (0)] rfl rfl (by simp) rfl (by simp [Value.oneCell']) (ho.alloc _) (by simp; omega) (by omega) ?_; intro v1 w1 h1 t1 hor; obtain ⟨A1, c1, rfl⟩ := own_slice h1; have e0 := t1.heap (k := wr.heap.size) (heap_alloc_new wr _) (fun e => by have := (ho.lt _ e).2; omega); have e1 := cell_of_blk e0 0; have e2 := cell_of_blk e0 1; have e3 := cell_of_blk e0 2; clear e0))
        have B1 : Below w.heap.size w w1 := below_turn (bel.alloc sz _) t1 (by simp; omega) (fun k hk => own_ge ho hk)
        have h4 := NX.out _ _ h1
        go_roundw
        case rel => exact ⟨k + 1, by omega, by go_num, h4, B1⟩
        case measure => simp [intOf]; omega
      · go_wp2_with (first
          | (at_builtin; refine wp_append1 (W := wr.alloc (.cells #[.int .i64 1, .int .i64 m, .string s] 86)) w.heap.size rfl (.tmp 22) (.tmp 26) 136 5 (.int .u8 0) 1 1 rfl Tryz.underlying136 info_u8 rfl (by omega) (by omega) (.slice A0 N c0) N _ [.int .u8 (1)] rfl rfl (by simp) rfl (by simp [Value.oneCell']) (ho.alloc _) (by simp; omega) (by omega) ?_; intro v1 w1 h1 t1 hor; obtain ⟨A1, c1, rfl⟩ := own_slice h1; have e0 := t1.heap (k := wr.heap.size) (heap_alloc_new wr _) (fun e => by have := (ho.lt _ e).2; omega); have e1 := cell_of_blk e0 0; have e2 := cell_of_blk e0 1; have e3 := cell_of_blk e0 2; clear e0)
          | (at_builtin; refine wp_append1 w.heap.size rfl (.tmp 32) (.tmp 36) 136 5 (.int .u8 0) 1 1 rfl Tryz.underlying136 info_u8 rfl (by omega) (by omega) (.slice A1 (N + 1) c1) (N + 1) _ [.int .u8 m] rfl rfl (by simp) (by simp) (by simp [Value.oneCell']) h1 (Nat.le_trans (by simp; omega) t1.size) (by omega) ?_; intro v2 w2 g2 t2 _))
        have B1 : Below w.heap.size w w1 := below_turn (bel.alloc sz _) t1 (by simp; omega) (fun k hk => own_ge ho hk)
        have sz1 : w.heap.size ≤ w1.heap.size := Nat.le_trans (by simp; omega) t1.size
        have B2 : Below w.heap.size w w2 := below_turn B1 t2 sz1 (fun k hk => own_ge h1 hk)
        have h4 := NX.out w2 v2 (by simpa [encV, u8s, Nat.add_assoc] using g2)
        go_roundw
        case rel => exact ⟨k + 1, by omega, by go_num, h4, B2⟩
        case measure => simp [intOf]; omega
      · go_wp2_with ((at_builtin; refine wp_append1 (W := wr.alloc (.cells #[.int .i64 2, .int .i64 m, .string s] 86)) w.heap.size rfl (.tmp 22) (.tmp 26) 136 5 (.int .u8 0) 1 1 rfl Tryz.underlying136 info_u8 rfl (by omega) (by omega) (.slice A0 N c0) N _ [.int .u8 (2)] rfl rfl (by simp) rfl (by simp [Value.oneCell']) (ho.alloc _) (by simp; omega) (by omega) ?_; intro v1 w1 h1 t1 hor; obtain ⟨A1, c1, rfl⟩ := own_slice h1; have e0 := t1.heap (k := wr.heap.size) (heap_alloc_new wr _) (fun e => by have := (ho.lt _ e).2; omega); have e1 := cell_of_blk e0 0; have e2 := cell_of_blk e0 1; have e3 := cell_of_blk e0 2; clear e0))
        have B1 : Below w.heap.size w w1 := below_turn (bel.alloc sz _) t1 (by simp; omega) (fun k hk => own_ge ho hk)
        have sz1 : w.heap.size ≤ w1.heap.size := Nat.le_trans (by simp; omega) t1.size
        obtain ⟨mm, hm⟩ : ∃ mm, mm = m + 9007199254740992 := ⟨_, rfl⟩
        rw [← hm]
        have m0 : 0 ≤ mm := by omega
        have m1 : mm < 18014398509481984 := by omega
        have HMM := Lib.hid hm
        clear hm ho hor t1
        go_loopw [3, 7] (fun b i wq => ∃ j : Nat, j ≤ 7 ∧ i = .int .i64 (6 - (j : Int)) ∧ wq.ownsRow w.heap.size 5 1 b (N + 1 + j) (bs ++ u8s (2 :: (be7 mm).take j)) ∧ Below w.heap.size w wq) (fun _ i _ => (intOf i + 1).toNat)
        case atStart => exact ⟨0, by omega, rfl, by simpa [u8s] using h1, B1⟩
        case round =>
          obtain ⟨j, hj, he, hq, belq⟩ := hrel
          obtain ⟨A2, c2, rfl⟩ := own_slice hq
          have sq := belq.size
          by_cases hjlt : j < 7
          · rcases (show j = 0 ∨ j = 1 ∨ j = 2 ∨ j = 3 ∨ j = 4 ∨ j = 5 ∨ j = 6 by omega) with rfl | rfl | rfl | rfl | rfl | rfl | rfl
            · obtain rfl : u7 = .int .i64 6 := he
              go_wp2_with (at_builtin; refine wp_append1 w.heap.size rfl (.tmp 47) (.tmp 53) 136 5 (.int .u8 0) 1 1 rfl Tryz.underlying136 info_u8 rfl (by omega) (by omega) (.slice A2 (N + 1 + 0) c2) (N + 1 + 0) _ [_] rfl rfl (by simp) rfl (by simp [Value.oneCell']) hq sq (by omega) ?_; intro v3 w3 h3 t3 _)
              have h4 : w3.ownsRow w.heap.size 5 1 v3 (N + 1 + 1) (bs ++ u8s (2 :: (be7 mm).take 1)) := by
                rw [be7_snoc (k := 0) mm (by omega) (by simp only [be7, List.getD_cons_zero]; omega)] at h3
                exact h3
              go_roundw
              case rel => exact ⟨1, by omega, rfl, h4, below_turn belq t3 sq (fun k hk => own_ge hq hk)⟩
              case measure => simp [intOf]
            · obtain rfl : u7 = .int .i64 5 := he
              go_wp2_with (at_builtin; refine wp_append1 w.heap.size rfl (.tmp 47) (.tmp 53) 136 5 (.int .u8 0) 1 1 rfl Tryz.underlying136 info_u8 rfl (by omega) (by omega) (.slice A2 (N + 1 + 1) c2) (N + 1 + 1) _ [_] rfl rfl (by simp) rfl (by simp [Value.oneCell']) hq sq (by omega) ?_; intro v3 w3 h3 t3 _)
              have h4 : w3.ownsRow w.heap.size 5 1 v3 (N + 1 + 2) (bs ++ u8s (2 :: (be7 mm).take 2)) := by
                rw [be7_snoc (k := 1) mm (by omega) (by simp only [be7, List.getD_cons_succ, List.getD_cons_zero])] at h3
                exact h3
              go_roundw
              case rel => exact ⟨2, by omega, rfl, h4, below_turn belq t3 sq (fun k hk => own_ge hq hk)⟩
              case measure => simp [intOf]
            · obtain rfl : u7 = .int .i64 4 := he
              go_wp2_with (at_builtin; refine wp_append1 w.heap.size rfl (.tmp 47) (.tmp 53) 136 5 (.int .u8 0) 1 1 rfl Tryz.underlying136 info_u8 rfl (by omega) (by omega) (.slice A2 (N + 1 + 2) c2) (N + 1 + 2) _ [_] rfl rfl (by simp) rfl (by simp [Value.oneCell']) hq sq (by omega) ?_; intro v3 w3 h3 t3 _)
              have h4 : w3.ownsRow w.heap.size 5 1 v3 (N + 1 + 3) (bs ++ u8s (2 :: (be7 mm).take 3)) := by
                rw [be7_snoc (k := 2) mm (by omega) (by simp only [be7, List.getD_cons_succ, List.getD_cons_zero])] at h3
                exact h3
              go_roundw
              case rel => exact ⟨3, by omega, rfl, h4, below_turn belq t3 sq (fun k hk => own_ge hq hk)⟩
              case measure => simp [intOf]
            · obtain rfl : u7 = .int .i64 3 := he
              go_wp2_with (at_builtin; refine wp_append1 w.heap.size rfl (.tmp 47) (.tmp 53) 136 5 (.int .u8 0) 1 1 rfl Tryz.underlying136 info_u8 rfl (by omega) (by omega) (.slice A2 (N + 1 + 3) c2) (N + 1 + 3) _ [_] rfl rfl (by simp) rfl (by simp [Value.oneCell']) hq sq (by omega) ?_; intro v3 w3 h3 t3 _)
              have h4 : w3.ownsRow w.heap.size 5 1 v3 (N + 1 + 4) (bs ++ u8s (2 :: (be7 mm).take 4)) := by
                rw [be7_snoc (k := 3) mm (by omega) (by simp only [be7, List.getD_cons_succ, List.getD_cons_zero])] at h3
                exact h3
              go_roundw
              case rel => exact ⟨4, by omega, rfl, h4, below_turn belq t3 sq (fun k hk => own_ge hq hk)⟩
              case measure => simp [intOf]
            · obtain rfl : u7 = .int .i64 2 := he
              go_wp2_with (at_builtin; refine wp_append1 w.heap.size rfl (.tmp 47) (.tmp 53) 136 5 (.int .u8 0) 1 1 rfl Tryz.underlying136 info_u8 rfl (by omega) (by omega) (.slice A2 (N + 1 + 4) c2) (N + 1 + 4) _ [_] rfl rfl (by simp) rfl (by simp [Value.oneCell']) hq sq (by omega) ?_; intro v3 w3 h3 t3 _)
              have h4 : w3.ownsRow w.heap.size 5 1 v3 (N + 1 + 5) (bs ++ u8s (2 :: (be7 mm).take 5)) := by
                rw [be7_snoc (k := 4) mm (by omega) (by simp only [be7, List.getD_cons_succ, List.getD_cons_zero])] at h3
                exact h3
              go_roundw
              case rel => exact ⟨5, by omega, rfl, h4, below_turn belq t3 sq (fun k hk => own_ge hq hk)⟩
              case measure => simp [intOf]
            · obtain rfl : u7 = .int .i64 1 := he
              go_wp2_with (at_builtin; refine wp_append1 w.heap.size rfl (.tmp 47) (.tmp 53) 136 5 (.int .u8 0) 1 1 rfl Tryz.underlying136 info_u8 rfl (by omega) (by omega) (.slice A2 (N + 1 + 5) c2) (N + 1 + 5) _ [_] rfl rfl (by simp) rfl (by simp [Value.oneCell']) hq sq (by omega) ?_; intro v3 w3 h3 t3 _)
              have h4 : w3.ownsRow w.heap.size 5 1 v3 (N + 1 + 6) (bs ++ u8s (2 :: (be7 mm).take 6)) := by
                rw [be7_snoc (k := 5) mm (by omega) (by simp only [be7, List.getD_cons_succ, List.getD_cons_zero])] at h3
                exact h3
              go_roundw
              case rel => exact ⟨6, by omega, rfl, h4, below_turn belq t3 sq (fun k hk => own_ge hq hk)⟩
              case measure => simp [intOf]
            · obtain rfl : u7 = .int .i64 0 := he
              go_wp2_with (at_builtin; refine wp_append1 w.heap.size rfl (.tmp 47) (.tmp 53) 136 5 (.int .u8 0) 1 1 rfl Tryz.underlying136 info_u8 rfl (by omega) (by omega) (.slice A2 (N + 1 + 6) c2) (N + 1 + 6) _ [_] rfl rfl (by simp) rfl (by simp [Value.oneCell']) hq sq (by omega) ?_; intro v3 w3 h3 t3 _)
              have h4 : w3.ownsRow w.heap.size 5 1 v3 (N + 1 + 7) (bs ++ u8s (2 :: (be7 mm).take 7)) := by
                rw [be7_snoc (k := 6) mm (by omega) (by simp only [be7, List.getD_cons_succ, List.getD_cons_zero])] at h3
                exact h3
              go_roundw
              case rel => exact ⟨7, by omega, rfl, h4, below_turn belq t3 sq (fun k hk => own_ge hq hk)⟩
              case measure => simp [intOf]
          · obtain rfl : j = 7 := by omega
            obtain rfl : u7 = .int .i64 (-1) := he
            have h4 := NX.out wr (.slice A2 (N + 1 + 7) c2) (by
              rw [HMM.out] at hq
              simpa [encV, u8s, be7, Nat.add_assoc] using hq)
            go_wp2
            go_roundw
            case rel => exact ⟨k + 1, by omega, by go_num, h4, belq⟩
            case measure => simp [intOf]; omega
      · have hw9 : IntKind.u8.wrap (s.size : Int) = s.size := u8_small (by omega) (by omega)
        go_wp2_with (first
          | (at_builtin; refine wp_append1 (W := wr.alloc (.cells #[.int .i64 3, .int .i64 0, .string s] 86)) w.heap.size rfl (.tmp 22) (.tmp 26) 136 5 (.int .u8 0) 1 1 rfl Tryz.underlying136 info_u8 rfl (by omega) (by omega) (.slice A0 N c0) N _ [.int .u8 (3)] rfl rfl (by simp) rfl (by simp [Value.oneCell']) (ho.alloc _) (by simp; omega) (by omega) ?_; intro v1 w1 h1 t1 hor; obtain ⟨A1, c1, rfl⟩ := own_slice h1; have e0 := t1.heap (k := wr.heap.size) (heap_alloc_new wr _) (fun e => by have := (ho.lt _ e).2; omega); have e1 := cell_of_blk e0 0; have e2 := cell_of_blk e0 1; have e3 := cell_of_blk e0 2; clear e0)
          | (at_builtin; refine wp_append1 w.heap.size rfl (.tmp 57) (.tmp 62) 136 5 (.int .u8 0) 1 1 rfl Tryz.underlying136 info_u8 rfl (by omega) (by omega) (.slice A1 (N + 1) c1) (N + 1) _ [.int .u8 s.size] rfl rfl (by simp) (by simp) (by simp [Value.oneCell']) h1 (Nat.le_trans (by simp; omega) t1.size) (by omega) ?_; intro v2 w2 g2 t2 _; obtain ⟨A2, c2, rfl⟩ := own_slice g2; have f3 := cell_turn e3 t2 (fun e => by have e' : (Value.slice A1 (N + 1) c1).ownBlock = some wr.heap.size := e; rcases hor with h | ⟨b, h, hb⟩ <;> first | (have := (ho.lt _ (h ▸ e')).2; omega) | (rw [h] at e'; injection e' with e'; simp at hb; omega)))
          | (at_builtin; refine wp_appendS w.heap.size rfl (.tmp 64) (.tmp 66) 136 9 5 rfl Tryz.underlying136 Tryz.underlying9 info_u8 (.slice A2 (N + 1 + 1) c2) (N + 1 + 1) _ rfl s rfl g2 (Nat.le_trans (Nat.le_trans (by simp; omega) t1.size) t2.size) (by omega) ?_; intro v3 w3 g3 t3))
        have B1 : Below w.heap.size w w1 := below_turn (bel.alloc sz _) t1 (by simp; omega) (fun k hk => own_ge ho hk)
        have sz1 : w.heap.size ≤ w1.heap.size := Nat.le_trans (by simp; omega) t1.size
        have B2 : Below w.heap.size w w2 := below_turn B1 t2 sz1 (fun k hk => own_ge h1 hk)
        have B3 : Below w.heap.size w w3 := below_turn B2 t3 (Nat.le_trans sz1 t2.size) (fun k hk => own_ge g2 hk)
        have h4 := NX.out w3 v3 (by
          rw [strCells_bytes] at g3
          have eN : N + (encV ⟨3, 0, s⟩).length = N + 1 + 1 + s.size := by simp [encV, bytesOf_length]; omega
          rw [eN]
          simpa [encV, u8s, Nat.add_assoc] using g3)
        go_roundw
        case rel => exact ⟨k + 1, by omega, by go_num, h4, B3⟩
        case measure => simp [intOf]; omega
    · obtain rfl : k = n := by omega
      have ho3 : wr.ownsRow w.heap.size 5 1 u3 (encR r).length (u8s (encR r)) := by
        rw [List.take_of_length_le (by have := HLEN.out; omega)] at ho
        simpa [encR, HLEN.out, Nat.add_comm] using ho
      clear hr
      go_wp2
      go_ret
      exact ⟨_, rfl, ho3, bel⟩
end Go.Proofs.YtkbapoeilcapfaaGreat

/- the number of bytes. -/
namespace Go.Proofs.YtkbapoeilcapfaaGreat
open Go.RowKit

def hstep (h c : Int) : Int := IntKind.u64.wrap (bits .xor .u64 h (IntKind.u64.wrap c) * 1099511628211)
def hfold (s : Int) (bs : List Int) : Int := bs.foldl hstep s
def hfin (x : Int) : Int := bits .xor .u64 x (x / 4294967296)
def hashB (seed : Int) (bs : List Int) : Int := hfin (hfold (IntKind.u64.wrap (seed + 14695981039346656037)) bs)
theorem hfold_snoc {s : Int} {bs : List Int} {k : Nat} (hl : k < bs.length) : hfold s (bs.take (k + 1)) = hstep (hfold s (bs.take k)) (bs.getD k 0) := by
  unfold hfold
  rw [take_snoc bs 0 hl, List.foldl_append]
  rfl
theorem htake_walk {w : World} {b : Nat} {h c : Int} (h0 : w.heap[b]? = some (.cells #[.int .u64 h] 228)) :
    Calls Tryz.prog 161 #[.pointer (some ⟨b, 0, none⟩), .int .u8 c] w fun e w' => e = .returned (.tuple #[]) ∧ w'.heap[b]? = some (.cells #[.int .u64 (hstep h c)] 228) ∧ Turn (fun k => k = b) w w' := by
  have c0 : w.cell? ⟨b, 0, none⟩ = some (.int .u64 h) := cell_of_blk h0 0
  have f0 : w.frozen? ⟨b, 0, none⟩ = false := free_of_blk h0 0
  go_enter Tryz.func161, Tryz.ntmps161
  go_wp2
  go_end0
  exact ⟨rfl, blk_set h0 0 _, (Turn.refl (fun k => k = b) _).setCell (.inl rfl) _⟩
theorem each_walk {w : World} {A : Option Addr} {n c b : Nat} (s : Int) (bs : List Int) (hr : Rd1 w A n (u8s bs)) (h0 : w.heap[b]? = some (.cells #[.int .u64 s] 228)) (hne : ∀ ad, A = some ad → 0 < n → ad.block ≠ b) :
    Calls Tryz.prog 160 #[.slice A n c, .func (.func 161) #[.pointer (some ⟨b, 0, none⟩)] #[]] w fun e w' => e = .returned (.tuple #[]) ∧ w'.heap[b]? = some (.cells #[.int .u64 (hfold s bs)] 228) ∧ Turn (fun k => k = b) w w' := by
  have hn := hr.2.1
  have hbl : bs.length = n := by simpa using hr.1
  go_enter Tryz.func160, Tryz.ntmps160
  go_wp2
  go_loopw [8] (fun i wr => ∃ k : Nat, k ≤ n ∧ i = .int .i64 k ∧ wr.heap[b]? = some (.cells #[.int .u64 (hfold s (bs.take k))] 228) ∧ Turn (fun k => k = b) w wr) (fun i _ => n - (intOf i).toNat)
  case atStart => exact ⟨0, by omega, rfl, h0, Turn.refl _ _⟩
  case round =>
    obtain ⟨k, hk, rfl, hb, ht⟩ := hrel
    by_cases hlt : k < n
    · obtain ⟨ad, rfl, had, hc⟩ := (hr.turn ht (fun ad e => hne ad e (by omega))).at2 hlt
      have hl : k < bs.length := by omega
      rw [getD_map 0 hl] at hc
      have H2 := hfold_snoc (s := s) hl
      obtain ⟨cc, hcc⟩ : ∃ cc, cc = bs.getD k 0 := ⟨_, rfl⟩
      rw [← hcc] at hc H2
      have H2 := Lib.hid H2
      have HT := Lib.hid (htake_walk (c := cc) hb)
      clear hcc
      clear hb hr
      go_wp2_with (go_at_call 161; refine HT.out.mono ?_; rintro e w1 ⟨rfl, hb1, t1⟩)
      rw [← H2.out] at hb1
      go_roundw
      case rel => exact ⟨k + 1, by omega, by go_num, hb1, ht.trans t1⟩
      case measure => simp [intOf]; omega
    · rw [List.take_of_length_le (by omega)] at hb
      go_wp2
      go_end0
      exact ⟨rfl, hb, ht⟩
theorem bytes_walk {w : World} {A : Option Addr} {n c : Nat} (seed : Int) (bs : List Int) (hr : Rd1 w A n (u8s bs)) :
    Calls Tryz.prog 148 #[.int .u64 seed, .slice A n c] w fun e w' => e = .returned (.int .u64 (hashB seed bs)) ∧ Below w.heap.size w w' := by
  obtain ⟨s, hs⟩ : ∃ s, s = IntKind.u64.wrap (seed + 14695981039346656037) := ⟨_, rfl⟩
  have HX := Lib.hid (show hashB seed bs = hfin (hfold s bs) by rw [hs]; rfl)
  have e1 : Below w.heap.size w (w.alloc (.cells #[.int .u64 s] 228)) := (Below.refl _ _).alloc (Nat.le_refl _) _
  have HE := Lib.hid (each_walk (c := c) s bs (hr.below e1) (heap_alloc_new w _) (fun ad e hn => by obtain ⟨ad', e', hlt, _⟩ := hr.2.2 hn; rw [e] at e'; injection e' with e'; subst e'; omega))
  rw [hs] at HE
  have HS := Lib.hid hs
  clear hs hr
  go_enter Tryz.func148, Tryz.ntmps148
  go_wp2_with (go_at_call 160; refine HE.out.mono ?_; rintro e w1 ⟨rfl, hb1, t1⟩; have c1 := cell_of_blk hb1 0)
  go_ret
  rw [HX.out, HS.out]
  refine ⟨rfl, ((Below.refl _ _).alloc (Nat.le_refl _) _).trans (t1.below (B := w.heap.size) (by simp) (by simp))⟩
theorem refbytes {w : World} {A : Option Addr} {n c : Nat} (seed : Int) (bs : List Int) (hr : Rd1 w A n (u8s bs)) :
    Calls Tryz.prog 128 #[.int .u64 seed, .slice A n c] w fun e w' => e = .returned (.int .u64 (hashB seed bs)) ∧ Below w.heap.size w w' := by
  have hn := hr.2.1
  have hbl : bs.length = n := by simpa using hr.1
  obtain ⟨s, hs⟩ : ∃ s, s = IntKind.u64.wrap (seed + 14695981039346656037) := ⟨_, rfl⟩
  have HX := Lib.hid (show hashB seed bs = hfin (hfold s bs) by rw [hs]; rfl)
  have HS := Lib.hid hs
  clear hs
  go_enter Tryz.func128, Tryz.ntmps128
  go_wp2
  go_loopw [5, 6] (fun h i wr => ∃ k : Nat, k ≤ n ∧ i = .int .i64 k ∧ h = .int .u64 (hfold s (bs.take k)) ∧ Below w.heap.size w wr) (fun _ i _ => n - (intOf i).toNat)
  case atStart => exact ⟨0, by omega, rfl, by rw [HS.out]; rfl, Below.refl _ _⟩
  case round =>
    obtain ⟨k, hk, rfl, rfl, bel⟩ := hrel
    by_cases hlt : k < n
    · obtain ⟨ad, rfl, had, hc⟩ := (hr.below bel).at2 hlt
      have hl : k < bs.length := by omega
      rw [getD_map 0 hl] at hc
      have H2 := hfold_snoc (s := s) hl
      obtain ⟨cc, hcc⟩ : ∃ cc, cc = bs.getD k 0 := ⟨_, rfl⟩
      rw [← hcc] at hc H2
      have H2 := Lib.hid H2
      clear hr hcc
      go_wp2
      go_roundw
      case rel => exact ⟨k + 1, by omega, by go_num, by rw [H2.out, hstep], bel⟩
      case measure => simp [intOf]; omega
    · go_wp2
      go_ret
      rw [HX.out]
      rw [List.take_of_length_le (by omega)]
      exact ⟨rfl, bel⟩
end Go.Proofs.YtkbapoeilcapfaaGreat

/- the number and the part of a row. -/
namespace Go.Proofs.YtkbapoeilcapfaaGreat
open Go.RowKit

def mayB (level fan : Int) : Bool := decide (0 ≤ level ∧ level ≤ 8 ∧ 1 ≤ fan ∧ fan ≤ 64)
theorem may_yes (w : World) (level fan : Int) (h1 : 0 ≤ level) (h2 : level ≤ 8) (h3 : 1 ≤ fan) (h4 : fan ≤ 64) : Calls Tryz.prog 125 #[.int .i64 level, .int .i64 fan] w fun e w' => e = .returned (.int .i64 0) ∧ w' = w := by
  go_enter Tryz.func125, Tryz.ntmps125
  go_wp2
  go_ret
  exact ⟨rfl, rfl⟩
theorem may_no (w : World) (level fan : Int) (h : ¬ (0 ≤ level ∧ level ≤ 8 ∧ 1 ≤ fan ∧ fan ≤ 64)) : Calls Tryz.prog 125 #[.int .i64 level, .int .i64 fan] w fun e w' => e = .returned (.int .i64 1) ∧ w' = w := by
  by_cases h1 : level < 0
  · clear h
    go_enter Tryz.func125, Tryz.ntmps125
    go_wp2
    go_ret
    exact ⟨rfl, rfl⟩
  by_cases h2 : 8 < level
  · clear h
    go_enter Tryz.func125, Tryz.ntmps125
    go_wp2
    go_ret
    exact ⟨rfl, rfl⟩
  by_cases h3 : fan < 1
  · clear h
    go_enter Tryz.func125, Tryz.ntmps125
    go_wp2
    go_ret
    exact ⟨rfl, rfl⟩
  have h4 : 64 < fan := by omega
  clear h
  go_enter Tryz.func125, Tryz.ntmps125
  go_wp2
  go_ret
  exact ⟨rfl, rfl⟩
theorem refmay_yes (w : World) (level fan : Int) (h1 : 0 ≤ level) (h2 : level ≤ 8) (h3 : 1 ≤ fan) (h4 : fan ≤ 64) : Calls Tryz.prog 34 #[.int .i64 level, .int .i64 fan] w fun e w' => e = .returned (.bool true) ∧ w' = w := by
  go_enter Tryz.func34, Tryz.ntmps34
  go_wp2
  go_ret
  exact ⟨rfl, rfl⟩
theorem refmay_no (w : World) (level fan : Int) (h : ¬ (0 ≤ level ∧ level ≤ 8 ∧ 1 ≤ fan ∧ fan ≤ 64)) : Calls Tryz.prog 34 #[.int .i64 level, .int .i64 fan] w fun e w' => e = .returned (.bool false) ∧ w' = w := by
  by_cases h1 : level < 0
  · clear h
    go_enter Tryz.func34, Tryz.ntmps34
    go_wp2
    go_ret
    exact ⟨rfl, rfl⟩
  by_cases h2 : 8 < level
  · clear h
    go_enter Tryz.func34, Tryz.ntmps34
    go_wp2
    go_ret
    exact ⟨rfl, rfl⟩
  by_cases h3 : fan < 1
  · clear h
    go_enter Tryz.func34, Tryz.ntmps34
    go_wp2
    go_ret
    exact ⟨rfl, rfl⟩
  have h4 : 64 < fan := by omega
  have h5 : decide (fan ≤ 64) = false := by simp; omega
  clear h
  go_enter Tryz.func34, Tryz.ntmps34
  go_wp2
  go_ret
  exact ⟨rfl, rfl⟩

theorem row_bad {w : World} {A : Option Addr} {n c : Nat} (seed : Int) (r : List V) (hr : RdV w A n r) (hk : rowOk r = false) :
    Calls Tryz.prog 126 #[.int .u64 seed, .slice A n c] w fun e w' => e = .returned (.tuple #[.int .u64 0, .int .i64 20]) ∧ Below w.heap.size w w' := by
  have HP := Lib.hid (rput_bad (c := c) r hr hk)
  clear hr hk
  go_enter Tryz.func126, Tryz.ntmps126
  go_wp2_with (go_at_call 133; refine HP.out.mono ?_; rintro e w1 ⟨rfl, b1⟩)
  go_ret2
  exact ⟨rfl, b1⟩
theorem row_ok {w : World} {A : Option Addr} {n c : Nat} (seed : Int) (r : List V) (hr : RdV w A n r) (hk : rowOk r = true) :
    Calls Tryz.prog 126 #[.int .u64 seed, .slice A n c] w fun e w' => e = .returned (.tuple #[.int .u64 (hashB seed (encR r)), .int .i64 0]) ∧ Below w.heap.size w w' := by
  have HP := Lib.hid (rput_ok (c := c) r hr hk)
  clear hr hk
  go_enter Tryz.func126, Tryz.ntmps126
  go_wp2_with (first
    | (go_at_call 133; refine HP.out.mono ?_; rintro e w1 ⟨v1, rfl, h1, b1⟩; obtain ⟨A1, c1, rfl⟩ := own_slice h1; have HB := Lib.hid (bytes_walk (c := c1) seed (encR r) (Rd1.of_own h1).2))
    | (go_at_call 148; refine HB.out.mono ?_; rintro e w2 ⟨rfl, b2⟩))
  go_ret2
  exact ⟨rfl, b1.trans (b2.mono b1.size)⟩

def seedAt (seed level : Int) : Int := IntKind.u64.wrap (seed + level * 2654435769)
def partN (seed level fan : Int) (r : List V) : Int := wrap64 ((hashB (seedAt seed level) (encR r)).tmod fan)
theorem part_arg (w : World) (seed level fan : Int) (v : Value) (h : ¬ (0 ≤ level ∧ level ≤ 8 ∧ 1 ≤ fan ∧ fan ≤ 64)) :
    Calls Tryz.prog 99 #[.int .u64 seed, .int .i64 level, .int .i64 fan, v] w fun e w' => e = .returned (.tuple #[.int .i64 0, .int .i64 1]) ∧ w' = w := by
  have HM := Lib.hid (may_no w level fan h)
  clear h
  go_enter Tryz.func99, Tryz.ntmps99
  go_wp2_with (go_at_call 125; refine HM.out.mono ?_; rintro e w1 ⟨rfl, rfl⟩)
  go_ret2
  exact ⟨rfl, rfl⟩
theorem part_bad {w : World} {A : Option Addr} {n c : Nat} (seed level fan : Int) (r : List V) (hr : RdV w A n r) (hk : rowOk r = false) (h1 : 0 ≤ level) (h2 : level ≤ 8) (h3 : 1 ≤ fan) (h4 : fan ≤ 64) :
    Calls Tryz.prog 99 #[.int .u64 seed, .int .i64 level, .int .i64 fan, .slice A n c] w fun e w' => e = .returned (.tuple #[.int .i64 0, .int .i64 20]) ∧ Below w.heap.size w w' := by
  have HM := Lib.hid (may_yes w level fan h1 h2 h3 h4)
  have HR := Lib.hid (fun s => row_bad (c := c) s r hr hk)
  clear hr hk
  go_enter Tryz.func99, Tryz.ntmps99
  go_wp2_with (first
    | (go_at_call 125; refine HM.out.mono ?_; rintro e w1 ⟨rfl, rfl⟩)
    | (go_at_call 126; refine (HR.out _).mono ?_; rintro e w1 ⟨rfl, b1⟩))
  go_ret2
  exact ⟨rfl, b1⟩
theorem part_ok {w : World} {A : Option Addr} {n c : Nat} (seed level fan : Int) (r : List V) (hr : RdV w A n r) (hk : rowOk r = true) (h1 : 0 ≤ level) (h2 : level ≤ 8) (h3 : 1 ≤ fan) (h4 : fan ≤ 64) :
    Calls Tryz.prog 99 #[.int .u64 seed, .int .i64 level, .int .i64 fan, .slice A n c] w fun e w' => e = .returned (.tuple #[.int .i64 (partN seed level fan r), .int .i64 0]) ∧ Below w.heap.size w w' := by
  have HM := Lib.hid (may_yes w level fan h1 h2 h3 h4)
  have HR := Lib.hid (fun s => row_ok (c := c) s r hr hk)
  clear hr hk
  go_enter Tryz.func99, Tryz.ntmps99
  go_wp2_with (first
    | (go_at_call 125; refine HM.out.mono ?_; rintro e w1 ⟨rfl, rfl⟩)
    | (go_at_call 126; refine (HR.out _).mono ?_; rintro e w1 ⟨rfl, b1⟩))
  go_ret2
  exact ⟨rfl, b1⟩
theorem refpart_ok {w : World} {A : Option Addr} {n c : Nat} (seed level fan : Int) (r : List V) (hr : RdV w A n r) (hk : rowOk r = true) (h1 : 0 ≤ level) (h2 : level ≤ 8) (h3 : 1 ≤ fan) (h4 : fan ≤ 64) :
    Calls Tryz.prog 102 #[.int .u64 seed, .int .i64 level, .int .i64 fan, .slice A n c] w fun e w' => e = .returned (.int .i64 (partN seed level fan r)) ∧ Below w.heap.size w w' := by
  have HP := Lib.hid (refput (c := c) r hr hk)
  clear hr hk
  go_enter Tryz.func102, Tryz.ntmps102
  go_wp2_with (first
    | (go_at_call 92; refine HP.out.mono ?_; rintro e w1 ⟨v1, rfl, h1, b1⟩; obtain ⟨A1, c1, rfl⟩ := own_slice h1; have HB := Lib.hid (fun s => refbytes (c := c1) s (encR r) (Rd1.of_own h1).2))
    | (go_at_call 128; refine (HB.out _).mono ?_; rintro e w2 ⟨rfl, b2⟩))
  go_ret
  exact ⟨rfl, b1.trans (b2.mono b1.size)⟩
end Go.Proofs.YtkbapoeilcapfaaGreat

/- values at places. -/
namespace Go.Proofs.YtkbapoeilcapfaaGreat
open Go.RowKit

abbrev i64s (cs : List Int) : List Value := cs.map (Value.int .i64)
def inR (n : Nat) (c : Int) : Bool := decide (0 ≤ c ∧ c < n)
theorem pick1_yes {w : World} {p : Addr} {A : Option Addr} {n c : Nat} {i : Int} (hp : w.cell? p = some (.slice A n c)) (h : inR n i = true) :
    Calls Tryz.prog 123 #[.int .i64 i, .pointer (some p)] w fun e w' => e = .returned (.bool false) ∧ w' = w := by
  have h := of_decide_eq_true h
  obtain ⟨h1, h2⟩ := h
  have h3 : decide (i < 0) = false := by simpa using h1
  have h4 : decide ((n : Int) ≤ i) = false := by simpa using h2
  go_enter Tryz.func123, Tryz.ntmps123
  go_wp2
  go_ret
  exact ⟨rfl, rfl⟩
theorem pick1_no {w : World} {p : Addr} {A : Option Addr} {n c : Nat} {i : Int} (hp : w.cell? p = some (.slice A n c)) (h : inR n i = false) :
    Calls Tryz.prog 123 #[.int .i64 i, .pointer (some p)] w fun e w' => e = .returned (.bool true) ∧ w' = w := by
  have h := of_decide_eq_false h
  by_cases h1 : i < 0
  · clear h
    go_enter Tryz.func123, Tryz.ntmps123
    go_wp2
    go_ret
    exact ⟨rfl, rfl⟩
  · have h2 : (n : Int) ≤ i := by omega
    have h3 : decide ((n : Int) ≤ i) = true := by simpa using h2
    clear h
    go_enter Tryz.func123, Tryz.ntmps123
    go_wp2
    go_ret
    exact ⟨rfl, rfl⟩
theorem allI_take {p : Int → Bool} {cs : List Int} {k : Nat} (h : k < cs.length) : (cs.take (k + 1)).all p = ((cs.take k).all p && p (cs.getD k 0)) := by
  rw [take_snoc cs 0 h, List.all_append]
  simp
theorem allI_false {p : Int → Bool} {cs : List Int} {k : Nat} (h : k < cs.length) (hp : p (cs.getD k 0) = false) : cs.all p = false := by
  rw [List.all_eq_false]
  refine ⟨cs.getD k 0, ?_, by simp only [hp]; decide⟩
  rw [List.getD_eq_getElem?_getD, List.getElem?_eq_getElem h]
  exact List.getElem_mem h
def JPost (b : Bool) (w : World) (e : Ending) (w' : World) : Prop := ∃ i : Int, e = .returned (.int .i64 i) ∧ decide (0 ≤ i) = b ∧ w' = w
theorem idxI_walk {w : World} {p : Addr} {A C : Option Addr} {n c m cc : Nat} (cs : List Int) (hp : w.cell? p = some (.slice A n c)) (hr : Rd1 w C m (i64s cs)) :
    Calls Tryz.prog 147 #[.slice C m cc, .func (.func 123) #[] #[.pointer (some p)]] w (JPost (!cs.all (inR n)) w) := by
  have hm := hr.2.1
  have hl : cs.length = m := by simpa using hr.1
  go_enter Tryz.func147, Tryz.ntmps147
  go_wp2
  go_loopw [8] (fun i wr => ∃ k : Nat, k ≤ m ∧ i = .int .i64 k ∧ (cs.take k).all (inR n) = true ∧ wr = w) (fun i _ => m - (intOf i).toNat)
  case atStart => exact ⟨0, by omega, rfl, rfl, rfl⟩
  case round =>
    obtain ⟨k, hk, rfl, hall, rfl⟩ := hrel
    have HA := Lib.hid hall
    clear hall
    by_cases hlt : k < m
    · obtain ⟨ad, rfl, had, hc⟩ := hr.at2 hlt
      have hkl : k < cs.length := by omega
      rw [getD_map 0 hkl] at hc
      have HT := allI_take (p := inR n) hkl
      have HF := allI_false (p := inR n) hkl
      obtain ⟨x, hx⟩ : ∃ x, x = cs.getD k 0 := ⟨_, rfl⟩
      rw [← hx] at hc HT HF
      have HT := Lib.hid HT
      have HF := Lib.hid HF
      clear hx hr
      cases ho : inR n x with
      | true =>
        have HO := Lib.hid (pick1_yes hp ho)
        have H2 := Lib.hid ho
        clear ho
        go_wp2_with (go_at_call 123; refine HO.out.mono ?_; rintro e w1 ⟨rfl, rfl⟩)
        go_roundw
        case rel => exact ⟨k + 1, by omega, by go_num, by rw [HT.out, HA.out, H2.out]; rfl, by trivial⟩
        case measure => simp [intOf]; omega
      | false =>
        have HO := Lib.hid (pick1_no hp ho)
        have H2 := Lib.hid (HF.out ho)
        clear ho
        go_wp2_with (go_at_call 123; refine HO.out.mono ?_; rintro e w1 ⟨rfl, rfl⟩)
        go_ret
        exact ⟨k, rfl, by rw [H2.out]; simp, rfl⟩
    · go_wp2
      go_ret
      have h := HA.out
      rw [List.take_of_length_le (by omega)] at h
      exact ⟨-1, rfl, by rw [h]; rfl, rfl⟩
theorem conI_walk {w : World} {p : Addr} {A C : Option Addr} {n c m cc : Nat} (cs : List Int) (hp : w.cell? p = some (.slice A n c)) (hr : Rd1 w C m (i64s cs)) (b : Bool) (hb : cs.all (inR n) = b) :
    Calls Tryz.prog 124 #[.slice C m cc, .func (.func 123) #[] #[.pointer (some p)]] w fun e w' => e = .returned (.bool (!b)) ∧ w' = w := by
  have HI := Lib.hid (idxI_walk (cc := cc) cs hp hr)
  subst hb
  clear hr hp
  go_enter Tryz.func124, Tryz.ntmps124
  go_wp2_with (go_at_call 147; refine HI.out.mono ?_; rintro e w1 ⟨i, rfl, hi, rfl⟩; have H := Lib.hid hi; clear hi)
  go_ret
  exact ⟨by rw [← H.out]; rfl, by trivial⟩

/-! ### rows of values that a call owns -/
def cellsV (v : V) : List Value := [.int .i64 v.k, .int .i64 v.n, .string v.s]
def cellsR (r : List V) : List Value := r.flatMap cellsV
theorem cellsR_len (r : List V) : (cellsR r).length = r.length * 3 := by
  induction r with
  | nil => rfl
  | cons v r ih => simp only [cellsR, List.flatMap_cons, List.length_append, List.length_cons] at ih ⊢; rw [ih]; simp [cellsV]; omega
theorem cellsR_get (r : List V) : ∀ (i : Nat) (v : V), r[i]? = some v → (cellsR r)[i * 3]? = some (.int .i64 v.k) ∧ (cellsR r)[i * 3 + 1]? = some (.int .i64 v.n) ∧ (cellsR r)[i * 3 + 2]? = some (.string v.s) := by
  induction r with
  | nil => intro i v h; simp at h
  | cons x r ih =>
    intro i v h
    have e : cellsR (x :: r) = cellsV x ++ cellsR r := by simp [cellsR]
    rw [e]
    cases i with
    | zero =>
      have : x = v := by simpa using h
      subst this
      exact ⟨rfl, rfl, rfl⟩
    | succ i =>
      obtain ⟨a, b, c⟩ := ih i v (by simpa using h)
      have e3 : (cellsV x).length = 3 := rfl
      refine ⟨?_, ?_, ?_⟩
      · rw [List.getElem?_append_right (by rw [e3]; omega), ← a]; congr 1; rw [e3]; omega
      · rw [List.getElem?_append_right (by rw [e3]; omega), ← b]; congr 1; rw [e3]; omega
      · rw [List.getElem?_append_right (by rw [e3]; omega), ← c]; congr 1; rw [e3]; omega
theorem RdV.of_own {w : World} {base : Nat} {e : TypeId} {A : Option Addr} {n m c : Nat} {r : List V} (h : w.ownsRow base e 3 (.slice A m c) n (cellsR r)) (hs : ∀ v ∈ r, v.s.size ≤ 9223372036854775807) : m = n ∧ RdV w A n r := by
  have hl : r.length = n := by have := h.1; rw [cellsR_len] at this; omega
  rcases h.2 with ⟨e, rfl⟩ | ⟨g, cap, cur, e, hb, hg, hnc, hm, _⟩
  · injection e with e1 e2
    exact ⟨e2, hl, by omega, fun h => absurd h (by omega), hs⟩
  · injection e with e1 e2
    subst e1
    refine ⟨e2, hl, by simp only [maxLen] at hm; omega, fun hn => ⟨_, rfl, lt_of_heap hg, fun i v hv => ?_⟩, hs⟩
    obtain ⟨a, b, d⟩ := cellsR_get r i v hv
    have hc := h.cells (g := g) rfl
    have e1 := hc _ _ a
    have e2 := hc _ _ b
    have e3 := hc _ _ d
    have ea : ∀ k : Nat, (⟨g, 0, none⟩ : Addr).add k = ⟨g, k, none⟩ := by
      intro k
      simp only [Addr.add]
      split
      · rename_i h; rw [h]
      · simp
    rw [ea] at e1 e2 e3 ⊢
    exact ⟨e1, e2, e3⟩
theorem info_V : (Tryz.prog.info? 86).map (fun i => (i.zero, i.size, i.bytes)) = some (some (.agg #[.int .i64 0, .int .i64 0, .string ⟨#[]⟩]), 3, 32) := by kernel_rfl
def dV : V := ⟨0, 0, ⟨#[]⟩⟩
def pickR (r : List V) (cs : List Int) : List V := cs.map fun c => r.getD c.toNat dV
def pickOk (r : List V) (cs : List Int) : Bool := cs.all (inR r.length)
theorem pickR_len (r : List V) (cs : List Int) : (pickR r cs).length = cs.length := by simp [pickR]
theorem pickR_snoc (r : List V) {cs : List Int} {k : Nat} (h : k < cs.length) : cellsR (pickR r (cs.take (k + 1))) = cellsR (pickR r (cs.take k)) ++ cellsV (r.getD (cs.getD k 0).toNat dV) := by
  rw [take_snoc cs 0 h]
  simp [pickR, cellsR]
theorem pickR_str {r : List V} (hs : ∀ v ∈ r, v.s.size ≤ 9223372036854775807) (cs : List Int) : ∀ v ∈ pickR r cs, v.s.size ≤ 9223372036854775807 := by
  intro v hv
  obtain ⟨c, _, rfl⟩ := List.mem_map.1 hv
  rw [List.getD_eq_getElem?_getD]
  cases h : r[c.toNat]? with
  | none => exact Nat.zero_le _
  | some x => exact hs x (List.mem_of_getElem? h)

theorem pick_ok {w : World} {A C : Option Addr} {n c m cc : Nat} (r : List V) (cs : List Int) (hr : RdV w A n r) (hc : Rd1 w C m (i64s cs)) (hok : pickOk r cs = true) (hm32 : m ≤ 32) :
    Calls Tryz.prog 98 #[.slice A n c, .slice C m cc] w fun e w' => ∃ v, e = .returned (.tuple #[v, .int .i64 0]) ∧ w'.ownsRow w.heap.size 86 3 v m (cellsR (pickR r cs)) ∧ Below w.heap.size w w' := by
  obtain ⟨W0, hW0⟩ : ∃ W0, W0 = w.alloc (.cells #[.slice A n c] 25) := ⟨_, rfl⟩
  have hlt : cs.length = m := by simpa using hc.1
  have hrl := hr.len
  have hn := hr.max
  have b0 : Below w.heap.size w W0 := hW0 ▸ (Below.refl _ _).alloc (Nat.le_refl _) _
  have s0 : W0.heap.size = w.heap.size + 1 := by rw [hW0]; simp
  have hbox : W0.cell? ⟨w.heap.size, 0, none⟩ = some (.slice A n c) := by rw [hW0]; exact cell_of_blk (heap_alloc_new w _) 0
  have hr0 := hr.below b0
  have hc0 := hc.below b0
  have HCON : Calls Tryz.prog 124 #[.slice C m cc, .func (.func 123) #[] #[.pointer (some ⟨w.heap.size, 0, none⟩)]] (w.alloc (.cells #[.slice A n c] 25)) fun e w' => e = .returned (.bool false) ∧ w' = W0 := by
    rw [← hW0]
    exact conI_walk (cc := cc) cs hbox hc0 true (by rw [← hrl]; exact hok)
  have HCON := Lib.hid HCON
  have HB0 := Lib.hid (And.intro b0 hok)
  have HW0 := Lib.hid hW0
  clear hr hc b0 hok hW0
  go_enter Tryz.func98, Tryz.ntmps98
  go_wp2_with (go_at_call 124; refine HCON.out.mono ?_; rintro e w1 ⟨rfl, rfl⟩)
  go_loopw [7, 21] (fun b i wr => ∃ k : Nat, k ≤ m ∧ i = .int .i64 k ∧ wr.ownsRow (w.heap.size + 1) 86 3 b k (cellsR (pickR r (cs.take k))) ∧ Below (w.heap.size + 1) w1 wr) (fun _ i _ => m - (intOf i).toNat)
  case atStart => exact ⟨0, by omega, rfl, World.ownsRow_nil _ _ _ _, Below.refl _ _⟩
  case round =>
    obtain ⟨k, hk, rfl, ho, bel⟩ := hrel
    by_cases hlk : k < m
    · obtain ⟨ad, rfl, had, hcc⟩ := (hc0.below (s0 ▸ bel)).at2 hlk
      have hkl : k < cs.length := by omega
      rw [getD_map 0 hkl] at hcc
      have hin : inR r.length (cs.getD k 0) = true := by
        have := HB0.out.2
        unfold pickOk at this
        rw [List.all_eq_true] at this
        refine this _ ?_
        rw [List.getD_eq_getElem?_getD, List.getElem?_eq_getElem hkl]
        exact List.getElem_mem hkl
      have hin := of_decide_eq_true hin
      have HS := pickR_snoc r hkl
      obtain ⟨x, hx⟩ : ∃ x, x = cs.getD k 0 := ⟨_, rfl⟩
      rw [← hx] at hcc HS hin
      obtain ⟨x, rfl⟩ : ∃ y : Nat, x = y := ⟨x.toNat, by omega⟩
      obtain ⟨ad2, v, rfl, had2, hv, hs, d0, d1, d2⟩ := hr0.at_ (s0 ▸ bel) (k := x) (by omega)
      rw [show r.getD (x : Int).toNat dV = v by rw [List.getD_eq_getElem?_getD]; simp [hv]] at HS
      have HS := Lib.hid HS
      have hxn : x < n := by omega
      have hb2 := cell_belowv hbox bel (by simp)
      have szr : w.heap.size + 1 ≤ wr.heap.size := by have := bel.size; omega
      obtain ⟨A3, c3, rfl⟩ := own_slice ho
      clear hx hin hr0 hc0 hv
      go_wp2_with (at_builtin; refine wp_append1 (w.heap.size + 1) rfl (.tmp 25) (.tmp 30) 25 86 (.agg #[.int .i64 0, .int .i64 0, .string ⟨#[]⟩]) 3 32 rfl Tryz.underlying25 info_V rfl (by omega) (by omega) (.slice A3 k c3) k _ [.int .i64 v.k, .int .i64 v.n, .string v.s] rfl rfl (by simp) rfl (by simp [Value.oneCell']) ho szr (by omega) ?_; intro v1 w2 h1 t1 _)
      have h2 : w2.ownsRow (w.heap.size + 1) 86 3 v1 (k + 1) (cellsR (pickR r (cs.take (k + 1)))) := by
        rw [HS.out]
        exact h1
      have b2 := below_turn bel t1 szr (fun k hk => own_ge ho hk)
      go_roundw
      case rel => exact ⟨k + 1, by omega, by go_num, h2, b2⟩
      case measure => simp [intOf]; omega
    · obtain rfl : k = m := by omega
      have h2 : wr.ownsRow w.heap.size 86 3 u7 k (cellsR (pickR r cs)) := by
        rw [List.take_of_length_le (by omega)] at ho
        exact own_lower ho (by omega)
      have b2 : Below w.heap.size w wr := HB0.out.1.trans (bel.mono (by omega))
      clear hr0 hc0
      go_wp2
      go_ret2
      exact ⟨_, rfl, h2, b2⟩
theorem pick_bad {w : World} {A C : Option Addr} {n c m cc : Nat} (r : List V) (cs : List Int) (hr : RdV w A n r) (hc : Rd1 w C m (i64s cs)) (hok : pickOk r cs = false ∨ 32 < m) :
    Calls Tryz.prog 98 #[.slice A n c, .slice C m cc] w fun e w' => e = .returned (.tuple #[.slice none 0 0, .int .i64 1]) ∧ Below w.heap.size w w' := by
  have hm := hc.2.1
  by_cases h32 : 32 < m
  · clear hr hc hok
    go_enter Tryz.func98, Tryz.ntmps98
    go_wp2
    go_ret2
    exact ⟨rfl, (Below.refl _ _).alloc (Nat.le_refl _) _⟩
  · have hok : pickOk r cs = false := hok.resolve_right h32
    have hrl := hr.len
    have b0 : Below w.heap.size w (w.alloc (.cells #[.slice A n c] 25)) := (Below.refl _ _).alloc (Nat.le_refl _) _
    have hbox : (w.alloc (.cells #[.slice A n c] 25)).cell? ⟨w.heap.size, 0, none⟩ = some (.slice A n c) := cell_of_blk (heap_alloc_new w _) 0
    have HCON := Lib.hid (conI_walk (cc := cc) cs hbox (hc.below b0) false (by rw [← hrl]; exact hok))
    clear hr hc hok hbox
    go_enter Tryz.func98, Tryz.ntmps98
    go_wp2_with (go_at_call 124; refine HCON.out.mono ?_; rintro e w1 ⟨rfl, rfl⟩)
    go_ret2
    exact ⟨rfl, b0⟩

/-! ### the document's -/
theorem refpick_ok {w : World} {A C : Option Addr} {n c m cc : Nat} (r : List V) (cs : List Int) (hr : RdV w A n r) (hc : Rd1 w C m (i64s cs)) (hok : pickOk r cs = true) (hm32 : m ≤ 100000) :
    Calls Tryz.prog 100 #[.slice A n c, .slice C m cc] w fun e w' => ∃ v, e = .returned (.tuple #[v, .bool (decide (m ≤ 32))]) ∧ w'.ownsRow w.heap.size 86 3 v m (cellsR (pickR r cs)) ∧ Below w.heap.size w w' := by
  have hlt : cs.length = m := by simpa using hc.1
  have hrl := hr.len
  have hn := hr.max
  have HB0 := Lib.hid hok
  clear hok
  go_enter Tryz.func100, Tryz.ntmps100
  go_wp2
  go_loopw [6, 7] (fun b i wr => ∃ k : Nat, k ≤ m ∧ i = .int .i64 k ∧ wr.ownsRow w.heap.size 86 3 b k (cellsR (pickR r (cs.take k))) ∧ Below w.heap.size w wr) (fun _ i _ => m - (intOf i).toNat)
  case atStart => exact ⟨0, by omega, rfl, World.ownsRow_nil _ _ _ _, Below.refl _ _⟩
  case round =>
    obtain ⟨k, hk, rfl, ho, bel⟩ := hrel
    by_cases hlk : k < m
    · obtain ⟨ad, rfl, had, hcc⟩ := (hc.below bel).at2 hlk
      have hkl : k < cs.length := by omega
      rw [getD_map 0 hkl] at hcc
      have hin : inR r.length (cs.getD k 0) = true := by
        have := HB0.out
        unfold pickOk at this
        rw [List.all_eq_true] at this
        refine this _ ?_
        rw [List.getD_eq_getElem?_getD, List.getElem?_eq_getElem hkl]
        exact List.getElem_mem hkl
      have hin := of_decide_eq_true hin
      have HS := pickR_snoc r hkl
      obtain ⟨x, hx⟩ : ∃ x, x = cs.getD k 0 := ⟨_, rfl⟩
      rw [← hx] at hcc HS hin
      obtain ⟨x, rfl⟩ : ∃ y : Nat, x = y := ⟨x.toNat, by omega⟩
      obtain ⟨ad2, v, rfl, had2, hv, hs, d0, d1, d2⟩ := hr.at_ bel (k := x) (by omega)
      rw [show r.getD (x : Int).toNat dV = v by rw [List.getD_eq_getElem?_getD]; simp [hv]] at HS
      have HS := Lib.hid HS
      have hxn : x < n := by omega
      have hxd : decide ((n : Int) ≤ x) = false := by simp; omega
      have szr : w.heap.size ≤ wr.heap.size := bel.size
      obtain ⟨A3, c3, rfl⟩ := own_slice ho
      clear hx hin hr hc hv
      go_wp2_with (at_builtin; refine wp_append1 w.heap.size rfl (.tmp 28) (.tmp 36) 25 86 (.agg #[.int .i64 0, .int .i64 0, .string ⟨#[]⟩]) 3 32 rfl Tryz.underlying25 info_V rfl (by omega) (by omega) (.slice A3 k c3) k _ [.int .i64 v.k, .int .i64 v.n, .string v.s] rfl rfl (by simp) rfl (by simp [Value.oneCell']) ho szr (by omega) ?_; intro v1 w2 h1 t1 _)
      have h2 : w2.ownsRow w.heap.size 86 3 v1 (k + 1) (cellsR (pickR r (cs.take (k + 1)))) := by
        rw [HS.out]
        exact h1
      have b2 := below_turn bel t1 szr (fun k hk => own_ge ho hk)
      go_roundw
      case rel => exact ⟨k + 1, by omega, by go_num, h2, b2⟩
      case measure => simp [intOf]; omega
    · obtain rfl : k = m := by omega
      have h2 : wr.ownsRow w.heap.size 86 3 u6 k (cellsR (pickR r cs)) := by
        rw [List.take_of_length_le (by omega)] at ho
        exact ho
      have hd : decide ((k : Int) ≤ 32) = decide (k ≤ 32) := by rw [decide_eq_decide]; omega
      clear hr hc
      go_wp2
      go_ret2
      exact ⟨_, by rw [← hd]; rfl, h2, bel⟩
theorem refpick_bad {w : World} {A C : Option Addr} {n c m cc : Nat} (r : List V) (cs : List Int) (hr : RdV w A n r) (hc : Rd1 w C m (i64s cs)) (hok : pickOk r cs = false) (hm32 : m ≤ 100000) :
    Calls Tryz.prog 100 #[.slice A n c, .slice C m cc] w fun e w' => e = .returned (.tuple #[.slice none 0 0, .bool false]) ∧ Below w.heap.size w w' := by
  have hlt : cs.length = m := by simpa using hc.1
  have hrl := hr.len
  have hn := hr.max
  have HB0 := Lib.hid hok
  clear hok
  go_enter Tryz.func100, Tryz.ntmps100
  go_wp2
  go_loopw [6, 7] (fun b i wr => ∃ k : Nat, k ≤ m ∧ i = .int .i64 k ∧ (cs.take k).all (inR r.length) = true ∧ wr.ownsRow w.heap.size 86 3 b k (cellsR (pickR r (cs.take k))) ∧ Below w.heap.size w wr) (fun _ i _ => m - (intOf i).toNat)
  case atStart => exact ⟨0, by omega, rfl, rfl, World.ownsRow_nil _ _ _ _, Below.refl _ _⟩
  case round =>
    obtain ⟨k, hk, rfl, hall, ho, bel⟩ := hrel
    have HA := Lib.hid hall
    clear hall
    by_cases hlk : k < m
    · obtain ⟨ad, rfl, had, hcc⟩ := (hc.below bel).at2 hlk
      have hkl : k < cs.length := by omega
      rw [getD_map 0 hkl] at hcc
      have HS := pickR_snoc r hkl
      have HT := allI_take (p := inR r.length) hkl
      obtain ⟨x, hx⟩ : ∃ x, x = cs.getD k 0 := ⟨_, rfl⟩
      rw [← hx] at hcc HS HT
      have HT := Lib.hid HT
      obtain ⟨A3, c3, rfl⟩ := own_slice ho
      have szr : w.heap.size ≤ wr.heap.size := bel.size
      cases hin : inR r.length x with
      | true =>
        have HIN := Lib.hid hin
        have hin := of_decide_eq_true hin
        obtain ⟨x, rfl⟩ : ∃ y : Nat, x = y := ⟨x.toNat, by omega⟩
        obtain ⟨ad2, v, rfl, had2, hv, hs, d0, d1, d2⟩ := hr.at_ bel (k := x) (by omega)
        rw [show r.getD (x : Int).toNat dV = v by rw [List.getD_eq_getElem?_getD]; simp [hv]] at HS
        have HS := Lib.hid HS
        have hxn : x < n := by omega
        have hxd : decide ((n : Int) ≤ x) = false := by simp; omega
        clear hx hin hr hc hv
        go_wp2_with (at_builtin; refine wp_append1 w.heap.size rfl (.tmp 28) (.tmp 36) 25 86 (.agg #[.int .i64 0, .int .i64 0, .string ⟨#[]⟩]) 3 32 rfl Tryz.underlying25 info_V rfl (by omega) (by omega) (.slice A3 k c3) k _ [.int .i64 v.k, .int .i64 v.n, .string v.s] rfl rfl (by simp) rfl (by simp [Value.oneCell']) ho szr (by omega) ?_; intro v1 w2 h1 t1 _)
        have h2 : w2.ownsRow w.heap.size 86 3 v1 (k + 1) (cellsR (pickR r (cs.take (k + 1)))) := by
          rw [HS.out]
          exact h1
        have b2 := below_turn bel t1 szr (fun k hk => own_ge ho hk)
        go_roundw
        case rel => exact ⟨k + 1, by omega, by go_num, by rw [HT.out, HA.out, HIN.out]; rfl, h2, b2⟩
        case measure => simp [intOf]; omega
      | false =>
        have hin := of_decide_eq_false hin
        clear hx hr hc HS
        by_cases hx0 : x < 0
        · clear hin
          go_wp2
          go_ret2
          exact ⟨rfl, bel⟩
        · have hxd : decide ((n : Int) ≤ x) = true := by simp; omega
          clear hin
          go_wp2
          go_ret2
          exact ⟨rfl, bel⟩
    · have h := HA.out
      rw [List.take_of_length_le (by omega)] at h
      have h2 := HB0.out
      unfold pickOk at h2
      rw [h] at h2
      cases h2
end Go.Proofs.YtkbapoeilcapfaaGreat

/- rows in parts. -/
namespace Go.Proofs.YtkbapoeilcapfaaGreat
open Go.RowKit

theorem own_ne_typed {w : World} {base : Nat} {e t : TypeId} {size n : Nat} {v : Value} {xs : List Value} (h : w.ownsRow base e size v n xs) {g : Nat} {cs : Array Value} (hg : w.heap[g]? = some (.cells cs t (0, 0))) (hne : e ≠ t) : ∀ k, v.ownBlock = some k → ¬ k = g := by
  intro k hk e'
  subst e'
  rcases h.2 with ⟨rfl, _⟩ | ⟨g', cap', cur, rfl, _, hg', _⟩
  · cases hk
  · obtain rfl : g' = k := by simpa [Value.ownBlock] using hk
    rw [hg] at hg'
    injection hg' with hg'
    injection hg' with _ ht
    exact hne ht.symm
theorem hashB_nonneg (s : Int) (bs : List Int) : 0 ≤ hashB s bs := by
  unfold hashB hfin bits
  simp only [IntKind.wrap]
  exact Int.emod_nonneg _ (by decide)
theorem part_range (seed level fan : Int) (r : List V) (h1 : 1 ≤ fan) (h2 : fan ≤ 64) : 0 ≤ partN seed level fan r ∧ partN seed level fan r < fan := by
  have h0 := hashB_nonneg (seedAt seed level) (encR r)
  unfold partN
  rw [Int.tmod_eq_emod_of_nonneg h0]
  have a := Int.emod_nonneg (hashB (seedAt seed level) (encR r)) (show fan ≠ 0 by omega)
  have b := Int.emod_lt_of_pos (hashB (seedAt seed level) (encR r)) (show 0 < fan by omega)
  have e : wrap64 (hashB (seedAt seed level) (encR r) % fan) = hashB (seedAt seed level) (encR r) % fan := by
    unfold wrap64
    omega
  rw [e]
  exact ⟨a, b⟩

/-- A table that is read: the rows' headers, and the rows. -/
structure RdL (w : World) (A : Option Addr) (n : Nat) (hds : List Value) (rows : List (List V)) : Prop where
  hd : Rd1 w A n hds
  len : rows.length = n
  row : ∀ (i : Nat) r, rows[i]? = some r → ∃ B m c, hds[i]? = some (Value.slice B m c) ∧ RdV w B m r
theorem RdL.below {w w' : World} {A : Option Addr} {n : Nat} {hds : List Value} {rows : List (List V)} (h : RdL w A n hds rows) (hb : Below w.heap.size w w') : RdL w' A n hds rows :=
  ⟨h.hd.below hb, h.len, fun i r hr => by
    obtain ⟨B, m, c, e, h2⟩ := h.row i r hr
    exact ⟨B, m, c, e, h2.below hb⟩⟩
/-- Element k. -/
theorem RdL.at_ {w : World} {A : Option Addr} {n : Nat} {hds : List Value} {rows : List (List V)} (h : RdL w A n hds rows) {k : Nat} (hk : k < n) :
    ∃ ad B m c r, A = some ad ∧ ad.block < w.heap.size ∧ rows[k]? = some r ∧ hds[k]? = some (Value.slice B m c) ∧ w.cell? (ad.add k) = some (.slice B m c) ∧ RdV w B m r := by
  obtain ⟨ad, e, hlt, hc⟩ := h.hd.at2 hk
  have hl : k < rows.length := by have := h.len; omega
  obtain ⟨B, m, c, e2, h2⟩ := h.row k _ (List.getElem?_eq_getElem hl)
  exact ⟨ad, B, m, c, _, e, hlt, List.getElem?_eq_getElem hl, e2, hc.trans e2, h2⟩

/-- The parts that a call owns: block g holds the parts' headers. -/
structure Outs (w : World) (base g : Nat) (hs : List Value) (ps : List (List Value)) : Prop where
  ge : base ≤ g
  blk : w.heap[g]? = some (.cells hs.toArray 23 (0, 0))
  len : ps.length = hs.length
  own : ∀ (i : Nat) h p, hs[i]? = some h → ps[i]? = some p → w.ownsRow base 25 1 h p.length p
  far : ∀ (i j : Nat) h h' k, hs[i]? = some h → hs[j]? = some h' → h.ownBlock = some k → h'.ownBlock = some k → i = j
theorem Outs.turn {S : Nat → Prop} {w w' : World} {base g : Nat} {hs : List Value} {ps : List (List Value)} (h : Outs w base g hs ps) (ht : Turn S w w') (hg : ¬ S g) (hS : ∀ (i : Nat) h k, hs[i]? = some h → h.ownBlock = some k → ¬ S k) : Outs w' base g hs ps :=
  ⟨h.ge, ht.heap h.blk hg, h.len, fun i x p hx hp => own_turn (h.own i x p hx hp) ht (hS i x · hx), h.far⟩
theorem Outs.below {w w' : World} {base g : Nat} {hs : List Value} {ps : List (List Value)} (h : Outs w base g hs ps) (hb : Below w.heap.size w w') : Outs w' base g hs ps :=
  h.turn (Turn.of_below hb (fun _ => False)) (fun h => h) (fun _ _ _ _ _ h => h)
theorem Outs.alloc {w : World} {base g : Nat} {hs : List Value} {ps : List (List Value)} (h : Outs w base g hs ps) (o : Obj) : Outs (w.alloc o) base g hs ps :=
  h.below ((Below.refl _ _).alloc (Nat.le_refl _) _)
theorem Outs.put {w w1 : World} {base g i : Nat} {hs : List Value} {ps : List (List Value)} {h v : Value} {p p' : List Value} (H : Outs w base g hs ps) (hi : hs[i]? = some h) (_hp : ps[i]? = some p)
    (hv : w1.ownsRow base 25 1 v p'.length p') (ht : Turn (fun k => h.ownBlock = some k) w w1) (hor : v.ownBlock = h.ownBlock ∨ ∃ b, v.ownBlock = some b ∧ w.heap.size ≤ b) :
    Outs (w1.setCell ⟨g, i, none⟩ v) base g (hs.set i v) (ps.set i p') := by
  have hil : i < hs.length := (List.getElem?_eq_some_iff.1 hi).1
  have gne : ∀ (j : Nat) x k, hs[j]? = some x → x.ownBlock = some k → ¬ k = g := fun j x k hx hk => by
    have hl : j < ps.length := by have := (List.getElem?_eq_some_iff.1 hx).1; have := H.len; omega
    exact own_ne_typed (H.own j x _ hx (List.getElem?_eq_getElem hl)) H.blk (by decide) k hk
  have b1 : w1.heap[g]? = some (.cells hs.toArray 23 (0, 0)) := ht.heap H.blk (fun e => gne i h g hi e rfl)
  have t2 : Turn (fun k => k = g) w1 (w1.setCell ⟨g, i, none⟩ v) := (Turn.refl (fun k => k = g) _).setCell (.inl rfl) _
  refine ⟨H.ge, ?_, by simpa using H.len, ?_, ?_⟩
  · rw [blk_set b1]; simp
  · intro j x q hx hq
    by_cases e : i = j
    · subst e
      have ex : x = v := by rw [List.getElem?_set_self hil] at hx; exact (Option.some.inj hx).symm
      have eq : q = p' := by rw [List.getElem?_set_self (by have := H.len; omega)] at hq; exact (Option.some.inj hq).symm
      subst ex; subst eq
      exact own_turn hv t2 (own_ne_typed hv b1 (by decide))
    · rw [List.getElem?_set_ne e] at hx hq
      have a := H.own j x q hx hq
      have b := own_turn a ht (fun k hk hS => e (H.far i j h x k hi hx hS hk))
      exact own_turn b t2 (own_ne_typed b b1 (by decide))
  · have lt : ∀ (j : Nat) x k, hs[j]? = some x → x.ownBlock = some k → k < w.heap.size := fun j x k hx hk => by
      have hl : j < ps.length := by have := (List.getElem?_eq_some_iff.1 hx).1; have := H.len; omega
      exact ((H.own j x _ hx (List.getElem?_eq_getElem hl)).lt k hk).2
    have key : ∀ (j : Nat) x k, i ≠ j → hs[j]? = some x → x.ownBlock = some k → ¬ v.ownBlock = some k := fun j x k hne hx hk hvk => by
      rcases hor with e | ⟨b, e, hb⟩
      · exact hne (H.far i j h x k hi hx (e ▸ hvk) hk)
      · have := lt j x k hx hk
        rw [e] at hvk
        injection hvk with hvk
        omega
    intro j l x y k hx hy hxk hyk
    by_cases e : i = j
    · by_cases e2 : i = l
      · exact e.symm.trans e2
      · subst e
        have ex : x = v := by rw [List.getElem?_set_self hil] at hx; exact (Option.some.inj hx).symm
        subst ex
        rw [List.getElem?_set_ne e2] at hy
        exact absurd hxk (key l y k e2 hy hyk)
    · rw [List.getElem?_set_ne e] at hx
      by_cases e2 : i = l
      · subst e2
        have ey : y = v := by rw [List.getElem?_set_self hil] at hy; exact (Option.some.inj hy).symm
        subst ey
        exact absurd hyk (key j x k e hx hxk)
      · rw [List.getElem?_set_ne e2] at hy
        exact H.far j l x y k hx hy hxk hyk

def putP (ps : List (List Value)) (x : Value × Nat) : List (List Value) := ps.set x.2 (ps.getD x.2 [] ++ [x.1])
def partsOf (fan : Nat) (xs : List (Value × Nat)) : List (List Value) := xs.foldl putP (List.replicate fan [])
theorem partsOf_length (fan : Nat) (xs : List (Value × Nat)) : (partsOf fan xs).length = fan := by
  have : ∀ (xs : List (Value × Nat)) ps, (xs.foldl putP ps).length = ps.length := by
    intro xs
    induction xs with
    | nil => intro ps; rfl
    | cons x xs ih => intro ps; rw [List.foldl_cons, ih]; simp [putP]
  rw [partsOf, this]; simp
def rowE (cs : List Int) (r : List V) : Int := if pickOk r cs && decide (cs.length ≤ 32) then (if rowOk (pickR r cs) then 0 else 20) else 1
def firstE (cs : List Int) : List (List V) → Int
  | [] => 0
  | r :: t => if rowE cs r = 0 then firstE cs t else rowE cs r
def numsOf (seed level fan : Int) (cs : List Int) (rows : List (List V)) : List Nat := rows.map fun r => (partN seed level fan (pickR r cs)).toNat
end Go.Proofs.YtkbapoeilcapfaaGreat

/- hash.Split. -/
namespace Go.Proofs.YtkbapoeilcapfaaGreat
open Go.RowKit

theorem madeCells_one (z : Value) (n : Nat) : madeCells #[z] n = (List.replicate n z).toArray := by
  apply Array.ext
  · simp [madeCells]
  · intro i h1 h2
    simp [madeCells, Nat.mod_one]
theorem wp_makeN {P : Program} {W : World} {ops : Array Oper} {rest : List Oper} {o : Oper} {a : Act} {Q : Exit → Act → World → Prop} (hg : o.guard = none) (l : Operand) (t e : TypeId) (z : Value) (bytes : Nat) (hop : o.op = Op.makeSlice t l l)
    (ht : P.underlying t = some (.slice e)) (hinfo : (P.info? e).map (fun i => (i.zero, i.size, i.bytes)) = some (some z, 1, bytes)) (hz : z.cells = #[z]) (F : Nat) (hl : a.eval l = .int .i64 (F : Int)) (hF : bytes * F ≤ 281474976710656) (hF2 : F ≤ 281474976710656)
    (hK : wpList P ops Q rest (a.put o.dst (.slice (some ⟨W.heap.size, 0, none⟩) F F)) (W.alloc (.cells (List.replicate F z).toArray e))) : wpList P ops Q (o :: rest) a W := by
  obtain ⟨i, hi, hz0, hz1, hz2⟩ := info_parts hinfo
  refine wpList_plain hg fun K hK' => ?_
  have hb : (i.bytes : Int) * (F : Int) ≤ 281474976710656 := by
    rw [hz2]
    have h : ((bytes * F : Nat) : Int) ≤ 281474976710656 := by omega
    rwa [Int.natCast_mul] at h
  have hrun := run_make (P := P) W t e i z ht hi hz0 .i64 .i64 (F : Int) (F : Int) (by omega) (Int.le_refl _) hb (by omega)
  rw [hz1, hz, Int.toNat_natCast, Nat.mul_one, madeCells_one] at hrun
  unfold Oper.wp execOp
  simp only [hop, hl, hrun, Sem.run_bind, Sem.run_pure, Result.andThen_ok]
  exact hK' _ _ hK
theorem info_LL : (Tryz.prog.info? 23).map (fun i => (i.zero, i.size, i.bytes)) = some (some (.slice none 0 0), 1, 24) := by kernel_rfl
theorem info_L : (Tryz.prog.info? 25).map (fun i => (i.zero, i.size, i.bytes)) = some (some (.slice none 0 0), 1, 24) := by kernel_rfl
theorem firstE_drop {cs : List Int} {rows : List (List V)} {k : Nat} {r : List V} (h : rows[k]? = some r) : firstE cs (rows.drop k) = if rowE cs r = 0 then firstE cs (rows.drop (k + 1)) else rowE cs r := by
  obtain ⟨hl, e⟩ := List.getElem?_eq_some_iff.1 h
  rw [List.drop_eq_getElem_cons hl, e]
  rfl
theorem parts_snoc {F : Nat} {seed level fan : Int} {cs : List Int} {hds : List Value} {rows : List (List V)} {k : Nat} {h : Value} {r : List V} (h1 : hds[k]? = some h) (h2 : rows[k]? = some r) :
    partsOf F ((hds.zip (numsOf seed level fan cs rows)).take (k + 1)) = putP (partsOf F ((hds.zip (numsOf seed level fan cs rows)).take k)) (h, (partN seed level fan (pickR r cs)).toNat) := by
  have hz : (hds.zip (numsOf seed level fan cs rows))[k]? = some (h, (partN seed level fan (pickR r cs)).toNat) := by
    rw [List.getElem?_zip_eq_some]
    exact ⟨h1, by simp [numsOf, h2]⟩
  obtain ⟨hl, e⟩ := List.getElem?_eq_some_iff.1 hz
  unfold partsOf
  rw [List.take_succ_eq_append_getElem hl, List.foldl_append, e]
  rfl
theorem partsOf_le (F : Nat) (xs : List (Value × Nat)) : ∀ p ∈ partsOf F xs, p.length ≤ xs.length := by
  have : ∀ (xs : List (Value × Nat)) (ps : List (List Value)) (N : Nat), (∀ p ∈ ps, p.length ≤ N) → ∀ p ∈ xs.foldl putP ps, p.length ≤ N + xs.length := by
    intro xs
    induction xs with
    | nil => intro ps N h p hp; simpa using h p hp
    | cons x xs ih =>
      intro ps N h p hp
      have h2 : ∀ p ∈ putP ps x, p.length ≤ N + 1 := by
        intro p hp
        rcases List.mem_or_eq_of_mem_set hp with hp | rfl
        · have := h p hp; omega
        · rw [List.length_append, List.getD_eq_getElem?_getD]
          cases e : ps[x.2]? with
          | none => simp
          | some q => have := h q (List.mem_of_getElem? e); simp; exact this
      have := ih (putP ps x) (N + 1) h2 p hp
      rw [List.length_cons]
      omega
  have h := this xs (List.replicate F []) 0 (by intro p hp; have := List.eq_of_mem_replicate hp; subst this; simp)
  simpa [partsOf] using h

def SPost (w : World) (F : Nat) (E : Int) (ps : List (List Value)) (e : Ending) (w' : World) : Prop :=
  (E = 0 ∧ ∃ g hs, e = .returned (.tuple #[.slice (some ⟨g, 0, none⟩) F F, .int .i64 0]) ∧ Outs w' w.heap.size g hs ps ∧ Below w.heap.size w w') ∨
  (E ≠ 0 ∧ e = .returned (.tuple #[.slice none 0 0, .int .i64 E]) ∧ Below w.heap.size w w')
end Go.Proofs.YtkbapoeilcapfaaGreat

/- the document's Split. -/
namespace Go.Proofs.YtkbapoeilcapfaaGreat
open Go.RowKit

theorem refsplit_arg (w : World) (seed level fan : Int) (v c : Value) (h : ¬ (0 ≤ level ∧ level ≤ 8 ∧ 1 ≤ fan ∧ fan ≤ 64)) :
    Calls Tryz.prog 71 #[.int .u64 seed, .int .i64 level, .int .i64 fan, v, c] w fun e w' => e = .returned (.tuple #[.slice none 0 0, .int .i64 1]) ∧ w' = w := by
  have HM := Lib.hid (refmay_no w level fan h)
  clear h
  go_enter Tryz.func71, Tryz.ntmps71
  go_wp2_with (go_at_call 34; refine HM.out.mono ?_; rintro e w1 ⟨rfl, rfl⟩)
  go_ret2
  exact ⟨rfl, rfl⟩
set_option maxHeartbeats 1600000 in
theorem refsplit_walk {w : World} {A C : Option Addr} {n c m cc F : Nat} {hds : List Value} {rows : List (List V)} (seed level : Int) (cs : List Int) (hl : RdL w A n hds rows) (hc : Rd1 w C m (i64s cs))
    (h1 : 0 ≤ level) (h2 : level ≤ 8) (h3 : 1 ≤ F) (h4 : F ≤ 64) (hn : n ≤ 100000) (hm : m ≤ 100000) :
    Calls Tryz.prog 71 #[.int .u64 seed, .int .i64 level, .int .i64 F, .slice A n c, .slice C m cc] w (SPost w F (firstE cs rows) (partsOf F (hds.zip (numsOf seed level F cs rows)))) := by
  have HM := Lib.hid (refmay_yes w level F h1 h2 (by omega) (by omega))
  obtain ⟨E, hE⟩ : ∃ E, E = firstE cs rows := ⟨_, rfl⟩
  obtain ⟨ps, hps⟩ : ∃ ps, ps = partsOf F (hds.zip (numsOf seed level F cs rows)) := ⟨_, rfl⟩
  rw [← hE, ← hps]
  have HE := Lib.hid hE
  have HP := Lib.hid hps
  clear hE hps
  go_enter Tryz.func71, Tryz.ntmps71
  go_wp2_with (first
    | (go_at_call 34; refine HM.out.mono ?_; rintro e w1 ⟨rfl, hw⟩; obtain rfl := hw.symm; clear hw)
    | (at_make; refine wp_makeN rfl (.tmp 21) 47 23 (.slice none 0 0) 24 rfl Tryz.underlying47 info_LL rfl F rfl (by omega) (by omega) ?_))
  have ob : Outs (w.alloc (.cells (List.replicate F (Value.slice none 0 0)).toArray 23)) w.heap.size w.heap.size (List.replicate F (Value.slice none 0 0)) (partsOf F []) := by
    refine ⟨Nat.le_refl _, heap_alloc_new w _, by simp [partsOf], ?_, ?_⟩
    · intro i h p hh hp
      have a := List.eq_of_mem_replicate (List.mem_of_getElem? hh)
      have b := List.eq_of_mem_replicate (List.mem_of_getElem? hp)
      subst a; subst b
      exact World.ownsRow_nil _ _ _ _
    · intro i j h h' k hh _ hk _
      have a := List.eq_of_mem_replicate (List.mem_of_getElem? hh)
      subst a
      cases hk
  have b1 : Below w.heap.size w (w.alloc (.cells (List.replicate F (Value.slice none 0 0)).toArray 23)) := (Below.refl _ _).alloc (Nat.le_refl _) _
  go_loopw [13] (fun i wr => ∃ k : Nat, k ≤ n ∧ i = .int .i64 k ∧ firstE cs (rows.drop k) = E ∧ Below w.heap.size w wr ∧ ∃ hs, hs.length = F ∧ Outs wr w.heap.size w.heap.size hs (partsOf F ((hds.zip (numsOf seed level F cs rows)).take k))) (fun i _ => n - (intOf i).toNat)
  case atStart => exact ⟨0, by omega, rfl, HE.out.symm, b1, _, by simp, ob⟩
  case round =>
    clear ob b1
    obtain ⟨k, hk, rfl, hfe, bel, hs, hsl, O⟩ := hrel
    by_cases hlk : k < n
    · obtain ⟨ad, B, rm, rc, r, rfl, had, hrk, hdk, hcell, hrv⟩ := (hl.below bel).at_ hlk
      have hc' := hc.below bel
      have hfd := firstE_drop (cs := cs) hrk
      have HS := parts_snoc (F := F) (seed := seed) (level := level) (fan := F) (cs := cs) hdk hrk
      have hcl : cs.length = m := by simpa using hc.1
      clear hdk hrk hl hc
      by_cases hpk : pickOk r cs = true ∧ m ≤ 32
      · have HPK := refpick_ok (c := rc) (cc := cc) r cs hrv hc' hpk.1 hm
        rw [decide_eq_true hpk.2] at HPK
        have HPK := Lib.hid HPK
        cases hro : rowOk (pickR r cs) with
        | true =>
          have hre : rowE cs r = 0 := by simp [rowE, hpk.1, hcl, hpk.2, hro]
          rw [if_pos hre, hfe] at hfd
          have hpr := part_range seed level F (pickR r cs) (by omega) (by omega)
          obtain ⟨pn, hpn⟩ : ∃ pn : Nat, partN seed level F (pickR r cs) = pn := ⟨_, (Int.toNat_of_nonneg hpr.1).symm⟩
          rw [hpn] at hpr
          rw [hpn, Int.toNat_natCast] at HS
          have hpF : pn < F := Int.ofNat_lt.mp hpr.2
          clear hpr
          obtain ⟨PS, hPS⟩ : ∃ PS, PS = partsOf F ((hds.zip (numsOf seed level F cs rows)).take k) := ⟨_, rfl⟩
          have hle : ∀ p ∈ PS, p.length ≤ 100000 := by
            intro p hp
            rw [hPS] at hp
            have := partsOf_le F _ p hp
            rw [List.length_take] at this
            omega
          rw [← hPS] at HS O
          have HSH := Lib.hid HS
          obtain ⟨h0, hh0⟩ : ∃ h0, hs[pn]? = some h0 := ⟨_, List.getElem?_eq_getElem (by omega)⟩
          obtain ⟨p0, hp0⟩ : ∃ p0, PS[pn]? = some p0 := ⟨_, List.getElem?_eq_getElem (by have := O.len; omega)⟩
          have hp0l := hle p0 (List.mem_of_getElem? hp0)
          obtain ⟨A3, c3, rfl⟩ := own_slice (O.own pn h0 p0 hh0 hp0)
          have HCH := Lib.hid (fun (W : World) A' n' c' (h : RdV W A' n' (pickR r cs)) => hro ▸ rcheckRef (c := c') (pickR r cs) h)
          have HPA := Lib.hid (fun (W : World) A' n' c' (h : RdV W A' n' (pickR r cs)) => hpn ▸ refpart_ok (c := c') seed level F (pickR r cs) h hro h1 h2 (by omega) (by omega))
          have HST := Lib.hid (pickR_str hrv.str cs)
          have HO := Lib.hid O
          have HH := Lib.hid (And.intro hh0 hp0)
          have HFD := Lib.hid hfd
          have szr := bel.size
          have ha : hs.toArray[pn]? = some (Value.slice A3 p0.length c3) := by simpa using hh0
          have HA := Lib.hid ha
          clear hfd hre hro hpk hrv hc' hfe HS hPS hle hh0 hp0 O hpn ha
          go_wp2_with (first
            | (go_at_call 100; refine HPK.out.mono ?_; rintro e w2 ⟨v2, rfl, o2, b2⟩; obtain ⟨A2, c2, rfl⟩ := own_slice o2; have HRV := Lib.hid (RdV.of_own o2 HST.out).2; have HP2 := Lib.hid (fun W A' n' => HPA.out W A' n' c2); have HCK := Lib.hid (HCH.out _ _ _ c2 HRV.out))
            | (go_at_call 101; refine HCK.out.mono ?_; rintro e wq ⟨rfl, bq⟩; have b2q := b2.trans (bq.mono b2.size))
            | (go_at_call 102; refine (HP2.out _ _ _ (HRV.out.below bq)).mono ?_; rintro e w3 ⟨rfl, b3⟩; have b23 := b2q.trans (b3.mono b2q.size)))
          have bd := b23.trans (below_drew (Below.refl wr.heap.size w3))
          have O3 := HO.out.below bd
          have o3 := O3.own pn _ _ HH.out.1 HH.out.2
          have cg := (cell_of_blk O3.blk pn).trans HA.out
          have hcell3 := cell_belowv hcell bd (by rw [add_block]; omega)
          have O3a := O3.alloc (.cells #[.slice B rm rc] 25)
          have cga := (cell_of_blk O3a.blk pn).trans HA.out
          have hcell3a : (w3.drew.alloc (.cells #[.slice B rm rc] 25)).cell? (ad.add k) = some (.slice B rm rc) := (World.cell?_alloc_lt _ _ _ (World.block_lt_of_cell? _ _ hcell3)).trans hcell3
          have cgb : (w3.alloc (.cells #[.slice B rm rc] 25)).cell? ⟨w.heap.size, pn, none⟩ = some (.slice A3 p0.length c3) := cga
          have hcell3b : (w3.alloc (.cells #[.slice B rm rc] 25)).cell? (ad.add k) = some (.slice B rm rc) := hcell3a
          have cgc : w3.cell? ⟨w.heap.size, pn, none⟩ = some (.slice A3 p0.length c3) := cg
          have hcell3c : w3.cell? (ad.add k) = some (.slice B rm rc) := hcell3
          have szw : w.heap.size ≤ w3.drew.heap.size := by have := b23.size; show w.heap.size ≤ w3.heap.size; omega
          have HO3 := Lib.hid O3
          clear O3 O3a
          go_region_law (first
            | (refine step_of_wp rfl (show Oper.wp _ _ _ (w3.drew.alloc (.cells #[.slice B rm rc] 25)) _ _ from op_append1 (W := w3.drew) w.heap.size (.tmp 53) (.tmp 58) 23 25 (.slice none 0 0) 1 24 rfl Tryz.underlying23 info_L rfl (by omega) (by omega) (.slice A3 p0.length c3) p0.length p0 [.slice B rm rc] rfl rfl (by simp) rfl (by simp [Value.oneCell']) o3 szw (by omega) ?_); intro v1 w4 h1 t1 hor; have b4 := t1.heap HO3.out.blk (fun e => own_ne_typed o3 HO3.out.blk (by decide) _ e rfl); have f4 := free_of_blk b4 pn; have c4 := (cell_of_blk b4 pn).trans HA.out; clear b4; obtain ⟨A5, c5, rfl⟩ := own_slice h1))
          all_goals
            have O4 := HO3.out.put (p' := p0 ++ [.slice B rm rc]) HH.out.1 HH.out.2 (by simpa using h1) t1 hor
            have e4 : PS.set pn (p0 ++ [Value.slice B rm rc]) = putP PS (Value.slice B rm rc, pn) := by
              unfold putP
              rw [List.getD_eq_getElem?_getD, HH.out.2]
              rfl
            rw [e4, ← HSH.out] at O4
            have B4 := below_turn (bel.trans (bd.mono szr)) t1 szw (fun k hk => own_ge o3 hk)
            have B5 := B4.trans (((Turn.refl (fun k => k = w.heap.size) w4).setCell (p := ⟨w.heap.size, pn, none⟩) (.inl rfl) (.slice A5 (p0.length + 1) c5)).below (B := w.heap.size) B4.size (by simp))
            have hsl4 : (hs.set pn (Value.slice A5 (p0.length + 1) c5)).length = F := by simpa using hsl
            go_wp2
            go_roundw
          all_goals first
            | exact ⟨k + 1, by omega, by go_num, HFD.out.symm, B5, _, hsl4, O4⟩
            | (simp [intOf]; omega)
        | false =>
          have hre : rowE cs r = 20 := by simp [rowE, hpk.1, hcl, hpk.2, hro]
          rw [if_neg (by rw [hre]; decide), hfe, hre] at hfd
          have HF := Lib.hid hfd
          have HCH := Lib.hid (fun (W : World) A' n' c' (h : RdV W A' n' (pickR r cs)) => hro ▸ rcheckRef (c := c') (pickR r cs) h)
          have HST := Lib.hid (pickR_str hrv.str cs)
          clear hfd hre hro hpk hrv hc' hfe
          go_wp2_with (first
            | (go_at_call 100; refine HPK.out.mono ?_; rintro e w2 ⟨v2, rfl, o2, b2⟩; obtain ⟨A2, c2, rfl⟩ := own_slice o2; have HCK := Lib.hid (HCH.out _ _ _ c2 (RdV.of_own o2 HST.out).2))
            | (go_at_call 101; refine HCK.out.mono ?_; rintro e w3 ⟨rfl, b3⟩))
          go_ret2
          refine .inr ⟨by rw [HF.out]; decide, by rw [HF.out]; rfl, bel.trans ((b2.trans (b3.mono b2.size)).mono bel.size)⟩
      · have hre : rowE cs r = 1 := by
          simp only [rowE, Bool.and_eq_true, decide_eq_true_eq, hcl]
          rw [if_neg hpk]
        rw [if_neg (by rw [hre]; decide), hfe, hre] at hfd
        have HF := Lib.hid hfd
        clear hre
        cases hpo : pickOk r cs with
        | false =>
          have HPK := Lib.hid (refpick_bad (c := rc) (cc := cc) r cs hrv hc' hpo hm)
          clear hfd hpk hrv hc' hfe hpo
          go_wp2_with (go_at_call 100; refine HPK.out.mono ?_; rintro e w2 ⟨rfl, b2⟩)
          go_ret2
          refine .inr ⟨by rw [HF.out]; decide, by rw [HF.out]; rfl, bel.trans (b2.mono bel.size)⟩
        | true =>
          have HPK := refpick_ok (c := rc) (cc := cc) r cs hrv hc' hpo hm
          rw [decide_eq_false (fun h => hpk ⟨hpo, h⟩)] at HPK
          have HPK := Lib.hid HPK
          clear hfd hpk hrv hc' hfe hpo
          go_wp2_with (go_at_call 100; refine HPK.out.mono ?_; rintro e w2 ⟨v2, rfl, _, b2⟩)
          go_ret2
          refine .inr ⟨by rw [HF.out]; decide, by rw [HF.out]; rfl, bel.trans (b2.mono bel.size)⟩
    · obtain rfl : k = n := by omega
      have HF := Lib.hid hfe
      have HO := Lib.hid O
      have hll := hl.len
      have hlh := hl.hd.1
      clear hl hc hfe O
      go_wp2
      go_ret2
      refine .inl ⟨?_, w.heap.size, hs, rfl, ?_, bel⟩
      · rw [← HF.out, List.drop_eq_nil_of_le (by omega)]; rfl
      · have := HO.out
        rw [List.take_of_length_le (by simp [numsOf]; omega), ← HP.out] at this
        exact this
end Go.Proofs.YtkbapoeilcapfaaGreat
