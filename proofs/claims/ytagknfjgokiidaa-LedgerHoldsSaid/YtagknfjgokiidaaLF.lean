/- the ledger: ready, find, left. -/
import Derived.Test.YtagknfjgokiidaaLB
namespace Go.Proofs.Ytagknfjgokiidaa
open Go.RowKit Go.Maps
set_option linter.unusedVariables false
set_option linter.unusedSimpArgs false

structure Ac where
  ab : Option Nat
  grant : Int
  held : Int
  peak : Int
  granted : Int
  below : Int
def Ac.cells (a : Ac) : Array Value := #[.pointer (a.ab.map fun b => ⟨b, 0, none⟩), .int .i64 a.grant, .int .i64 a.held, .int .i64 a.peak, .int .i64 a.granted, .int .i64 a.below]
def Ac.none : Ac := ⟨Option.none, 0, 0, 0, 0, 0⟩
abbrev acObj (a : Ac) : Obj := .cells a.cells 87 (0, 0)
/-- The ledger at block bl, its map at bm, its accounts. -/
structure Led (w : World) (bl bm : Nat) (made most : Int) (L : List (Int × Nat)) (A : Nat → Ac) : Prop where
  led : w.heap[bl]? = some (.cells #[.map (some bm), .int .i64 made, .int .i64 most] 90 (0, 0))
  map : OwnA w bm L.length L
  acc : ∀ x ∈ L, w.heap[x.2]? = some (acObj (A x.2))
  ord : L.Pairwise (fun x y => x.1 < y.1)
  nod : (L.map (·.2)).Nodup
def LedS (bl bm : Nat) (L : List (Int × Nat)) (k : Nat) : Prop := k = bl ∨ k = bm ∨ k ∈ L.map (·.2)
theorem findA_mem {L : List (Int × Nat)} {n : Int} {b : Nat} (h : findA L n = some b) : (n, b) ∈ L := by
  unfold findA at h
  cases hf : L.find? fun x => x.1 == n with
  | none => rw [hf] at h; cases h
  | some x =>
    rw [hf] at h
    obtain ⟨y, rfl⟩ : ∃ y, x = (n, y) := by
      have := List.find?_some hf
      obtain ⟨x1, x2⟩ := x
      simp at this
      exact ⟨x2, by rw [this]⟩
    simp at h
    subst h
    exact List.mem_of_find?_eq_some hf
theorem mapObj {w : World} {bm nn : Nat} {L : List (Int × Nat)} (h : OwnA w bm nn L) : ∃ es clock, w.heap[bm]? = some (.map es clock) := by
  obtain ⟨es, clock, hb, _⟩ := h
  exact ⟨es, clock, hb⟩
theorem Led.bl_ne {w : World} {bl bm : Nat} {made most : Int} {L : List (Int × Nat)} {A : Nat → Ac} (H : Led w bl bm made most L A) : bl ≠ bm ∧ (∀ x ∈ L, x.2 ≠ bl) ∧ (∀ x ∈ L, x.2 ≠ bm) := by
  obtain ⟨es, clock, hm⟩ := mapObj H.map
  refine ⟨fun e => ?_, fun x hx e => ?_, fun x hx e => ?_⟩
  · have := H.led
    rw [e, hm] at this
    cases this
  · have := H.acc x hx
    rw [e, H.led] at this
    injection this with this
    injection this with _ ht
    exact absurd ht (by decide)
  · have := H.acc x hx
    rw [e, hm] at this
    cases this
theorem OwnA.turn {S : Nat → Prop} {w w' : World} {bm nn : Nat} {L : List (Int × Nat)} (h : OwnA w bm nn L) (ht : Turn S w w') (hs : ¬ S bm) : OwnA w' bm nn L := by
  obtain ⟨es, clock, hb, r⟩ := h
  exact ⟨es, clock, ht.heap hb hs, r⟩
theorem Led.turn {S : Nat → Prop} {w w' : World} {bl bm : Nat} {made most : Int} {L : List (Int × Nat)} {A : Nat → Ac} (H : Led w bl bm made most L A) (ht : Turn S w w') (hs : ∀ k, LedS bl bm L k → ¬ S k) : Led w' bl bm made most L A :=
  ⟨ht.heap H.led (hs _ (.inl rfl)), H.map.turn ht (hs _ (.inr (.inl rfl))), fun x hx => ht.heap (H.acc x hx) (hs _ (.inr (.inr (List.mem_map.2 ⟨x, hx, rfl⟩)))), H.ord, H.nod⟩
theorem Led.below {w w' : World} {bl bm : Nat} {made most : Int} {L : List (Int × Nat)} {A : Nat → Ac} (H : Led w bl bm made most L A) (hb : Below w.heap.size w w') : Led w' bl bm made most L A :=
  H.turn (Turn.of_below hb (fun _ => False)) (fun _ _ => id)
theorem Led.cells {w : World} {bl bm : Nat} {made most : Int} {L : List (Int × Nat)} {A : Nat → Ac} (H : Led w bl bm made most L A) :
    w.cell? ⟨bl, 0, Option.none⟩ = some (.map (some bm)) ∧ w.cell? ⟨bl, 1, Option.none⟩ = some (.int .i64 made) ∧ w.cell? ⟨bl, 2, Option.none⟩ = some (.int .i64 most) ∧ w.frozen? ⟨bl, 1, Option.none⟩ = false ∧ w.frozen? ⟨bl, 2, Option.none⟩ = false ∧ bl < w.heap.size :=
  ⟨cell_of_blk H.led 0, cell_of_blk H.led 1, cell_of_blk H.led 2, free_of_blk H.led 1, free_of_blk H.led 2, lt_of_heap H.led⟩
theorem ac_cells {w : World} {b : Nat} {a : Ac} (h : w.heap[b]? = some (acObj a)) :
    w.cell? ⟨b, 0, Option.none⟩ = some (.pointer (a.ab.map fun b => ⟨b, 0, Option.none⟩)) ∧ w.cell? ⟨b, 1, Option.none⟩ = some (.int .i64 a.grant) ∧ w.cell? ⟨b, 2, Option.none⟩ = some (.int .i64 a.held) ∧ w.cell? ⟨b, 3, Option.none⟩ = some (.int .i64 a.peak) ∧ w.cell? ⟨b, 4, Option.none⟩ = some (.int .i64 a.granted) ∧ w.cell? ⟨b, 5, Option.none⟩ = some (.int .i64 a.below) ∧ b < w.heap.size :=
  ⟨cell_of_blk h 0, cell_of_blk h 1, cell_of_blk h 2, cell_of_blk h 3, cell_of_blk h 4, cell_of_blk h 5, lt_of_heap h⟩
theorem ready_nil (w : World) : Calls Try.prog 48 #[.pointer Option.none] w fun e w' => e = .returned (.bool false) ∧ w' = w := by
  go_enter Try.func48, Try.ntmps48
  go_wp2
  go_ret
  exact ⟨rfl, rfl⟩
theorem neqMap (bm : Nat) (w : World) : (binOp .neq 88 (.map (some bm)) (.map Option.none)).run Try.prog w = .ok (.bool true) w := by kernel_rfl
theorem ready_yes {w : World} {bl bm : Nat} {made most : Int} {L : List (Int × Nat)} {A : Nat → Ac} (H : Led w bl bm made most L A) : Calls Try.prog 48 #[.pointer (some ⟨bl, 0, Option.none⟩)] w fun e w' => e = .returned (.bool true) ∧ w' = w := by
  obtain ⟨c0, c1, c2, f1, f2, hb⟩ := H.cells
  have hn := neqMap bm w
  clear H
  go_enter Try.func48, Try.ntmps48
  go_wp2
  go_ret
  exact ⟨rfl, rfl⟩
theorem find_nil (w : World) (n : Int) : Calls Try.prog 47 #[.pointer Option.none, .int .i64 n] w fun e w' => e = .returned (.tuple #[.pointer (some ⟨w.heap.size, 0, Option.none⟩), .bool false]) ∧ w' = w.alloc (acObj Ac.none) := by
  have HR := Lib.hid (ready_nil w)
  go_enter Try.func47, Try.ntmps47
  go_wp2_with (go_at_call 48; refine HR.out.mono ?_; rintro e w1 ⟨rfl, hw⟩; obtain rfl := hw.symm; clear hw)
  go_ret2
  exact ⟨rfl, rfl⟩
theorem find_yes {w : World} {bl bm b : Nat} {made most : Int} {L : List (Int × Nat)} {A : Nat → Ac} {n : Int} (H : Led w bl bm made most L A) (hw : (Lit.int .i64 n).wf = true) (hf : findA L n = some b) :
    Calls Try.prog 47 #[.pointer (some ⟨bl, 0, Option.none⟩), .int .i64 n] w fun e w' => e = .returned (.tuple #[.pointer (some ⟨b, 0, Option.none⟩), .bool true]) ∧ w' = w := by
  have HR := Lib.hid (ready_yes H)
  have hrun := look_some H.map hw hf
  obtain ⟨c0, c1, c2, f1, f2, hb⟩ := H.cells
  clear H hf
  go_enter Try.func47, Try.ntmps47
  go_wp2_with (go_at_call 48; refine HR.out.mono ?_; rintro e w1 ⟨rfl, hw⟩; obtain rfl := hw.symm; clear hw)
  go_ret2
  exact ⟨rfl, rfl⟩
theorem find_no {w : World} {bl bm : Nat} {made most : Int} {L : List (Int × Nat)} {A : Nat → Ac} {n : Int} (H : Led w bl bm made most L A) (hw : (Lit.int .i64 n).wf = true) (hf : findA L n = Option.none) :
    Calls Try.prog 47 #[.pointer (some ⟨bl, 0, Option.none⟩), .int .i64 n] w fun e w' => e = .returned (.tuple #[.pointer (some ⟨w.heap.size, 0, Option.none⟩), .bool false]) ∧ w' = w.alloc (acObj Ac.none) := by
  have HR := Lib.hid (ready_yes H)
  have hrun := look_none H.map hw hf
  obtain ⟨c0, c1, c2, f1, f2, hb⟩ := H.cells
  clear H hf
  go_enter Try.func47, Try.ntmps47
  go_wp2_with (go_at_call 48; refine HR.out.mono ?_; rintro e w1 ⟨rfl, hw⟩; obtain rfl := hw.symm; clear hw)
  go_ret2
  exact ⟨rfl, rfl⟩
def Ac.left (a : Ac) : Int := a.grant - a.held - a.granted
theorem left_walk {w : World} {b : Nat} {a : Ac} (h : w.heap[b]? = some (acObj a)) (h1 : 0 ≤ a.held) (h2 : 0 ≤ a.granted) (h3 : 0 ≤ a.grant) (h4 : a.held ≤ 100000) (h5 : a.granted ≤ 100000) (h6 : a.grant ≤ 100000) :
    Calls Try.prog 49 #[.pointer (some ⟨b, 0, Option.none⟩)] w fun e w' => e = .returned (.int .i64 a.left) ∧ Below w.heap.size w w' := by
  obtain ⟨c0, c1, c2, c3, c4, c5, hb⟩ := ac_cells h
  obtain ⟨ab, g, hd, pk, gr, be⟩ := a
  dsimp only at *
  clear h
  go_enter Try.func49, Try.ntmps49
  go_wp2
  go_quiet (fail)
  go_wp2
  go_ret
  exact ⟨rfl, rfl, rfl, rfl, Nat.le_refl _, fun _ _ => rfl⟩
end Go.Proofs.Ytagknfjgokiidaa
