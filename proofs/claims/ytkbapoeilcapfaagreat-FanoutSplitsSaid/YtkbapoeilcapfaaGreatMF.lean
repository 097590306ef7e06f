/- The ledger and its calls. -/
import Derived.Test.YtkbapoeilcapfaaGreatProg
import Derived.Test.YtkbapoeilcapfaaGreatMA
import Derived.ChangeShapes
import Derived.Deep.Slices
import Derived.Deep.Fields
import Derived.ChangeSame
import Derived.Deep.QuietTactic
import Derived.BigQuiet
import Derived.Outline
import Derived.Lib.Hide
import Derived.KernelRfl
import Derived.OpenShut
import Derived.Maps.OwnSet
import Derived.Maps.RangeWalk
import Derived.Shelf.SlIterI.Nil
import Derived.Shelf.SortM.Plain
import Derived.Shelf.SortM.SortNone
import Derived.Ground.GgzProg
import Derived.Ground.SlgmProg
import Derived.Deep.RegionLaw
import Derived.BigRegion
import Derived.Deep.RegionWith
/- a map of accounts. -/
namespace Go.Proofs.YtkbapoeilcapfaaGreat
open Go.RowKit Go.Maps

def ptrE (v : Value) : Option (DataW Unit × List MemPlace) :=
  match v with
  | .pointer none => some (.nil, [])
  | .pointer (some a) => if a.off = 0 ∧ a.spot = none then some (.lit (.int .i64 a.block), []) else none
  | _ => none
theorem ptrE_nil : ptrE (.pointer none) = some (.nil, []) := rfl
theorem ptrE_some (b : Nat) : ptrE (.pointer (some ⟨b, 0, none⟩)) = some (.lit (.int .i64 b), []) := by simp [ptrE]
theorem ptrE_inv_lit {v : Value} {b : Int} {ps : List MemPlace} (h : ptrE v = some (.lit (.int .i64 b), ps)) : ∃ n : Nat, v = .pointer (some ⟨n, 0, none⟩) ∧ b = n := by
  unfold ptrE at h
  split at h
  · cases h
  · next a =>
    split at h
    · next hc =>
      obtain ⟨blk, off, spot⟩ := a
      obtain ⟨rfl, rfl⟩ := hc
      simp only [Option.some.injEq, Prod.mk.injEq, DataW.lit.injEq, Lit.int.injEq, true_and] at h
      exact ⟨blk, rfl, h.1.symm⟩
    · cases h
  · cases h
theorem ptrE_inv_nil {v : Value} {ps : List MemPlace} (h : ptrE v = some (.nil, ps)) : v = .pointer none := by
  unfold ptrE at h
  split at h
  · rfl
  · split at h <;> cases h
  · cases h
/-- The map's datum: the numbers and the blocks. -/
def dOf (L : List (Int × Nat)) : DataW Unit := .map (L.map fun x => (.int .i64 x.1, .lit (.int .i64 x.2)))
def findA (L : List (Int × Nat)) (n : Int) : Option Nat := (L.find? fun x => x.1 == n).map (·.2)
theorem sameKey_int (a b : Int) : (Lit.int .i64 a).sameKey (Lit.int .i64 b) = (a == b) := by
  by_cases h : a = b <;> simp [Lit.sameKey, h]
theorem dOf_at (L : List (Int × Nat)) (n : Int) : (dOf L).atKey (.int .i64 n) .nil = match findA L n with | some b => .lit (.int .i64 b) | none => .nil := by
  unfold dOf DataW.atKey findA
  dsimp only
  rw [List.find?_map]
  have : (fun p : Lit × DataW Unit => p.1.sameKey (.int .i64 n)) ∘ (fun x : Int × Nat => ((Lit.int .i64 x.1, DataW.lit (.int .i64 x.2)) : Lit × DataW Unit)) = fun x => x.1 == n := by
    funext x
    simp [sameKey_int]
  rw [this]
  cases L.find? fun x => x.1 == n <;> rfl
theorem dOf_size (L : List (Int × Nat)) : Maps.size (dOf L) = L.length := by simp [dOf, Maps.size]
theorem insert_end (x : Lit × DataW Unit) : ∀ l : List (Lit × DataW Unit), (∀ p ∈ l, x.1.before p.1 = false) → DataW.insert x l = l ++ [x]
  | [], _ => rfl
  | y :: r, h => by
    unfold DataW.insert
    rw [if_neg (by rw [h y (by simp)]; decide), insert_end x r (fun p hp => h p (by simp [hp]))]
    rfl
theorem dOf_put (L : List (Int × Nat)) (n : Int) (b : Nat) (h : ∀ x ∈ L, x.1 < n) : (dOf L).put (.int .i64 n) (.lit (.int .i64 b)) = dOf (L ++ [(n, b)]) := by
  unfold dOf DataW.put
  dsimp only
  rw [List.filter_eq_self.2, insert_end]
  · simp
  · intro p hp
    obtain ⟨x, hx, rfl⟩ := List.mem_map.1 hp
    have := h x hx
    simp [Lit.before]
    omega
  · intro p hp
    obtain ⟨x, hx, rfl⟩ := List.mem_map.1 hp
    have := h x hx
    simp [sameKey_int]
    omega
theorem dOf_del (L : List (Int × Nat)) (n : Int) : (dOf L).del (.int .i64 n) = dOf (L.filter fun x => !(x.1 == n)) := by
  unfold dOf DataW.del
  dsimp only
  rw [List.filter_map]
  congr 2
  congr 1
  funext x
  simp [sameKey_int]
theorem keyI {n : Int} (hw : (Lit.int .i64 n).wf = true) : keyOf Tryz.prog 3 (.int .i64 n) = some (.int .i64 n) := keyOf_int_mk Tryz.underlying3 hw
theorem KI : Keyed Tryz.prog 3 := int_keyed Tryz.underlying3
theorem zeroA (w : World) : (zeroValue 147).run Tryz.prog w = .ok (.pointer none) w := by kernel_rfl
abbrev OwnA (w : World) (bm nn : Nat) (L : List (Int × Nat)) : Prop := w.ownsMap Tryz.prog 3 ptrE bm nn (dOf L)
theorem look_some {w : World} {bm nn b : Nat} {L : List (Int × Nat)} {n : Int} (h : OwnA w bm nn L) (hw : (Lit.int .i64 n).wf = true) (hf : findA L n = some b) : (Instr.lookup 132 (.map (some bm)) (.int .i64 n) false).run Tryz.prog w = .ok (.pointer (some ⟨b, 0, none⟩)) w := by
  obtain ⟨v, ps, hr, hv⟩ := World.ownsMap.lookup h KI Tryz.underlying132 (zeroA w) ptrE_nil (keyI hw)
  rw [dOf_at, hf] at hv
  obtain ⟨m, rfl, e⟩ := ptrE_inv_lit hv
  rw [hr]
  have : m = b := by omega
  rw [this]
theorem look_none {w : World} {bm nn : Nat} {L : List (Int × Nat)} {n : Int} (h : OwnA w bm nn L) (hw : (Lit.int .i64 n).wf = true) (hf : findA L n = none) : (Instr.lookup 132 (.map (some bm)) (.int .i64 n) false).run Tryz.prog w = .ok (.pointer none) w := by
  obtain ⟨v, ps, hr, hv⟩ := World.ownsMap.lookup h KI Tryz.underlying132 (zeroA w) ptrE_nil (keyI hw)
  rw [dOf_at, hf] at hv
  obtain rfl := ptrE_inv_nil hv
  exact hr
end Go.Proofs.YtkbapoeilcapfaaGreat

/- the ledger: ready, find, left. -/
namespace Go.Proofs.YtkbapoeilcapfaaGreat
open Go.RowKit Go.Maps
set_option linter.unusedVariables false
set_option linter.unusedSimpArgs false

structure Ac where
  ab : Option Nat
  grant : Int
  held : Int
  peak : Int
  granted : Int
  below : Int
def Ac.cells (a : Ac) : Array Value := #[.pointer (a.ab.map fun b => ⟨b, 0, none⟩), .int .i64 a.grant, .int .i64 a.held, .int .i64 a.peak, .int .i64 a.granted, .int .i64 a.below]
def Ac.none : Ac := ⟨Option.none, 0, 0, 0, 0, 0⟩
abbrev acObj (a : Ac) : Obj := .cells a.cells 149 (0, 0)
/-- The ledger at block bl, its map at bm, its accounts. -/
structure Led (w : World) (bl bm : Nat) (made most : Int) (L : List (Int × Nat)) (A : Nat → Ac) : Prop where
  led : w.heap[bl]? = some (.cells #[.map (some bm), .int .i64 made, .int .i64 most] 134 (0, 0))
  map : OwnA w bm L.length L
  acc : ∀ x ∈ L, w.heap[x.2]? = some (acObj (A x.2))
  ord : L.Pairwise (fun x y => x.1 < y.1)
  nod : (L.map (·.2)).Nodup
def LedS (bl bm : Nat) (L : List (Int × Nat)) (k : Nat) : Prop := k = bl ∨ k = bm ∨ k ∈ L.map (·.2)
theorem findA_mem {L : List (Int × Nat)} {n : Int} {b : Nat} (h : findA L n = some b) : (n, b) ∈ L := by
  unfold findA at h
  cases hf : L.find? fun x => x.1 == n with
  | none => rw [hf] at h; cases h
  | some x =>
    rw [hf] at h
    obtain ⟨y, rfl⟩ : ∃ y, x = (n, y) := by
      have := List.find?_some hf
      obtain ⟨x1, x2⟩ := x
      simp at this
      exact ⟨x2, by rw [this]⟩
    simp at h
    subst h
    exact List.mem_of_find?_eq_some hf
theorem mapObj {w : World} {bm nn : Nat} {L : List (Int × Nat)} (h : OwnA w bm nn L) : ∃ es clock, w.heap[bm]? = some (.map es clock) := by
  obtain ⟨es, clock, hb, _⟩ := h
  exact ⟨es, clock, hb⟩
theorem Led.bl_ne {w : World} {bl bm : Nat} {made most : Int} {L : List (Int × Nat)} {A : Nat → Ac} (H : Led w bl bm made most L A) : bl ≠ bm ∧ (∀ x ∈ L, x.2 ≠ bl) ∧ (∀ x ∈ L, x.2 ≠ bm) := by
  obtain ⟨es, clock, hm⟩ := mapObj H.map
  refine ⟨fun e => ?_, fun x hx e => ?_, fun x hx e => ?_⟩
  · have := H.led
    rw [e, hm] at this
    cases this
  · have := H.acc x hx
    rw [e, H.led] at this
    injection this with this
    injection this with _ ht
    exact absurd ht (by decide)
  · have := H.acc x hx
    rw [e, hm] at this
    cases this
theorem OwnA.turn {S : Nat → Prop} {w w' : World} {bm nn : Nat} {L : List (Int × Nat)} (h : OwnA w bm nn L) (ht : Turn S w w') (hs : ¬ S bm) : OwnA w' bm nn L := by
  obtain ⟨es, clock, hb, r⟩ := h
  exact ⟨es, clock, ht.heap hb hs, r⟩
theorem Led.turn {S : Nat → Prop} {w w' : World} {bl bm : Nat} {made most : Int} {L : List (Int × Nat)} {A : Nat → Ac} (H : Led w bl bm made most L A) (ht : Turn S w w') (hs : ∀ k, LedS bl bm L k → ¬ S k) : Led w' bl bm made most L A :=
  ⟨ht.heap H.led (hs _ (.inl rfl)), H.map.turn ht (hs _ (.inr (.inl rfl))), fun x hx => ht.heap (H.acc x hx) (hs _ (.inr (.inr (List.mem_map.2 ⟨x, hx, rfl⟩)))), H.ord, H.nod⟩
theorem Led.below {w w' : World} {bl bm : Nat} {made most : Int} {L : List (Int × Nat)} {A : Nat → Ac} (H : Led w bl bm made most L A) (hb : Below w.heap.size w w') : Led w' bl bm made most L A :=
  H.turn (Turn.of_below hb (fun _ => False)) (fun _ _ => id)
theorem Led.cells {w : World} {bl bm : Nat} {made most : Int} {L : List (Int × Nat)} {A : Nat → Ac} (H : Led w bl bm made most L A) :
    w.cell? ⟨bl, 0, Option.none⟩ = some (.map (some bm)) ∧ w.cell? ⟨bl, 1, Option.none⟩ = some (.int .i64 made) ∧ w.cell? ⟨bl, 2, Option.none⟩ = some (.int .i64 most) ∧ w.frozen? ⟨bl, 1, Option.none⟩ = false ∧ w.frozen? ⟨bl, 2, Option.none⟩ = false ∧ bl < w.heap.size :=
  ⟨cell_of_blk H.led 0, cell_of_blk H.led 1, cell_of_blk H.led 2, free_of_blk H.led 1, free_of_blk H.led 2, lt_of_heap H.led⟩
theorem ac_cells {w : World} {b : Nat} {a : Ac} (h : w.heap[b]? = some (acObj a)) :
    w.cell? ⟨b, 0, Option.none⟩ = some (.pointer (a.ab.map fun b => ⟨b, 0, Option.none⟩)) ∧ w.cell? ⟨b, 1, Option.none⟩ = some (.int .i64 a.grant) ∧ w.cell? ⟨b, 2, Option.none⟩ = some (.int .i64 a.held) ∧ w.cell? ⟨b, 3, Option.none⟩ = some (.int .i64 a.peak) ∧ w.cell? ⟨b, 4, Option.none⟩ = some (.int .i64 a.granted) ∧ w.cell? ⟨b, 5, Option.none⟩ = some (.int .i64 a.below) ∧ b < w.heap.size :=
  ⟨cell_of_blk h 0, cell_of_blk h 1, cell_of_blk h 2, cell_of_blk h 3, cell_of_blk h 4, cell_of_blk h 5, lt_of_heap h⟩
theorem ready_nil (w : World) : Calls Tryz.prog 72 #[.pointer Option.none] w fun e w' => e = .returned (.bool false) ∧ w' = w := by
  go_enter Tryz.func72, Tryz.ntmps72
  go_wp2
  go_ret
  exact ⟨rfl, rfl⟩
theorem neqMap (bm : Nat) (w : World) : (binOp .neq 132 (.map (some bm)) (.map Option.none)).run Tryz.prog w = .ok (.bool true) w := by kernel_rfl
theorem ready_yes {w : World} {bl bm : Nat} {made most : Int} {L : List (Int × Nat)} {A : Nat → Ac} (H : Led w bl bm made most L A) : Calls Tryz.prog 72 #[.pointer (some ⟨bl, 0, Option.none⟩)] w fun e w' => e = .returned (.bool true) ∧ w' = w := by
  obtain ⟨c0, c1, c2, f1, f2, hb⟩ := H.cells
  have hn := neqMap bm w
  clear H
  go_enter Tryz.func72, Tryz.ntmps72
  go_wp2
  go_ret
  exact ⟨rfl, rfl⟩
theorem find_nil (w : World) (n : Int) : Calls Tryz.prog 93 #[.pointer Option.none, .int .i64 n] w fun e w' => e = .returned (.tuple #[.pointer (some ⟨w.heap.size, 0, Option.none⟩), .bool false]) ∧ w' = w.alloc (acObj Ac.none) := by
  have HR := Lib.hid (ready_nil w)
  go_enter Tryz.func93, Tryz.ntmps93
  go_wp2_with (go_at_call 72; refine HR.out.mono ?_; rintro e w1 ⟨rfl, hw⟩; obtain rfl := hw.symm; clear hw)
  go_ret2
  exact ⟨rfl, rfl⟩
theorem find_yes {w : World} {bl bm b : Nat} {made most : Int} {L : List (Int × Nat)} {A : Nat → Ac} {n : Int} (H : Led w bl bm made most L A) (hw : (Lit.int .i64 n).wf = true) (hf : findA L n = some b) :
    Calls Tryz.prog 93 #[.pointer (some ⟨bl, 0, Option.none⟩), .int .i64 n] w fun e w' => e = .returned (.tuple #[.pointer (some ⟨b, 0, Option.none⟩), .bool true]) ∧ w' = w := by
  have HR := Lib.hid (ready_yes H)
  have hrun := look_some H.map hw hf
  obtain ⟨c0, c1, c2, f1, f2, hb⟩ := H.cells
  clear H hf
  go_enter Tryz.func93, Tryz.ntmps93
  go_wp2_with (go_at_call 72; refine HR.out.mono ?_; rintro e w1 ⟨rfl, hw⟩; obtain rfl := hw.symm; clear hw)
  go_ret2
  exact ⟨rfl, rfl⟩
theorem find_no {w : World} {bl bm : Nat} {made most : Int} {L : List (Int × Nat)} {A : Nat → Ac} {n : Int} (H : Led w bl bm made most L A) (hw : (Lit.int .i64 n).wf = true) (hf : findA L n = Option.none) :
    Calls Tryz.prog 93 #[.pointer (some ⟨bl, 0, Option.none⟩), .int .i64 n] w fun e w' => e = .returned (.tuple #[.pointer (some ⟨w.heap.size, 0, Option.none⟩), .bool false]) ∧ w' = w.alloc (acObj Ac.none) := by
  have HR := Lib.hid (ready_yes H)
  have hrun := look_none H.map hw hf
  obtain ⟨c0, c1, c2, f1, f2, hb⟩ := H.cells
  clear H hf
  go_enter Tryz.func93, Tryz.ntmps93
  go_wp2_with (go_at_call 72; refine HR.out.mono ?_; rintro e w1 ⟨rfl, hw⟩; obtain rfl := hw.symm; clear hw)
  go_ret2
  exact ⟨rfl, rfl⟩
def Ac.left (a : Ac) : Int := a.grant - a.held - a.granted
theorem left_walk {w : World} {b : Nat} {a : Ac} (h : w.heap[b]? = some (acObj a)) (h1 : 0 ≤ a.held) (h2 : 0 ≤ a.granted) (h3 : 0 ≤ a.grant) (h4 : a.held ≤ 100000) (h5 : a.granted ≤ 100000) (h6 : a.grant ≤ 100000) :
    Calls Tryz.prog 94 #[.pointer (some ⟨b, 0, Option.none⟩)] w fun e w' => e = .returned (.int .i64 a.left) ∧ Below w.heap.size w w' := by
  obtain ⟨c0, c1, c2, c3, c4, c5, hb⟩ := ac_cells h
  obtain ⟨ab, g, hd, pk, gr, be⟩ := a
  dsimp only at *
  clear h
  go_enter Tryz.func94, Tryz.ntmps94
  go_wp2
  go_quiet (fail)
  go_wp2
  go_ret
  exact ⟨rfl, rfl, rfl, rfl, Nat.le_refl _, fun _ _ => rfl⟩
end Go.Proofs.YtkbapoeilcapfaaGreat

/- a map's keys, sorted. -/
namespace Go.Proofs.YtkbapoeilcapfaaGreat
open Go.RowKit Go.Maps Go.Sort Go.Shelf

def Tryz.sortedA_ren : Go.Shelf.Ren := ⟨fun | 6 => 62 | 8 => 95 | 9 => 96 | 11 => 120 | 13 => 122 | 12 => 121 | 23 => 145 | 24 => 146 | 14 => 136 | 15 => 137 | 16 => 138 | 17 => 139 | 18 => 140 | 19 => 141 | 20 => 142 | 21 => 143 | 22 => 144 | 25 => 154 | 26 => 155 | 27 => 156 | 28 => 157 | 29 => 158 | 30 => 159 | 31 => 166 | n => n, fun | 26 => 3 | 28 => 123 | 24 => 22 | 0 => 0 | 3 => 3 | 37 => 178 | 48 => 213 | 50 => 71 | 4 => 4 | 40 => 206 | 39 => 205 | 45 => 210 | 5 => 5 | 9 => 9 | 51 => 222 | 55 => 226 | 57 => 234 | 58 => 235 | 33 => 166 | n => n, fun | n => n⟩
theorem Tryz.sortedA : Go.Proofs.SlLaysZI.n6 Tryz.prog Tryz.sortedA_ren := {
  mixed := by kernel_rfl
  f6 := ⟨Tryz.f62.name, by decide, Tryz.func62.trans (congrArg some (by kernel_rfl))⟩
  f8 := ⟨Tryz.f95.name, by decide, Tryz.func95.trans (congrArg some (by kernel_rfl))⟩
  f11 := ⟨Tryz.f120.name, by decide, Tryz.func120.trans (congrArg some (by kernel_rfl))⟩
  t0 := Tryz.underlying0
  a0 := Tryz.isAgg0
  z0 := Tryz.sizeOf0
  v0 := Tryz.zeroValue0
  t24 := Tryz.underlying22
  a24 := Tryz.isAgg22
  z24 := Tryz.sizeOf22
  v24 := Tryz.zeroValue22
  t26 := Tryz.underlying3
  a26 := Tryz.isAgg3
  z26 := Tryz.sizeOf3
  v26 := Tryz.zeroValue3
  t28 := Tryz.underlying123
  a28 := Tryz.isAgg123
  z28 := Tryz.sizeOf123
  v28 := Tryz.zeroValue123
  i26 := by kernel_rfl }
def Tryz.sortA_ren : Go.Shelf.Ren := ⟨fun | 5 => 96 | 8 => 122 | 7 => 121 | 19 => 145 | 20 => 146 | 10 => 136 | 11 => 137 | 12 => 138 | 13 => 139 | 14 => 140 | 15 => 141 | 16 => 142 | 17 => 143 | 18 => 144 | 30 => 154 | 31 => 155 | 32 => 156 | 33 => 157 | 34 => 158 | 35 => 159 | 40 => 166 | n => n, fun | 23 => 22 | 25 => 3 | 3 => 3 | 32 => 178 | 22 => 22 | 0 => 0 | 44 => 213 | 46 => 71 | 4 => 4 | 36 => 206 | 35 => 205 | 41 => 210 | 5 => 5 | 9 => 9 | 53 => 222 | 57 => 226 | 63 => 234 | 64 => 235 | n => n, fun | n => n⟩
theorem Tryz.sortA : Go.Proofs.SlLaysM.n5 Tryz.prog Tryz.sortA_ren := {
  mixed := by kernel_rfl
  f5 := ⟨Tryz.f96.name, by decide, Tryz.func96.trans (congrArg some (by kernel_rfl))⟩
  f7 := ⟨Tryz.f121.name, by decide, Tryz.func121.trans (congrArg some (by kernel_rfl))⟩
  f8 := Tryz.func122.trans (congrArg some (by kernel_rfl))
  f10 := ⟨Tryz.f136.name, by decide, Tryz.func136.trans (congrArg some (by kernel_rfl))⟩
  f11 := ⟨Tryz.f137.name, by decide, Tryz.func137.trans (congrArg some (by kernel_rfl))⟩
  f12 := ⟨Tryz.f138.name, by decide, Tryz.func138.trans (congrArg some (by kernel_rfl))⟩
  f13 := ⟨Tryz.f139.name, by decide, Tryz.func139.trans (congrArg some (by kernel_rfl))⟩
  f14 := ⟨Tryz.f140.name, by decide, Tryz.func140.trans (congrArg some (by kernel_rfl))⟩
  f15 := ⟨Tryz.f141.name, by decide, Tryz.func141.trans (congrArg some (by kernel_rfl))⟩
  f16 := ⟨Tryz.f142.name, by decide, Tryz.func142.trans (congrArg some (by kernel_rfl))⟩
  f17 := ⟨Tryz.f143.name, by decide, Tryz.func143.trans (congrArg some (by kernel_rfl))⟩
  f18 := ⟨Tryz.f144.name, by decide, Tryz.func144.trans (congrArg some (by kernel_rfl))⟩
  f19 := Tryz.func145.trans (congrArg some (by kernel_rfl))
  f20 := Tryz.func146.trans (congrArg some (by kernel_rfl))
  f30 := ⟨Tryz.f154.name, by decide, Tryz.func154.trans (congrArg some (by kernel_rfl))⟩
  f31 := Tryz.func155.trans (congrArg some (by kernel_rfl))
  f32 := Tryz.func156.trans (congrArg some (by kernel_rfl))
  f33 := ⟨Tryz.f157.name, by decide, Tryz.func157.trans (congrArg some (by kernel_rfl))⟩
  f34 := ⟨Tryz.f158.name, by decide, Tryz.func158.trans (congrArg some (by kernel_rfl))⟩
  f35 := ⟨Tryz.f159.name, by decide, Tryz.func159.trans (congrArg some (by kernel_rfl))⟩
  f40 := ⟨Tryz.f166.name, by decide, Tryz.func166.trans (congrArg some (by kernel_rfl))⟩
  t0 := Tryz.underlying0
  a0 := Tryz.isAgg0
  z0 := Tryz.sizeOf0
  v0 := Tryz.zeroValue0
  t3 := Tryz.underlying3
  a3 := Tryz.isAgg3
  z3 := Tryz.sizeOf3
  v3 := Tryz.zeroValue3
  t4 := Tryz.underlying4
  a4 := Tryz.isAgg4
  z4 := Tryz.sizeOf4
  v4 := Tryz.zeroValue4
  t5 := Tryz.underlying5
  a5 := Tryz.isAgg5
  z5 := Tryz.sizeOf5
  v5 := Tryz.zeroValue5
  t9 := Tryz.underlying9
  a9 := Tryz.isAgg9
  z9 := Tryz.sizeOf9
  v9 := Tryz.zeroValue9
  t22 := Tryz.underlying22
  a22 := Tryz.isAgg22
  z22 := Tryz.sizeOf22
  v22 := Tryz.zeroValue22
  t23 := Tryz.underlying22
  a23 := Tryz.isAgg22
  z23 := Tryz.sizeOf22
  v23 := Tryz.zeroValue22
  t25 := Tryz.underlying3
  a25 := Tryz.isAgg3
  z25 := Tryz.sizeOf3
  v25 := Tryz.zeroValue3
  t32 := Tryz.underlying178
  a32 := Tryz.isAgg178
  z32 := Tryz.sizeOf178
  v32 := Tryz.zeroValue178
  t35 := Tryz.underlying205
  a35 := Tryz.isAgg205
  z35 := Tryz.sizeOf205
  v35 := Tryz.zeroValue205
  t36 := Tryz.underlying206
  a36 := Tryz.isAgg206
  z36 := Tryz.sizeOf206
  v36 := Tryz.zeroValue206
  t41 := Tryz.underlying210
  a41 := Tryz.isAgg210
  z41 := Tryz.sizeOf210
  v41 := Tryz.zeroValue210
  t44 := Tryz.underlying213
  a44 := Tryz.isAgg213
  z44 := Tryz.sizeOf213
  v44 := Tryz.zeroValue213
  t46 := Tryz.underlying71
  a46 := Tryz.isAgg71
  z46 := Tryz.sizeOf71
  v46 := Tryz.zeroValue71
  t53 := Tryz.underlying222
  a53 := Tryz.isAgg222
  z53 := Tryz.sizeOf222
  v53 := Tryz.zeroValue222
  t57 := Tryz.underlying226
  a57 := Tryz.isAgg226
  z57 := Tryz.sizeOf226
  v57 := Tryz.zeroValue226
  t63 := Tryz.underlying234
  a63 := Tryz.isAgg234
  z63 := Tryz.sizeOf234
  v63 := Tryz.zeroValue234
  t64 := Tryz.underlying235
  a64 := Tryz.isAgg235
  z64 := Tryz.sizeOf235
  v64 := Tryz.zeroValue235 }
end Go.Proofs.YtkbapoeilcapfaaGreat

/- the ledger as plain data: what each call does, and what stays true. -/
namespace Go.Proofs.YtkbapoeilcapfaaGreat
set_option linter.unusedVariables false
set_option linter.unusedSimpArgs false

structure Acc where
  n : Int
  ab : Option Int
  grant : Int
  held : Int
  peak : Int
  granted : Int
  below : Int
  deriving DecidableEq
structure Ls where
  made : Int
  most : Int
  l : List Acc
  deriving DecidableEq
def Acc.left (a : Acc) : Int := a.grant - a.held - a.granted
def addKid (g : Int) (a : Acc) : Acc := { a with granted := a.granted + g, below := a.below + 1 }
def remKid (g : Int) (a : Acc) : Acc := { a with granted := a.granted - g, below := a.below - 1 }
def holdA (p : Int) (a : Acc) : Acc := { a with held := a.held + p, peak := max a.peak (a.held + p) }
def giveA (p : Int) (a : Acc) : Acc := { a with held := a.held - p }
def Ls.find (s : Ls) (n : Int) : Option Acc := s.l.find? fun a => a.n == n
def updL (l : List Acc) (n : Int) (f : Acc → Acc) : List Acc := l.map fun a => if a.n = n then f a else a
def sumL (l : List Acc) (f : Acc → Int) : Int := (l.map f).sum
def Ls.total (s : Ls) : Int := sumL s.l (·.held)
def Ls.openE (s : Ls) (u g : Int) : Int :=
  if g < 0 then 1 else match s.find u with
  | none => 4
  | some a => if 256 ≤ s.l.length then 2 else if a.left < g then 60 else 0
def Ls.open_ (s : Ls) (u g : Int) : Ls :=
  if s.openE u g = 0 then ⟨s.made + 1, s.most, updL s.l u (addKid g) ++ [⟨s.made + 1, some u, g, 0, 0, 0, 0⟩]⟩ else s
def Ls.closeE (s : Ls) (n : Int) : Int :=
  match s.find n with
  | none => 4
  | some a => if a.ab = none ∨ 0 < a.held ∨ 0 < a.below then 1 else 0
def Ls.close_ (s : Ls) (n : Int) : Ls :=
  if s.closeE n = 0 then match s.find n with
    | none => s
    | some a => ⟨s.made, s.most, (updL s.l (a.ab.getD 0) (remKid a.grant)).filter fun b => !(b.n == n)⟩
  else s
def Ls.takeE (s : Ls) (n p : Int) : Int :=
  if p < 0 then 1 else match s.find n with
  | none => 4
  | some a => if a.left < p then 60 else 0
def Ls.take_ (s : Ls) (n p : Int) : Ls :=
  if s.takeE n p = 0 then
    let l' := updL s.l n (holdA p)
    ⟨s.made, max s.most (sumL l' (·.held)), l'⟩
  else s
def Ls.giveE (s : Ls) (n p : Int) : Int :=
  match s.find n with
  | none => 4
  | some a => if p < 0 ∨ a.held < p then 1 else 0
def Ls.give_ (s : Ls) (n p : Int) : Ls :=
  if s.giveE n p = 0 then ⟨s.made, s.most, updL s.l n (giveA p)⟩ else s
def Ls.new (g : Int) : Ls := ⟨0, 0, [⟨0, none, g, 0, 0, 0, 0⟩]⟩

def kidSum (l : List Acc) (n : Int) : Int := sumL l fun x => if x.ab = some n then x.grant else 0
def kidCnt (l : List Acc) (n : Int) : Int := sumL l fun x => if x.ab = some n then 1 else 0
structure LOk (G : Int) (s : Ls) : Prop where
  ord : s.l.Pairwise (fun x y => x.n < y.n)
  num : ∀ x ∈ s.l, 0 ≤ x.n ∧ x.n ≤ s.made
  made : 0 ≤ s.made
  grantG : 0 ≤ G ∧ G ≤ 16384
  acc : ∀ x ∈ s.l, 0 ≤ x.held ∧ 0 ≤ x.grant ∧ x.grant ≤ 16384 ∧ x.held + x.granted ≤ x.grant ∧ x.held ≤ x.peak ∧ x.peak ≤ x.grant
  kid : ∀ x ∈ s.l, x.granted = kidSum s.l x.n ∧ x.below = kidCnt s.l x.n
  abv : ∀ x ∈ s.l, ∀ n, x.ab = some n → n ∈ s.l.map (·.n)
  root : ∀ x ∈ s.l, x.ab = none ↔ x.n = 0
  zero : ∃ x ∈ s.l, x.n = 0
  tot : sumL s.l (·.grant) - sumL s.l (·.granted) = G
  most : s.total ≤ s.most ∧ s.most ≤ G
  len : s.l.length ≤ 256

theorem sumL_nil (f : Acc → Int) : sumL [] f = 0 := rfl
theorem sumL_cons (x : Acc) (l : List Acc) (f : Acc → Int) : sumL (x :: l) f = f x + sumL l f := by simp [sumL]
theorem sumL_app (l m : List Acc) (f : Acc → Int) : sumL (l ++ m) f = sumL l f + sumL m f := by simp [sumL]
theorem sumL_nonneg {l : List Acc} {f : Acc → Int} (h : ∀ x ∈ l, 0 ≤ f x) : 0 ≤ sumL l f := by
  induction l with
  | nil => simp [sumL]
  | cons x t ih =>
    rw [sumL_cons]
    have := h x (by simp)
    have := ih (fun y hy => h y (by simp [hy]))
    omega
theorem sumL_le {l : List Acc} {f g : Acc → Int} (h : ∀ x ∈ l, f x ≤ g x) : sumL l f ≤ sumL l g := by
  induction l with
  | nil => simp [sumL]
  | cons x t ih =>
    rw [sumL_cons, sumL_cons]
    have := h x (by simp)
    have := ih (fun y hy => h y (by simp [hy]))
    omega
theorem sumL_mem {l : List Acc} {f : Acc → Int} (h : ∀ x ∈ l, 0 ≤ f x) {a : Acc} (ha : a ∈ l) : f a ≤ sumL l f := by
  induction l with
  | nil => simp at ha
  | cons x t ih =>
    rw [sumL_cons]
    have h1 := h x (by simp)
    rcases List.mem_cons.1 ha with rfl | hm
    · have := sumL_nonneg (l := t) (f := f) (fun y hy => h y (by simp [hy]))
      omega
    · have := ih (fun y hy => h y (by simp [hy])) hm
      omega
theorem sumL_cnt {l : List Acc} {f : Acc → Int} (h : ∀ x ∈ l, f x ≤ 1) : sumL l f ≤ l.length := by
  induction l with
  | nil => simp [sumL]
  | cons x t ih =>
    rw [sumL_cons]
    have := h x (by simp)
    have := ih (fun y hy => h y (by simp [hy]))
    simp
    omega
theorem sumL_congr {l : List Acc} {f g : Acc → Int} (h : ∀ x ∈ l, f x = g x) : sumL l f = sumL l g := by
  unfold sumL
  rw [List.map_congr_left h]
theorem updL_same {l : List Acc} {f : Acc → Acc} {n : Int} (g : Acc → Int) (h : ∀ a, g (f a) = g a) : sumL (updL l n f) g = sumL l g := by
  unfold sumL updL
  rw [List.map_map]
  congr 1
  refine List.map_congr_left fun x _ => ?_
  dsimp only [Function.comp]
  split
  · exact h x
  · rfl
/-- A sum once one account has turned. -/
theorem updL_sum {l : List Acc} {f : Acc → Acc} {a : Acc} (g : Acc → Int) (ho : l.Pairwise (fun x y => x.n < y.n)) (ha : a ∈ l) : sumL (updL l a.n f) g = sumL l g + g (f a) - g a := by
  induction l with
  | nil => simp at ha
  | cons x t ih =>
    obtain ⟨h1, h2⟩ := List.pairwise_cons.1 ho
    unfold updL
    rw [List.map_cons, sumL_cons, sumL_cons]
    rcases List.mem_cons.1 ha with rfl | hm
    · have : (t.map fun b => if b.n = a.n then f b else b) = t := by
        conv => rhs; rw [← List.map_id t]
        refine List.map_congr_left fun y hy => ?_
        have := h1 y hy
        rw [if_neg (by omega)]
        rfl
      rw [this, if_pos rfl]
      omega
    · have h3 := h1 a hm
      have := ih h2 hm
      unfold updL at this
      rw [this, if_neg (by omega)]
      omega
theorem dropL_sum {l : List Acc} {a : Acc} (g : Acc → Int) (ho : l.Pairwise (fun x y => x.n < y.n)) (ha : a ∈ l) : sumL (l.filter fun b => !(b.n == a.n)) g = sumL l g - g a := by
  induction l with
  | nil => simp at ha
  | cons x t ih =>
    obtain ⟨h1, h2⟩ := List.pairwise_cons.1 ho
    rw [sumL_cons]
    rcases List.mem_cons.1 ha with rfl | hm
    · have : (t.filter fun b => !(b.n == a.n)) = t := by
        rw [List.filter_eq_self]
        intro y hy
        have := h1 y hy
        simp
        omega
      simp [this]
      omega
    · have h3 := h1 a hm
      have hne : (!(x.n == a.n)) = true := by simp; omega
      rw [List.filter_cons_of_pos (by simpa using hne), sumL_cons, ih h2 hm]
      omega
theorem find_mem {s : Ls} {n : Int} {a : Acc} (h : s.find n = some a) : a ∈ s.l ∧ a.n = n := by
  unfold Ls.find at h
  exact ⟨List.mem_of_find?_eq_some h, by simpa using List.find?_some h⟩
theorem find_none {s : Ls} {n : Int} (h : s.find n = none) : ∀ x ∈ s.l, x.n ≠ n := by
  unfold Ls.find at h
  intro x hx
  have := List.find?_eq_none.1 h x hx
  simpa using this
theorem ord_inj {l : List Acc} (ho : l.Pairwise (fun x y => x.n < y.n)) {a b : Acc} (ha : a ∈ l) (hb : b ∈ l) (h : a.n = b.n) : a = b := by
  induction l with
  | nil => simp at ha
  | cons x t ih =>
    obtain ⟨h1, h2⟩ := List.pairwise_cons.1 ho
    rcases List.mem_cons.1 ha with e | ha <;> rcases List.mem_cons.1 hb with e' | hb
    · rw [e, e']
    · have := h1 _ hb; rw [e] at h; omega
    · have := h1 _ ha; rw [e'] at h; omega
    · exact ih h2 ha hb
theorem find_of_mem {s : Ls} (ho : s.l.Pairwise (fun x y => x.n < y.n)) {a : Acc} (ha : a ∈ s.l) : s.find a.n = some a := by
  cases h : s.find a.n with
  | none => exact absurd rfl (find_none h a ha)
  | some b =>
    obtain ⟨h1, h2⟩ := find_mem h
    rw [ord_inj ho h1 ha h2]
theorem updL_mem {l : List Acc} {f : Acc → Acc} {n : Int} {x : Acc} (h : x ∈ updL l n f) : (x ∈ l ∧ x.n ≠ n) ∨ ∃ y ∈ l, y.n = n ∧ x = f y := by
  unfold updL at h
  obtain ⟨y, hy, rfl⟩ := List.mem_map.1 h
  split
  · next e => exact .inr ⟨y, hy, e, rfl⟩
  · next e => exact .inl ⟨hy, e⟩
theorem updL_ns {l : List Acc} {f : Acc → Acc} {n : Int} (hf : ∀ a, (f a).n = a.n) : (updL l n f).map (·.n) = l.map (·.n) := by
  unfold updL
  rw [List.map_map]
  refine List.map_congr_left fun x _ => ?_
  dsimp only [Function.comp]
  split
  · exact hf x
  · rfl
theorem updL_ord {l : List Acc} {f : Acc → Acc} {n : Int} (hf : ∀ a, (f a).n = a.n) (ho : l.Pairwise (fun x y => x.n < y.n)) : (updL l n f).Pairwise (fun x y => x.n < y.n) := by
  have h1 : (l.map (·.n)).Pairwise (· < ·) := List.pairwise_map.2 ho
  rw [← updL_ns (n := n) hf] at h1
  exact List.pairwise_map.1 h1
theorem updL_len (l : List Acc) (n : Int) (f : Acc → Acc) : (updL l n f).length = l.length := by simp [updL]
theorem LOk.gr0 {G : Int} {s : Ls} (h : LOk G s) {x : Acc} (hx : x ∈ s.l) : 0 ≤ x.granted ∧ 0 ≤ x.below ∧ x.below ≤ 256 := by
  obtain ⟨e1, e2⟩ := h.kid x hx
  have a1 : 0 ≤ kidSum s.l x.n := sumL_nonneg fun y hy => by
    have := (h.acc y hy).2.1
    split <;> omega
  have a2 : 0 ≤ kidCnt s.l x.n := sumL_nonneg fun y hy => by split <;> omega
  have a3 : kidCnt s.l x.n ≤ s.l.length := sumL_cnt fun y hy => by split <;> omega
  have := h.len
  omega
theorem LOk.total_le {G : Int} {s : Ls} (h : LOk G s) : 0 ≤ s.total ∧ s.total ≤ G := by
  refine ⟨sumL_nonneg fun x hx => (h.acc x hx).1, ?_⟩
  have h1 : s.total + sumL s.l (·.granted) ≤ sumL s.l (·.grant) := by
    have : sumL s.l (fun x => x.held + x.granted) ≤ sumL s.l (·.grant) := sumL_le fun x hx => (h.acc x hx).2.2.2.1
    have e : sumL s.l (fun x => x.held + x.granted) = s.total + sumL s.l (·.granted) := by
      unfold Ls.total
      generalize s.l = l
      induction l with
      | nil => rfl
      | cons x t ih => rw [sumL_cons, sumL_cons, sumL_cons, ih]; omega
    omega
  have := h.tot
  omega
theorem LOk.new {G : Int} (h0 : 0 ≤ G) (h1 : G ≤ 16384) : LOk G (Ls.new G) where
  ord := by simp [Ls.new]
  num := by simp [Ls.new]
  made := by simp [Ls.new]
  grantG := ⟨h0, h1⟩
  acc := by simp [Ls.new]; omega
  kid := by simp [Ls.new, kidSum, kidCnt, sumL]
  abv := by simp [Ls.new]
  root := by simp [Ls.new]
  zero := by simp [Ls.new]
  tot := by simp [Ls.new, sumL]
  most := by simp [Ls.new, Ls.total, sumL]; omega
  len := by simp [Ls.new]
theorem LOk.open_ {G : Int} {s : Ls} (h : LOk G s) (u g : Int) : LOk G (s.open_ u g) := by
  unfold Ls.open_
  split
  · next he =>
    unfold Ls.openE at he
    have hg : 0 ≤ g := by
      rcases Decidable.em (g < 0) with h | h
      · rw [if_pos h] at he; cases he
      · omega
    rw [if_neg (by omega)] at he
    cases hf : s.find u with
    | none => rw [hf] at he; cases he
    | some a =>
      rw [hf] at he
      dsimp only at he
      obtain ⟨ha, rfl⟩ := find_mem hf
      have hl : s.l.length < 256 := by
        rcases Nat.lt_or_ge s.l.length 256 with h | h
        · exact h
        · rw [if_pos h] at he; cases he
      rw [if_neg (by omega)] at he
      have hleft : g ≤ a.left := by
        rcases Decidable.em (a.left < g) with h | h
        · rw [if_pos h] at he; cases he
        · omega
      unfold Acc.left at hleft
      clear he hf
      have hacc := h.acc a ha
      have hgr := h.gr0 ha
      have hks : ∀ m, kidSum (updL s.l a.n (addKid g)) m = kidSum s.l m := fun m => updL_same _ (fun _ => rfl)
      have hkc : ∀ m, kidCnt (updL s.l a.n (addKid g)) m = kidCnt s.l m := fun m => updL_same _ (fun _ => rfl)
      refine ⟨?_, ?_, by have := h.made; dsimp only; omega, h.grantG, ?_, ?_, ?_, ?_, ?_, ?_, ?_, ?_⟩
      · refine List.pairwise_append.2 ⟨updL_ord (fun _ => rfl) h.ord, by simp, ?_⟩
        intro x hx y hy
        obtain rfl := List.mem_singleton.1 hy
        have : x.n ∈ s.l.map (·.n) := by rw [← updL_ns (n := a.n) (f := addKid g) (fun _ => rfl)]; exact List.mem_map.2 ⟨x, hx, rfl⟩
        obtain ⟨z, hz, e⟩ := List.mem_map.1 this
        have := (h.num z hz).2
        dsimp only at *
        omega
      · intro x hx
        have hm := h.made
        rcases List.mem_append.1 hx with hx | hx
        · rcases updL_mem hx with ⟨hx, _⟩ | ⟨y, hy, _, rfl⟩
          · have := h.num x hx; dsimp only; omega
          · have := h.num y hy; unfold addKid; dsimp only; omega
        · obtain rfl := List.mem_singleton.1 hx
          dsimp only
          omega
      · intro x hx
        rcases List.mem_append.1 hx with hx | hx
        · rcases updL_mem hx with ⟨hx, _⟩ | ⟨y, hy, e, rfl⟩
          · exact h.acc x hx
          · obtain rfl := ord_inj h.ord hy ha e
            unfold addKid
            dsimp only
            omega
        · obtain rfl := List.mem_singleton.1 hx
          dsimp only
          omega
      · intro x hx
        unfold kidSum kidCnt
        rw [sumL_app, sumL_app]
        have e1 := hks x.n
        have e2 := hkc x.n
        unfold kidSum at e1
        unfold kidCnt at e2
        rw [e1, e2]
        simp only [sumL_cons, sumL_nil, Option.some.injEq]
        rcases List.mem_append.1 hx with hx | hx
        · rcases updL_mem hx with ⟨hx, hne⟩ | ⟨y, hy, e, rfl⟩
          · have := h.kid x hx
            unfold kidSum kidCnt at this
            rw [if_neg (fun e => hne e.symm), if_neg (fun e => hne e.symm)]
            omega
          · obtain rfl := ord_inj h.ord hy ha e
            have := h.kid y hy
            unfold kidSum kidCnt at this
            unfold addKid
            dsimp only
            rw [if_pos rfl, if_pos rfl]
            omega
        · obtain rfl := List.mem_singleton.1 hx
          dsimp only
          have hne : ¬ a.n = s.made + 1 := by have := (h.num a ha).2; omega
          have z1 : (sumL s.l fun x => if x.ab = some (s.made + 1) then x.grant else 0) = sumL s.l (fun _ => 0) := sumL_congr fun y hy => by
            rw [if_neg]
            intro e
            obtain ⟨z, hz, e2⟩ := List.mem_map.1 (h.abv y hy _ e)
            have := (h.num z hz).2
            omega
          have z2 : (sumL s.l fun x => if x.ab = some (s.made + 1) then 1 else 0) = sumL s.l (fun _ => 0) := sumL_congr fun y hy => by
            rw [if_neg]
            intro e
            obtain ⟨z, hz, e2⟩ := List.mem_map.1 (h.abv y hy _ e)
            have := (h.num z hz).2
            omega
          have z3 : sumL s.l (fun _ => 0) = 0 := by
            generalize s.l = l
            induction l with
            | nil => rfl
            | cons x t ih => rw [sumL_cons, ih]; rfl
          rw [z1, z2, z3, if_neg hne, if_neg hne]
          omega
      · intro x hx n hn
        dsimp only
        rw [List.map_append, updL_ns (f := addKid g) (fun _ => rfl)]
        rcases List.mem_append.1 hx with hx | hx
        · rcases updL_mem hx with ⟨hx, _⟩ | ⟨y, hy, e, rfl⟩
          · exact List.mem_append_left _ (h.abv x hx n hn)
          · exact List.mem_append_left _ (h.abv y hy n hn)
        · obtain rfl := List.mem_singleton.1 hx
          obtain rfl : a.n = n := by simpa using hn
          exact List.mem_append_left _ (List.mem_map.2 ⟨a, ha, rfl⟩)
      · intro x hx
        rcases List.mem_append.1 hx with hx | hx
        · rcases updL_mem hx with ⟨hx, _⟩ | ⟨y, hy, e, rfl⟩
          · exact h.root x hx
          · exact h.root y hy
        · obtain rfl := List.mem_singleton.1 hx
          have := h.made
          simp
          omega
      · obtain ⟨x, hx, hx0⟩ := h.zero
        have : x.n ∈ (updL s.l a.n (addKid g)).map (·.n) := by rw [updL_ns (f := addKid g) (fun _ => rfl)]; exact List.mem_map.2 ⟨x, hx, rfl⟩
        obtain ⟨z, hz, e⟩ := List.mem_map.1 this
        exact ⟨z, List.mem_append_left _ hz, by rw [e]; exact hx0⟩
      · dsimp only
        rw [sumL_app, sumL_app, updL_same (f := addKid g) (·.grant) (fun _ => rfl), updL_sum (f := addKid g) (·.granted) h.ord ha]
        simp only [sumL_cons, sumL_nil, addKid]
        have := h.tot
        omega
      · unfold Ls.total
        dsimp only
        rw [sumL_app, updL_same (f := addKid g) (·.held) (fun _ => rfl)]
        simp only [sumL_cons, sumL_nil]
        have := h.most
        unfold Ls.total at this
        omega
      · dsimp only
        rw [List.length_append, updL_len]
        simp
        omega
  · exact h
theorem LOk.keep {G : Int} {s s' : Ls} (h : LOk G s) {a : Acc} {f : Acc → Acc} (ha : a ∈ s.l) (hl : s'.l = updL s.l a.n f) (hm : s'.made = s.made)
    (h1 : ∀ x, (f x).n = x.n) (h2 : ∀ x, (f x).ab = x.ab) (h3 : ∀ x, (f x).grant = x.grant) (h4 : ∀ x, (f x).granted = x.granted) (h5 : ∀ x, (f x).below = x.below)
    (hacc : 0 ≤ (f a).held ∧ (f a).held + a.granted ≤ a.grant ∧ (f a).held ≤ (f a).peak ∧ (f a).peak ≤ a.grant) (hmost : s'.total ≤ s'.most ∧ s'.most ≤ G) : LOk G s' := by
  have hns : s'.l.map (·.n) = s.l.map (·.n) := by rw [hl, updL_ns h1]
  have back : ∀ x ∈ s'.l, ∃ y ∈ s.l, x.n = y.n ∧ x.ab = y.ab ∧ x.grant = y.grant ∧ x.granted = y.granted ∧ x.below = y.below ∧ (x = y ∨ y = a ∧ x = f a) := by
    intro x hx
    rw [hl] at hx
    rcases updL_mem hx with ⟨hx, _⟩ | ⟨y, hy, e, rfl⟩
    · exact ⟨x, hx, rfl, rfl, rfl, rfl, rfl, .inl rfl⟩
    · obtain rfl := ord_inj h.ord hy ha e
      exact ⟨y, hy, h1 y, h2 y, h3 y, h4 y, h5 y, .inr ⟨rfl, rfl⟩⟩
  have hks : ∀ m, kidSum s'.l m = kidSum s.l m := fun m => by rw [hl]; exact updL_same _ (fun x => by rw [h2, h3])
  have hkc : ∀ m, kidCnt s'.l m = kidCnt s.l m := fun m => by rw [hl]; exact updL_same _ (fun x => by rw [h2])
  refine ⟨by rw [hl]; exact updL_ord h1 h.ord, ?_, by rw [hm]; exact h.made, h.grantG, ?_, ?_, ?_, ?_, ?_, ?_, hmost, by rw [hl, updL_len]; exact h.len⟩
  · intro x hx
    obtain ⟨y, hy, e1, _⟩ := back x hx
    rw [e1, hm]
    exact h.num y hy
  · intro x hx
    obtain ⟨y, hy, e1, e2, e3, e4, e5, e | ⟨rfl, e⟩⟩ := back x hx
    · rw [e]; exact h.acc y hy
    · have := h.acc y hy
      rw [e3, e4]
      rw [e]
      omega
  · intro x hx
    obtain ⟨y, hy, e1, e2, e3, e4, e5, _⟩ := back x hx
    rw [hks, hkc, e1, e4, e5]
    exact h.kid y hy
  · intro x hx n hn
    obtain ⟨y, hy, e1, e2, _⟩ := back x hx
    rw [hns]
    exact h.abv y hy n (by rw [← e2]; exact hn)
  · intro x hx
    obtain ⟨y, hy, e1, e2, _⟩ := back x hx
    rw [e1, e2]
    exact h.root y hy
  · obtain ⟨x, hx, hx0⟩ := h.zero
    have : x.n ∈ s'.l.map (·.n) := by rw [hns]; exact List.mem_map.2 ⟨x, hx, rfl⟩
    obtain ⟨z, hz, e⟩ := List.mem_map.1 this
    exact ⟨z, hz, by rw [e]; exact hx0⟩
  · rw [hl, updL_same _ h3, updL_same _ h4]
    exact h.tot
theorem LOk.take_ {G : Int} {s : Ls} (h : LOk G s) (n p : Int) : LOk G (s.take_ n p) := by
  unfold Ls.take_
  split
  · next he =>
    unfold Ls.takeE at he
    have hp : 0 ≤ p := by
      rcases Decidable.em (p < 0) with h | h
      · rw [if_pos h] at he; cases he
      · omega
    rw [if_neg (by omega)] at he
    cases hf : s.find n with
    | none => rw [hf] at he; cases he
    | some a =>
      rw [hf] at he
      dsimp only at he
      obtain ⟨ha, rfl⟩ := find_mem hf
      have hleft : p ≤ a.left := by
        rcases Decidable.em (a.left < p) with h | h
        · rw [if_pos h] at he; cases he
        · omega
      unfold Acc.left at hleft
      clear he hf
      have hacc := h.acc a ha
      have hgr := h.gr0 ha
      have key : sumL (updL s.l a.n (holdA p)) (·.held) = s.total + p := by
        rw [updL_sum (f := holdA p) (·.held) h.ord ha]
        unfold Ls.total holdA
        dsimp only
        omega
      have tle : s.total + p ≤ G := by
        have h1 : sumL (updL s.l a.n (holdA p)) (fun x => x.held + x.granted) ≤ sumL (updL s.l a.n (holdA p)) (·.grant) := sumL_le fun x hx => by
          rcases updL_mem hx with ⟨hx, _⟩ | ⟨y, hy, e, rfl⟩
          · exact (h.acc x hx).2.2.2.1
          · obtain rfl := ord_inj h.ord hy ha e
            unfold holdA
            dsimp only
            omega
        have e : ∀ l : List Acc, sumL l (fun x => x.held + x.granted) = sumL l (·.held) + sumL l (·.granted) := by
          intro l
          induction l with
          | nil => rfl
          | cons x t ih => rw [sumL_cons, sumL_cons, sumL_cons, ih]; omega
        rw [e, key, updL_same (f := holdA p) (·.granted) (fun _ => rfl), updL_same (f := holdA p) (·.grant) (fun _ => rfl)] at h1
        have := h.tot
        omega
      refine h.keep (f := holdA p) ha rfl rfl (fun _ => rfl) (fun _ => rfl) (fun _ => rfl) (fun _ => rfl) (fun _ => rfl) (by unfold holdA; dsimp only; omega) ?_
      unfold Ls.total
      dsimp only
      rw [key]
      have := h.most
      omega
  · exact h
theorem LOk.give_ {G : Int} {s : Ls} (h : LOk G s) (n p : Int) : LOk G (s.give_ n p) := by
  unfold Ls.give_
  split
  · next he =>
    unfold Ls.giveE at he
    cases hf : s.find n with
    | none => rw [hf] at he; cases he
    | some a =>
      rw [hf] at he
      dsimp only at he
      obtain ⟨ha, rfl⟩ := find_mem hf
      have hp : ¬ (p < 0 ∨ a.held < p) := by
        rcases Decidable.em (p < 0 ∨ a.held < p) with h | h
        · rw [if_pos h] at he; cases he
        · exact h
      clear he hf
      have hacc := h.acc a ha
      have hgr := h.gr0 ha
      refine h.keep (f := giveA p) ha rfl rfl (fun _ => rfl) (fun _ => rfl) (fun _ => rfl) (fun _ => rfl) (fun _ => rfl) (by unfold giveA; dsimp only; omega) ?_
      unfold Ls.total
      dsimp only
      rw [updL_sum (f := giveA p) (·.held) h.ord ha]
      have := h.most
      unfold Ls.total at this
      unfold giveA
      dsimp only
      omega
  · exact h
theorem kid_none {l : List Acc} {n : Int} (h : kidCnt l n ≤ 0) : ∀ x ∈ l, x.ab ≠ some n := by
  intro x hx e
  have := sumL_mem (l := l) (f := fun x => if x.ab = some n then 1 else 0) (fun y _ => by split <;> omega) hx
  rw [if_pos e] at this
  unfold kidCnt at h
  omega
theorem LOk.close_ {G : Int} {s : Ls} (h : LOk G s) (n : Int) : LOk G (s.close_ n) := by
  unfold Ls.close_
  split
  · next he =>
    unfold Ls.closeE at he
    cases hf : s.find n with
    | none => exact h
    | some a =>
      rw [hf] at he
      dsimp only at he ⊢
      obtain ⟨ha, rfl⟩ := find_mem hf
      have hp : ¬ (a.ab = none ∨ 0 < a.held ∨ 0 < a.below) := by
        rcases Decidable.em (a.ab = none ∨ 0 < a.held ∨ 0 < a.below) with h | h
        · rw [if_pos h] at he; cases he
        · exact h
      clear he hf
      have hacc := h.acc a ha
      have hgr := h.gr0 ha
      have hkid := h.kid a ha
      cases hb : a.ab with
      | none => exact absurd (.inl hb) hp
      | some m =>
        dsimp only [Option.getD_some]
        have hb0 : a.below = 0 := by omega
        have hh0 : a.held = 0 := by omega
        have nok := kid_none (l := s.l) (n := a.n) (by omega)
        have hgr0 : a.granted = 0 := by
          rw [hkid.1]
          have : kidSum s.l a.n = sumL s.l (fun _ => 0) := sumL_congr fun y hy => by rw [if_neg (nok y hy)]
          rw [this]
          generalize s.l = l
          induction l with
          | nil => rfl
          | cons x t ih => rw [sumL_cons, ih]; rfl
        have hmn : m ≠ a.n := fun e => nok a ha (by rw [hb, e])
        have ha0 : a.n ≠ 0 := fun e => by
          have := (h.root a ha).2 e
          rw [hb] at this
          cases this
        obtain ⟨y, hy, rfl⟩ := List.mem_map.1 (h.abv a ha m hb)
        have ho1 := updL_ord (n := y.n) (f := remKid a.grant) (fun _ => rfl) h.ord
        have ha1 : a ∈ updL s.l y.n (remKid a.grant) := by
          unfold updL
          exact List.mem_map.2 ⟨a, ha, by rw [if_neg (fun e => hmn e.symm)]⟩
        have hsum : ∀ g : Acc → Int, (∀ x, g (remKid a.grant x) = g x) → sumL ((updL s.l y.n (remKid a.grant)).filter fun b => !(b.n == a.n)) g = sumL s.l g - g a := by
          intro g hg
          rw [dropL_sum g ho1 ha1, updL_same g hg]
        have back : ∀ x ∈ (updL s.l y.n (remKid a.grant)).filter (fun b => !(b.n == a.n)), x.n ≠ a.n ∧ ∃ z ∈ s.l, x.n = z.n ∧ x.ab = z.ab ∧ x.grant = z.grant ∧ x.held = z.held ∧ x.peak = z.peak ∧ (x = z ∧ z.n ≠ y.n ∨ z = y ∧ x = remKid a.grant y) := by
          intro x hx
          obtain ⟨h1, h2⟩ := List.mem_filter.1 hx
          refine ⟨by simpa using h2, ?_⟩
          rcases updL_mem h1 with ⟨hx, hne⟩ | ⟨z, hz, e, rfl⟩
          · exact ⟨x, hx, rfl, rfl, rfl, rfl, rfl, .inl ⟨rfl, hne⟩⟩
          · obtain rfl := ord_inj h.ord hz hy e
            exact ⟨z, hz, rfl, rfl, rfl, rfl, rfl, .inr ⟨rfl, rfl⟩⟩
        have forth : ∀ z ∈ s.l, z.n ≠ a.n → z.n ∈ ((updL s.l y.n (remKid a.grant)).filter (fun b => !(b.n == a.n))).map (·.n) := by
          intro z hz hne
          have : z.n ∈ (updL s.l y.n (remKid a.grant)).map (·.n) := by rw [updL_ns (f := remKid a.grant) (fun _ => rfl)]; exact List.mem_map.2 ⟨z, hz, rfl⟩
          obtain ⟨x, hx, e⟩ := List.mem_map.1 this
          exact List.mem_map.2 ⟨x, List.mem_filter.2 ⟨hx, by simpa [e] using hne⟩, e⟩
        refine ⟨ho1.filter _, ?_, h.made, h.grantG, ?_, ?_, ?_, ?_, ?_, ?_, ?_, ?_⟩
        · intro x hx
          obtain ⟨_, z, hz, e1, _⟩ := back x hx
          rw [e1]
          exact h.num z hz
        · intro x hx
          obtain ⟨_, z, hz, e1, e2, e3, e4, e5, ⟨rfl, _⟩ | ⟨rfl, e⟩⟩ := back x hx
          · exact h.acc x hz
          · have := h.acc z hz
            have : x.granted = z.granted - a.grant := by rw [e]; rfl
            omega
        · intro x hx
          obtain ⟨hxa, z, hz, e1, e2, e3, e4, e5, hh⟩ := back x hx
          have k1 : kidSum ((updL s.l y.n (remKid a.grant)).filter fun b => !(b.n == a.n)) x.n = kidSum s.l x.n - (if a.ab = some x.n then a.grant else 0) := hsum (fun q => if q.ab = some x.n then q.grant else 0) (fun _ => rfl)
          have k2 : kidCnt ((updL s.l y.n (remKid a.grant)).filter fun b => !(b.n == a.n)) x.n = kidCnt s.l x.n - (if a.ab = some x.n then 1 else 0) := hsum (fun q => if q.ab = some x.n then 1 else 0) (fun _ => rfl)
          dsimp only
          rw [k1, k2, hb]
          simp only [Option.some.injEq]
          have hk := h.kid z hz
          rcases hh with ⟨rfl, hne⟩ | ⟨rfl, e⟩
          · rw [if_neg (fun e => hne e.symm), if_neg (fun e => hne e.symm)]
            omega
          · rw [if_pos e1.symm, if_pos e1.symm, e1]
            have g1 : x.granted = z.granted - a.grant := by rw [e]; rfl
            have g2 : x.below = z.below - 1 := by rw [e]; rfl
            omega
        · intro x hx k hk
          obtain ⟨hxa, z, hz, e1, e2, _⟩ := back x hx
          rw [e2] at hk
          obtain ⟨u, hu, rfl⟩ := List.mem_map.1 (h.abv z hz k hk)
          exact forth u hu (fun e => nok z hz (by rw [hk, e]))
        · intro x hx
          obtain ⟨_, z, hz, e1, e2, _⟩ := back x hx
          rw [e1, e2]
          exact h.root z hz
        · obtain ⟨x, hx, hx0⟩ := h.zero
          obtain ⟨z, hz, e⟩ := List.mem_map.1 (forth x hx (by rw [hx0]; exact fun e => ha0 e.symm))
          exact ⟨z, hz, by rw [e]; exact hx0⟩
        · dsimp only
          rw [hsum (·.grant) (fun _ => rfl), dropL_sum _ ho1 ha1, updL_sum (f := remKid a.grant) (·.granted) h.ord hy]
          have := h.tot
          unfold remKid
          dsimp only
          omega
        · unfold Ls.total
          dsimp only
          rw [hsum (·.held) (fun _ => rfl)]
          have := h.most
          unfold Ls.total at this
          omega
        · dsimp only
          refine Nat.le_trans (List.length_filter_le _ _) ?_
          rw [updL_len]
          exact h.len
  · exact h
theorem give_keep {s : Ls} {n p : Int} (h : s.giveE n p ≠ 0) : s.give_ n p = s := if_neg h
theorem give_do {s : Ls} {n p : Int} (h : s.giveE n p = 0) : s.give_ n p = ⟨s.made, s.most, updL s.l n (giveA p)⟩ := if_pos h
theorem take_keep {s : Ls} {n p : Int} (h : s.takeE n p ≠ 0) : s.take_ n p = s := if_neg h
theorem take_do {s : Ls} {n p : Int} (h : s.takeE n p = 0) : s.take_ n p = ⟨s.made, max s.most (sumL (updL s.l n (holdA p)) (·.held)), updL s.l n (holdA p)⟩ := if_pos h
theorem open_keep {s : Ls} {n p : Int} (h : s.openE n p ≠ 0) : s.open_ n p = s := if_neg h
theorem open_do {s : Ls} {n p : Int} (h : s.openE n p = 0) : s.open_ n p = ⟨s.made + 1, s.most, updL s.l n (addKid p) ++ [⟨s.made + 1, some n, p, 0, 0, 0, 0⟩]⟩ := if_pos h
theorem close_keep {s : Ls} {n : Int} (h : s.closeE n ≠ 0) : s.close_ n = s := if_neg h
theorem close_do {s : Ls} {n : Int} {a : Acc} (h : s.closeE n = 0) (hf : s.find n = some a) : s.close_ n = ⟨s.made, s.most, (updL s.l (a.ab.getD 0) (remKid a.grant)).filter fun b => !(b.n == n)⟩ := by
  unfold Ls.close_
  rw [if_pos h, hf]
end Go.Proofs.YtkbapoeilcapfaaGreat

/- the ledger: Accounts. -/
namespace Go.Proofs.YtkbapoeilcapfaaGreat
open Go.RowKit Go.Maps Go.Sort Go.Shelf
set_option linter.unusedVariables false
set_option linter.unusedSimpArgs false

theorem sortsA (m : Nat) : AnyZI.SortsIn Tryz.prog Tryz.sortedA_ren Fence.wide m :=
  ⟨fun blk off cap ss W hH hblk hsz => callsIn_wide.2 (AnyM.slices_Sort_int Tryz.sortA blk off cap ss W hH hblk hsz),
   fun p cap W => callsIn_wide.2 (AnyM.slices_Sort_int_none Tryz.sortA p cap W)⟩
theorem intKeys_dOf (L : List (Int × Nat)) : intKeys (dOf L) = L.map (·.1) := by
  unfold dOf intKeys
  dsimp only
  rw [List.map_map]
  rfl
end Go.Proofs.YtkbapoeilcapfaaGreat

/- the ledger's memory holds the plain data. -/
namespace Go.Proofs.YtkbapoeilcapfaaGreat
open Go.RowKit Go.Maps
set_option linter.unusedVariables false
set_option linter.unusedSimpArgs false

def Acc.ac (B : Int → Nat) (a : Acc) : Ac := ⟨a.ab.map B, a.grant, a.held, a.peak, a.granted, a.below⟩
structure Lst (w : World) (bl bm : Nat) (B : Int → Nat) (s : Ls) : Prop where
  led : w.heap[bl]? = some (.cells #[.map (some bm), .int .i64 s.made, .int .i64 s.most] 134 (0, 0))
  map : OwnA w bm s.l.length (s.l.map fun a => (a.n, B a.n))
  acc : ∀ a ∈ s.l, w.heap[B a.n]? = some (acObj (a.ac B))
  inj : ∀ a ∈ s.l, ∀ b ∈ s.l, B a.n = B b.n → a.n = b.n
def LS (bl bm : Nat) (B : Int → Nat) (s : Ls) (k : Nat) : Prop := k = bl ∨ k = bm ∨ ∃ a ∈ s.l, k = B a.n
theorem Lst.turn {S : Nat → Prop} {w w' : World} {bl bm : Nat} {B : Int → Nat} {s : Ls} (H : Lst w bl bm B s) (ht : Turn S w w') (hs : ∀ k, LS bl bm B s k → ¬ S k) : Lst w' bl bm B s :=
  ⟨ht.heap H.led (hs _ (.inl rfl)), H.map.turn ht (hs _ (.inr (.inl rfl))), fun a ha => ht.heap (H.acc a ha) (hs _ (.inr (.inr ⟨a, ha, rfl⟩))), H.inj⟩
theorem Lst.below {w w' : World} {bl bm : Nat} {B : Int → Nat} {s : Ls} (H : Lst w bl bm B s) (hb : Below w.heap.size w w') : Lst w' bl bm B s := H.turn (Turn.of_below hb (fun _ => False)) (fun _ _ => id)
theorem Lst.lt {w : World} {bl bm : Nat} {B : Int → Nat} {s : Ls} (H : Lst w bl bm B s) : ∀ k, LS bl bm B s k → k < w.heap.size := by
  rintro k (rfl | rfl | ⟨a, ha, rfl⟩)
  · exact lt_of_heap H.led
  · exact H.map.lt
  · exact lt_of_heap (H.acc a ha)
theorem Lst.ne {w : World} {bl bm : Nat} {B : Int → Nat} {s : Ls} (H : Lst w bl bm B s) : bl ≠ bm ∧ (∀ a ∈ s.l, B a.n ≠ bl) ∧ ∀ a ∈ s.l, B a.n ≠ bm := by
  obtain ⟨es, clock, hm⟩ := mapObj H.map
  refine ⟨fun e => ?_, fun x hx e => ?_, fun x hx e => ?_⟩
  · have := H.led
    rw [e, hm] at this
    cases this
  · have := H.acc x hx
    rw [e, H.led] at this
    injection this with this
    injection this with _ ht
    exact absurd ht (by decide)
  · have := H.acc x hx
    rw [e, hm] at this
    cases this
/-- What the texts on the map and the accounts ask. -/
theorem Lst.toLed {w : World} {bl bm : Nat} {B : Int → Nat} {s : Ls} (H : Lst w bl bm B s) (ho : s.l.Pairwise (fun x y => x.n < y.n)) :
    ∃ A, Led w bl bm s.made s.most (s.l.map fun a => (a.n, B a.n)) A := by
  refine ⟨fun k => match s.l.find? (fun a => B a.n == k) with | some a => a.ac B | none => Ac.none, H.led, by rw [List.length_map]; exact H.map, ?_, List.pairwise_map.2 ho, ?_⟩
  · intro x hx
    obtain ⟨a, ha, rfl⟩ := List.mem_map.1 hx
    dsimp only
    cases hf : s.l.find? (fun b => B b.n == B a.n) with
    | none => exact absurd (by simp) (List.find?_eq_none.1 hf a ha)
    | some b =>
      have hb := List.mem_of_find?_eq_some hf
      have : B b.n = B a.n := by simpa using List.find?_some hf
      obtain rfl := ord_inj ho hb ha (H.inj b hb a ha this)
      exact H.acc b hb
  · rw [List.map_map]
    have : (s.l.map fun a => B a.n).Nodup := by
      rw [List.Nodup, List.pairwise_map]
      refine List.Pairwise.imp_of_mem ?_ ho
      intro a b ha hb h e
      have := H.inj a ha b hb e
      omega
    exact this
theorem findA_map (B : Int → Nat) (n : Int) : ∀ l : List Acc, findA (l.map fun a => (a.n, B a.n)) n = (l.find? fun a => a.n == n).map fun a => B a.n := by
  intro l
  unfold findA
  rw [List.find?_map]
  rw [Option.map_map]
  rfl
theorem lfind_yes {w : World} {bl bm : Nat} {B : Int → Nat} {s : Ls} {n : Int} {a : Acc} (H : Lst w bl bm B s) (ho : s.l.Pairwise (fun x y => x.n < y.n)) (hw : (Lit.int .i64 n).wf = true) (hf : s.find n = some a) :
    Calls Tryz.prog 93 #[.pointer (some ⟨bl, 0, Option.none⟩), .int .i64 n] w fun e w' => e = .returned (.tuple #[.pointer (some ⟨B n, 0, Option.none⟩), .bool true]) ∧ w' = w := by
  obtain ⟨A, hA⟩ := H.toLed ho
  exact find_yes hA hw (by rw [findA_map]; unfold Ls.find at hf; rw [hf]; have := (find_mem (s := s) hf).2; simp [this])
theorem lfind_no {w : World} {bl bm : Nat} {B : Int → Nat} {s : Ls} {n : Int} (H : Lst w bl bm B s) (ho : s.l.Pairwise (fun x y => x.n < y.n)) (hw : (Lit.int .i64 n).wf = true) (hf : s.find n = none) :
    Calls Tryz.prog 93 #[.pointer (some ⟨bl, 0, Option.none⟩), .int .i64 n] w fun e w' => e = .returned (.tuple #[.pointer (some ⟨w.heap.size, 0, Option.none⟩), .bool false]) ∧ w'.heap[w.heap.size]? = some (acObj Ac.none) ∧ Below w.heap.size w w' := by
  obtain ⟨A, hA⟩ := H.toLed ho
  refine (find_no hA hw (by rw [findA_map]; unfold Ls.find at hf; rw [hf]; rfl)).mono ?_
  rintro e w' ⟨rfl, rfl⟩
  exact ⟨rfl, heap_alloc_new _ _, (Below.refl _ _).alloc (Nat.le_refl _) _⟩
theorem lready {w : World} {bl bm : Nat} {B : Int → Nat} {s : Ls} (H : Lst w bl bm B s) (ho : s.l.Pairwise (fun x y => x.n < y.n)) : Calls Tryz.prog 72 #[.pointer (some ⟨bl, 0, Option.none⟩)] w fun e w' => e = .returned (.bool true) ∧ w' = w := by
  obtain ⟨A, hA⟩ := H.toLed ho
  exact ready_yes hA
theorem aleft {w : World} {b : Nat} {B : Int → Nat} {a : Acc} {G : Int} {s : Ls} (K : LOk G s) (ha : a ∈ s.l) (h : w.heap[b]? = some (acObj (a.ac B))) :
    Calls Tryz.prog 94 #[.pointer (some ⟨b, 0, Option.none⟩)] w fun e w' => e = .returned (.int .i64 a.left) ∧ Below w.heap.size w w' := by
  have h1 := K.acc a ha
  have h2 := K.gr0 ha
  exact left_walk h (by dsimp only [Acc.ac]; omega) (by dsimp only [Acc.ac]; omega) (by dsimp only [Acc.ac]; omega) (by dsimp only [Acc.ac]; omega) (by dsimp only [Acc.ac]; omega) (by dsimp only [Acc.ac]; omega)
/-- An account has turned, the ledger's numbers perhaps: the others have not. -/
theorem Lst.upd {w w' : World} {bl bm : Nat} {B : Int → Nat} {s s' : Ls} {a : Acc} {f : Acc → Acc} (H : Lst w bl bm B s) (ho : s.l.Pairwise (fun x y => x.n < y.n)) (ha : a ∈ s.l) (hl : s'.l = updL s.l a.n f) (hn : ∀ x, (f x).n = x.n)
    (ht : Turn (fun k => k = bl ∨ k = B a.n) w w') (h1 : w'.heap[bl]? = some (.cells #[.map (some bm), .int .i64 s'.made, .int .i64 s'.most] 134 (0, 0))) (h2 : w'.heap[B a.n]? = some (acObj ((f a).ac B))) : Lst w' bl bm B s' := by
  obtain ⟨n1, n2, n3⟩ := H.ne
  have back : ∀ x ∈ s'.l, ∃ y ∈ s.l, x.n = y.n ∧ (x = y ∧ y.n ≠ a.n ∨ y = a ∧ x = f a) := by
    intro x hx
    rw [hl] at hx
    rcases updL_mem hx with ⟨hx, hne⟩ | ⟨y, hy, e, rfl⟩
    · exact ⟨x, hx, rfl, .inl ⟨rfl, hne⟩⟩
    · obtain rfl := ord_inj ho hy ha e
      exact ⟨y, hy, hn y, .inr ⟨rfl, rfl⟩⟩
  refine ⟨h1, ?_, ?_, ?_⟩
  · have : s'.l.map (fun a => (a.n, B a.n)) = s.l.map fun a => (a.n, B a.n) := by
      have e : ∀ l : List Acc, l.map (fun a => (a.n, B a.n)) = (l.map (·.n)).map fun n => (n, B n) := fun l => by rw [List.map_map]; rfl
      rw [e, e, hl, updL_ns hn]
    rw [this, hl, updL_len]
    exact H.map.turn ht (fun e => e.elim (fun e => n1 e.symm) (fun e => n3 a ha e.symm))
  · intro x hx
    obtain ⟨y, hy, e1, ⟨rfl, hne⟩ | ⟨rfl, e⟩⟩ := back x hx
    · exact ht.heap (H.acc x hy) (fun e => e.elim (fun e => n2 x hy e) (fun e => hne (H.inj x hy a ha e)))
    · rw [e1, e]
      exact h2
  · intro x hx z hz e
    obtain ⟨y, hy, e1, _⟩ := back x hx
    obtain ⟨u, hu, e2, _⟩ := back z hz
    rw [e1, e2] at e ⊢
    exact H.inj y hy u hu e
end Go.Proofs.YtkbapoeilcapfaaGreat

/- the ledger: Give, Grant, Held, Left, Peak, Most. -/
namespace Go.Proofs.YtkbapoeilcapfaaGreat
open Go.RowKit Go.Maps
set_option linter.unusedVariables false
set_option linter.unusedSimpArgs false

def LPost (w : World) (bl bm : Nat) (B : Int → Nat) (s s' : Ls) (w' : World) : Prop :=
  ∃ B', Lst w' bl bm B' s' ∧ Turn (LS bl bm B s) w w' ∧ ∀ k, LS bl bm B' s' k → LS bl bm B s k ∨ w.heap.size ≤ k
theorem LPost.same {w w' : World} {bl bm : Nat} {B : Int → Nat} {s : Ls} (H : Lst w bl bm B s) (hb : Below w.heap.size w w') : LPost w bl bm B s s w' :=
  ⟨B, H.below hb, Turn.of_below hb _, fun _ h => .inl h⟩
/-- One account has turned, in place. -/
theorem LPost.upd {w w' : World} {bl bm : Nat} {B : Int → Nat} {s s' : Ls} {a : Acc} {f : Acc → Acc} (H : Lst w bl bm B s) (ho : s.l.Pairwise (fun x y => x.n < y.n)) (ha : a ∈ s.l) (hl : s'.l = updL s.l a.n f) (hn : ∀ x, (f x).n = x.n)
    (ht : Turn (fun k => k = bl ∨ k = B a.n) w w') (h1 : w'.heap[bl]? = some (.cells #[.map (some bm), .int .i64 s'.made, .int .i64 s'.most] 134 (0, 0))) (h2 : w'.heap[B a.n]? = some (acObj ((f a).ac B))) : LPost w bl bm B s s' w' := by
  refine ⟨B, H.upd ho ha hl hn ht h1 h2, ht.mono ?_, ?_⟩
  · rintro k (rfl | rfl)
    · exact .inl rfl
    · exact .inr (.inr ⟨a, ha, rfl⟩)
  · rintro k (rfl | rfl | ⟨x, hx, rfl⟩)
    · exact .inl (.inl rfl)
    · exact .inl (.inr (.inl rfl))
    · rw [hl] at hx
      rcases updL_mem hx with ⟨hx, _⟩ | ⟨y, hy, e, rfl⟩
      · exact .inl (.inr (.inr ⟨x, hx, rfl⟩))
      · exact .inl (.inr (.inr ⟨y, hy, by rw [hn]⟩))
theorem give_walk {w : World} {bl bm : Nat} {B : Int → Nat} {s : Ls} {G n p : Int} (H : Lst w bl bm B s) (K : LOk G s) (wn : (Lit.int .i64 n).wf = true) (wp : (Lit.int .i64 p).wf = true) :
    Calls Tryz.prog 104 #[.pointer (some ⟨bl, 0, Option.none⟩), .int .i64 n, .int .i64 p] w fun e w' => e = .returned (.int .i64 (s.giveE n p)) ∧ LPost w bl bm B s (s.give_ n p) w' := by
  have HR := Lib.hid (fun W (b : Below w.heap.size w W) => lready (H.below b) K.ord)
  have HH := Lib.hid (And.intro H K)
  cases hf : s.find n with
  | none =>
    have e0 : s.giveE n p = 4 := by unfold Ls.giveE; rw [hf]
    rw [give_keep (by rw [e0]; decide), e0]
    clear e0
    have HF := Lib.hid (lfind_no H K.ord wn hf)
    clear hf H K
    go_enter Tryz.func104, Tryz.ntmps104
    go_wp2_with (first
      | (go_at_call 93; refine HF.out.mono ?_; rintro e w1 ⟨rfl, _, b1⟩)
      | (go_at_call 72; refine (HR.out w1 b1).mono ?_; rintro e w2 ⟨rfl, hw2⟩; obtain rfl := hw2.symm; clear hw2))
    go_ret
    exact ⟨by trivial, LPost.same HH.out.1 b1⟩
  | some a =>
    have HF := Lib.hid (lfind_yes H K.ord wn hf)
    obtain ⟨ha, rfl⟩ := find_mem hf
    have HE := Lib.hid hf
    have hac := K.acc a ha
    have hgr := K.gr0 ha
    obtain ⟨c0, c1, c2, c3, c4, c5, hb⟩ := ac_cells (H.acc a ha)
    have hfr := free_of_blk (H.acc a ha) 2
    dsimp only [Acc.ac] at c0 c1 c2 c3 c4 c5
    have HA := Lib.hid (H.acc a ha)
    have HB := Lib.hid ha
    clear hf H K ha
    by_cases h1 : p < 0
    · have e0 : s.giveE a.n p = 1 := by unfold Ls.giveE; rw [HE.out]; exact if_pos (.inl h1)
      rw [give_keep (by rw [e0]; decide), e0]
      clear e0
      go_enter Tryz.func104, Tryz.ntmps104
      go_wp2_with (first
        | (go_at_call 93; refine HF.out.mono ?_; rintro e w1 ⟨rfl, hw⟩; obtain rfl := hw.symm; clear hw)
        | (go_at_call 72; refine (HR.out _ (Below.refl _ _)).mono ?_; rintro e w2 ⟨rfl, hw2⟩; obtain rfl := hw2.symm; clear hw2))
      go_ret
      exact ⟨by trivial, LPost.same HH.out.1 (Below.refl _ _)⟩
    · have h1d : decide (p < 0) = false := by simpa using h1
      by_cases h2 : a.held < p
      · have e0 : s.giveE a.n p = 1 := by unfold Ls.giveE; rw [HE.out]; exact if_pos (.inr h2)
        rw [give_keep (by rw [e0]; decide), e0]
        clear e0
        go_enter Tryz.func104, Tryz.ntmps104
        go_wp2_with (first
          | (go_at_call 93; refine HF.out.mono ?_; rintro e w1 ⟨rfl, hw⟩; obtain rfl := hw.symm; clear hw)
          | (go_at_call 72; refine (HR.out _ (Below.refl _ _)).mono ?_; rintro e w2 ⟨rfl, hw2⟩; obtain rfl := hw2.symm; clear hw2))
        go_ret
        exact ⟨by trivial, LPost.same HH.out.1 (Below.refl _ _)⟩
      · have e0 : s.giveE a.n p = 0 := by unfold Ls.giveE; rw [HE.out]; exact if_neg (by omega)
        rw [give_do e0, e0]
        clear e0
        go_enter Tryz.func104, Tryz.ntmps104
        go_wp2_with (first
          | (go_at_call 93; refine HF.out.mono ?_; rintro e w1 ⟨rfl, hw⟩; obtain rfl := hw.symm; clear hw)
          | (go_at_call 72; refine (HR.out _ (Below.refl _ _)).mono ?_; rintro e w2 ⟨rfl, hw2⟩; obtain rfl := hw2.symm; clear hw2))
        go_ret
        obtain ⟨H, K⟩ := HH.out
        have hne := H.ne.2.1 a HB.out
        refine ⟨by trivial, LPost.upd (f := giveA p) H K.ord HB.out rfl (fun _ => rfl) ((Turn.refl _ _).setCell (.inl (.inr rfl)) _) (blk_far H.led (fun e => hne e.symm) _) (blk_set HA.out 2 _)⟩
theorem aleftN {w : World} {bl bm : Nat} {B : Int → Nat} {s : Ls} {G n : Int} (H : Lst w bl bm B s) (K : LOk G s) (wn : (Lit.int .i64 n).wf = true) :
    Calls Tryz.prog 61 #[.pointer (some ⟨bl, 0, Option.none⟩), .int .i64 n] w fun e w' => e = .returned (.int .i64 ((s.find n).elim 0 (·.left))) ∧ Below w.heap.size w w' := by
  cases hf : s.find n with
  | none =>
    have HF := Lib.hid (lfind_no H K.ord wn hf)
    clear hf H K
    go_enter Tryz.func61, Tryz.ntmps61
    go_wp2_with (first
      | (go_at_call 93; refine HF.out.mono ?_; rintro e w1 ⟨rfl, hg, b1⟩; have HL := Lib.hid (left_walk hg (by decide) (by decide) (by decide) (by decide) (by decide) (by decide)); clear hg)
      | (go_at_call 94; refine HL.out.mono ?_; rintro e w2 ⟨rfl, b2⟩))
    go_ret
    exact ⟨by trivial, b1.trans (b2.mono b1.size)⟩
  | some a =>
    have HF := Lib.hid (lfind_yes H K.ord wn hf)
    obtain ⟨ha, rfl⟩ := find_mem hf
    have HL := Lib.hid (aleft K ha (H.acc a ha))
    clear hf H K ha
    go_enter Tryz.func61, Tryz.ntmps61
    go_wp2_with (first
      | (go_at_call 93; refine HF.out.mono ?_; rintro e w1 ⟨rfl, hw⟩; obtain rfl := hw.symm; clear hw)
      | (go_at_call 94; refine HL.out.mono ?_; rintro e w2 ⟨rfl, b2⟩))
    go_ret
    exact ⟨by trivial, b2⟩
theorem lmost {w : World} {bl bm : Nat} {B : Int → Nat} {s : Ls} {G : Int} (H : Lst w bl bm B s) (K : LOk G s) : Calls Tryz.prog 35 #[.pointer (some ⟨bl, 0, Option.none⟩)] w fun e w' => e = .returned (.int .i64 s.most) ∧ Below w.heap.size w w' := by
  have HR := Lib.hid (lready H K.ord)
  have c2 := cell_of_blk H.led 2
  clear H K
  go_enter Tryz.func35, Tryz.ntmps35
  go_wp2_with (go_at_call 72; refine HR.out.mono ?_; rintro e w2 ⟨rfl, hw2⟩; obtain rfl := hw2.symm; clear hw2)
  go_ret
  exact ⟨by trivial, Below.refl _ _⟩
end Go.Proofs.YtkbapoeilcapfaaGreat

/- the ledger: Total. -/
namespace Go.Proofs.YtkbapoeilcapfaaGreat
open Go.RowKit Go.Maps
set_option linter.unusedVariables false
set_option linter.unusedSimpArgs false

theorem dOf_at' (L : List (Int × Nat)) (n : Int) (zd : DataW Unit) : (dOf L).atKey (.int .i64 n) zd = match findA L n with | some b => .lit (.int .i64 b) | none => zd := by
  unfold dOf DataW.atKey findA
  dsimp only
  rw [List.find?_map]
  have : (fun p : Lit × DataW Unit => p.1.sameKey (.int .i64 n)) ∘ (fun x : Int × Nat => ((Lit.int .i64 x.1, DataW.lit (.int .i64 x.2)) : Lit × DataW Unit)) = fun x => x.1 == n := by
    funext x
    simp [sameKey_int]
  rw [this]
  cases L.find? fun x => x.1 == n <;> rfl
def remS (l : List Acc) (left : Lit → Bool) : Int := sumL l fun a => if left (.int .i64 a.n) then a.held else 0
theorem remS_start (B : Int → Nat) (l : List Acc) : remS l (Maps.has (dOf (l.map fun a => (a.n, B a.n)))) = sumL l (·.held) := by
  refine sumL_congr fun a ha => ?_
  rw [if_pos]
  unfold dOf Maps.has
  dsimp only
  rw [List.any_eq_true]
  exact ⟨(.int .i64 a.n, .lit (.int .i64 (B a.n))), List.mem_map.2 ⟨(a.n, B a.n), List.mem_map.2 ⟨a, ha, rfl⟩, rfl⟩, by simp [sameKey_int]⟩
theorem remS_end {left : Lit → Bool} (h : ∀ k, left k = false) : ∀ l : List Acc, remS l left = 0 := by
  intro l
  unfold remS
  induction l with
  | nil => rfl
  | cons x t ih => rw [sumL_cons, ih, if_neg (by rw [h]; decide)]; rfl
theorem remS_step {left : Lit → Bool} {l : List Acc} (ho : l.Pairwise (fun x y => x.n < y.n)) {a : Acc} (ha : a ∈ l) (hl : left (.int .i64 a.n) = true) : remS l left = remS l (fun z => left z && !z.sameKey (.int .i64 a.n)) + a.held := by
  unfold remS
  induction l with
  | nil => simp at ha
  | cons x t ih =>
    obtain ⟨h1, h2⟩ := List.pairwise_cons.1 ho
    rw [sumL_cons, sumL_cons]
    rcases List.mem_cons.1 ha with rfl | hm
    · rw [if_pos hl, if_neg (by simp [sameKey_int])]
      have : (sumL t fun b => if left (.int .i64 b.n) then b.held else 0) = sumL t fun b => if (left (.int .i64 b.n) && !(Lit.int .i64 b.n).sameKey (.int .i64 a.n)) then b.held else 0 := sumL_congr fun b hb => by
        have := h1 b hb
        have e : ((Lit.int .i64 b.n).sameKey (.int .i64 a.n)) = false := by rw [sameKey_int]; simp; omega
        rw [e]
        simp
      rw [this]
      dsimp only
      omega
    · have h3 := h1 a hm
      have e : ((Lit.int .i64 x.n).sameKey (.int .i64 a.n)) = false := by rw [sameKey_int]; simp; omega
      rw [ih h2 hm]
      simp only [e, Bool.not_false, Bool.and_true]
      omega
theorem remS_bound {l : List Acc} (h : ∀ x ∈ l, 0 ≤ x.held) (left : Lit → Bool) : 0 ≤ remS l left ∧ remS l left ≤ sumL l (·.held) := by
  refine ⟨sumL_nonneg fun x hx => ?_, sumL_le fun x hx => ?_⟩
  · have := h x hx
    split <;> omega
  · have := h x hx
    split <;> omega
theorem ptr_inv (v : Value) (y : DataW Unit × List MemPlace) (hv : ptrE v = some y) : ∃ c, v = Value.pointer c := by
  unfold ptrE at hv
  split at hv
  · exact ⟨none, rfl⟩
  · exact ⟨some _, rfl⟩
  · cases hv
theorem ltotal {w : World} {bl bm : Nat} {B : Int → Nat} {s : Ls} (H : Lst w bl bm B s) (ho : s.l.Pairwise (fun x y => x.n < y.n)) (hh : ∀ x ∈ s.l, 0 ≤ x.held) (hT : s.total ≤ 16384) : Calls Tryz.prog 52 #[.pointer (some ⟨bl, 0, Option.none⟩)] w fun e w' => e = .returned (.int .i64 s.total) ∧ Below w.heap.size w w' := by
  have HR := Lib.hid (lready H ho)
  have c0 := cell_of_blk H.led 0
  have hown := H.map
  have HH := Lib.hid H
  have HO := Lib.hid ho
  have HA := Lib.hid hh
  have HL := Lib.hid hT
  clear H ho hh hT
  go_enter Tryz.func52, Tryz.ntmps52
  go_wp2_with (first
    | (go_at_call 72; refine HR.out.mono ?_; rintro e w2 ⟨rfl, hw2⟩; obtain rfl := hw2.symm; clear hw2)
    | (at_range; refine wpList_range_own _ rfl _ 132 rfl 3 147 KI Tryz.underlying132 _ bm s.l.length _ rfl hown ?_; intro w0 hrg0 hg0 hs0)
    | go_in)
  go_frame
  go_loopw [3] (fun v wr => ∃ (left : Lit → Bool) (cnt : Nat) (t : Int), v = .int .i64 t ∧ wr.ranges Tryz.prog 3 ptrE bm w.heap.size s.l.length (dOf (s.l.map fun a => (a.n, B a.n))) left cnt ∧ Hid (t + remS s.l left = s.total) ∧ Hid (Below w.heap.size w wr))
    (fun _ wr => wr.rangeLeft bm w.heap.size)
  case atStart =>
    refine ⟨_, _, 0, rfl, hrg0, ?_, ?_⟩
    · show _ = _
      rw [remS_start]
      unfold Ls.total
      omega
    · exact ((Turn.refl (fun _ => False) w).grown hg0 (fun k hk => by cases hk)).below (Nat.le_refl _) (fun k hk => hk.elim)
  case round =>
    obtain ⟨left, cnt, t, rfl, hrg, HT, HB⟩ := hrel
    go_wp2_with (first
      | (at_next; refine wpList_next_ranges _ rfl _ rfl 3 KI ptrE (Value.int .i64) Value.pointer (fun key kl hkey => by obtain ⟨x, rfl, _⟩ := Maps.keyOf_int_inv Tryz.underlying3 hkey; exact ⟨x, rfl⟩) ptr_inv bm w.heap.size s.l.length _ _ _ rfl hrg ?_ ?_)
      | go_in)
    · intro hc0 hl0
      have ht := HT.out
      rw [remS_end hl0] at ht
      obtain rfl : t = s.total := by omega
      clear hrg ht
      go_wp2
      go_ret
      exact ⟨rfl, HB.out⟩
    · intro x c kl yd ys w1 cnt1 hkey hlx hRy hat hrg1 hlt hg1 hs1 hen
      obtain ⟨x', ex, rfl, hwx⟩ := Maps.keyOf_int_inv Tryz.underlying3 hkey
      cases ex
      obtain ⟨a, ha, hxa, rfl⟩ : ∃ a ∈ s.l, x = a.n ∧ c = some ⟨B a.n, 0, none⟩ := by
        have h1 := hat .nil
        have h2 := hat (.lit (.bool true))
        rw [dOf_at', findA_map] at h1 h2
        cases hf : s.l.find? (fun a => a.n == x) with
        | none =>
          rw [hf] at h1 h2
          simp at h1 h2
          rw [← h1] at h2
          cases h2
        | some a =>
          rw [hf] at h1
          simp at h1
          have hxa : a.n = x := by simpa using List.find?_some hf
          subst h1
          obtain ⟨m, e, em⟩ := ptrE_inv_lit hRy
          injection e with e
          refine ⟨a, List.mem_of_find?_eq_some hf, hxa.symm, ?_⟩
          obtain rfl : m = B a.n := (Int.ofNat.inj em).symm
          exact e
      subst hxa
      have hb1 : Below w.heap.size w w1 := (((Turn.refl (fun _ => False) w).then_ (S2 := fun _ => False) (Turn.of_below HB.out _) (fun _ h => h.elim)).grown hg1 (fun k hk => .inr (by injection hk with hk; omega))).below (Nat.le_refl _) (fun k hk => hk.elim)
      have hst := remS_step HO.out ha hlx
      have hbd := remS_bound HA.out (fun z => left z && !z.sameKey (.int .i64 a.n)) (l := s.l)
      have htl := HL.out
      have hah := HA.out a ha
      have ht := HT.out
      unfold Ls.total at ht htl
      have hc2 : w1.cell? ⟨B a.n, 2, none⟩ = some (.int .i64 a.held) := cell_of_blk (blk_below (HH.out.acc a ha) hb1 (lt_of_heap (HH.out.acc a ha))) 2
      have hm0 : wr.rangeLeft bm w.heap.size = cnt := hrg.left_eq
      have hm1 : w1.rangeLeft bm w.heap.size = cnt1 := hrg1.left_eq
      have hlo : 0 ≤ t + a.held := by omega
      have hhi : t + a.held ≤ 100000 := by omega
      have HT1 := Lib.hid (show (t + a.held) + remS s.l (fun z => left z && !z.sameKey (.int .i64 a.n)) = s.total by unfold Ls.total; omega)
      have HB1 := Lib.hid hb1
      have HM := Lib.hid (show w1.rangeLeft bm w.heap.size < wr.rangeLeft bm w.heap.size by omega)
      clear hst hbd htl ht hah hb1 hat hRy hlx hg1 hkey hm0 hm1 hrg
      go_wp2
      go_roundw
      case measure => exact HM.out
      exact ⟨_, cnt1, t + a.held, rfl, hrg1, HT1, HB1⟩
theorem ltotal' {w : World} {bl bm : Nat} {B : Int → Nat} {s : Ls} {G : Int} (H : Lst w bl bm B s) (K : LOk G s) : Calls Tryz.prog 52 #[.pointer (some ⟨bl, 0, Option.none⟩)] w fun e w' => e = .returned (.int .i64 s.total) ∧ Below w.heap.size w w' :=
  ltotal H K.ord (fun x hx => (K.acc x hx).1) (by have := K.total_le; have := K.grantG; omega)
end Go.Proofs.YtkbapoeilcapfaaGreat

/- the ledger: Take. -/
namespace Go.Proofs.YtkbapoeilcapfaaGreat
open Go.RowKit Go.Maps
set_option linter.unusedVariables false
set_option linter.unusedSimpArgs false

theorem take_total {G p : Int} {s : Ls} (K : LOk G s) {a : Acc} (ha : a ∈ s.l) (h : s.takeE a.n p = 0) : sumL (updL s.l a.n (holdA p)) (·.held) ≤ 16384 ∧ ∀ x ∈ updL s.l a.n (holdA p), 0 ≤ x.held := by
  have h1 := K.take_ a.n p
  rw [take_do h] at h1
  have h2 := h1.total_le
  have h3 := h1.grantG
  exact ⟨by have : sumL (updL s.l a.n (holdA p)) (·.held) ≤ G := h2.2; omega, fun x hx => (h1.acc x hx).1⟩
set_option maxHeartbeats 2000000 in
theorem take_walk {w : World} {bl bm : Nat} {B : Int → Nat} {s : Ls} {G n p : Int} (H : Lst w bl bm B s) (K : LOk G s) (wn : (Lit.int .i64 n).wf = true) (wp : (Lit.int .i64 p).wf = true) :
    Calls Tryz.prog 103 #[.pointer (some ⟨bl, 0, Option.none⟩), .int .i64 n, .int .i64 p] w fun e w' => e = .returned (.int .i64 (s.takeE n p)) ∧ LPost w bl bm B s (s.take_ n p) w' := by
  have HR := Lib.hid (fun W (b : Below w.heap.size w W) => lready (H.below b) K.ord)
  have HH := Lib.hid (And.intro H K)
  cases hf : s.find n with
  | none =>
    have HF := Lib.hid (lfind_no H K.ord wn hf)
    have e0 : s.takeE n p = if p < 0 then 1 else 4 := by unfold Ls.takeE; rw [hf]
    rw [take_keep (by rw [e0]; split <;> decide), e0]
    clear e0 hf H K
    by_cases hp : p < 0
    · rw [if_pos hp]
      go_enter Tryz.func103, Tryz.ntmps103
      go_wp2_with (first
        | (go_at_call 93; refine HF.out.mono ?_; rintro e w1 ⟨rfl, _, b1⟩)
        | (go_at_call 72; refine (HR.out w1 b1).mono ?_; rintro e w2 ⟨rfl, hw2⟩; obtain rfl := hw2.symm; clear hw2))
      go_ret
      exact ⟨by trivial, LPost.same HH.out.1 b1⟩
    · rw [if_neg hp]
      go_enter Tryz.func103, Tryz.ntmps103
      go_wp2_with (first
        | (go_at_call 93; refine HF.out.mono ?_; rintro e w1 ⟨rfl, _, b1⟩)
        | (go_at_call 72; refine (HR.out w1 b1).mono ?_; rintro e w2 ⟨rfl, hw2⟩; obtain rfl := hw2.symm; clear hw2))
      go_ret
      exact ⟨by trivial, LPost.same HH.out.1 b1⟩
  | some a =>
    have HF := Lib.hid (lfind_yes H K.ord wn hf)
    obtain ⟨ha, rfl⟩ := find_mem hf
    have HE := Lib.hid hf
    have hac := K.acc a ha
    have hgr := K.gr0 ha
    have HL := Lib.hid (aleft K ha (H.acc a ha))
    have HA := Lib.hid (H.acc a ha)
    have HB := Lib.hid ha
    clear hf H K ha
    by_cases h1 : p < 0
    · have e0 : s.takeE a.n p = 1 := by unfold Ls.takeE; exact if_pos h1
      rw [take_keep (by rw [e0]; decide), e0]
      clear e0
      go_enter Tryz.func103, Tryz.ntmps103
      go_wp2_with (first
        | (go_at_call 93; refine HF.out.mono ?_; rintro e w1 ⟨rfl, hw⟩; obtain rfl := hw.symm; clear hw)
        | (go_at_call 72; refine (HR.out _ (Below.refl _ _)).mono ?_; rintro e w2 ⟨rfl, hw2⟩; obtain rfl := hw2.symm; clear hw2))
      go_ret
      exact ⟨by trivial, LPost.same HH.out.1 (Below.refl _ _)⟩
    · by_cases h2 : a.left < p
      · have e0 : s.takeE a.n p = 60 := by unfold Ls.takeE; rw [if_neg h1, HE.out]; exact if_pos h2
        rw [take_keep (by rw [e0]; decide), e0]
        clear e0
        go_enter Tryz.func103, Tryz.ntmps103
        go_wp2_with (first
          | (go_at_call 93; refine HF.out.mono ?_; rintro e w1 ⟨rfl, hw⟩; obtain rfl := hw.symm; clear hw)
          | (go_at_call 72; refine (HR.out _ (Below.refl _ _)).mono ?_; rintro e w2 ⟨rfl, hw2⟩; obtain rfl := hw2.symm; clear hw2)
          | (go_at_call 94; refine HL.out.mono ?_; rintro e w3 ⟨rfl, b3⟩))
        go_ret
        exact ⟨by trivial, LPost.same HH.out.1 b3⟩
      · have e0 : s.takeE a.n p = 0 := by unfold Ls.takeE; rw [if_neg h1, HE.out]; exact if_neg h2
        have HTT := Lib.hid (take_total HH.out.2 HB.out e0)
        rw [take_do e0, e0]
        clear e0
        unfold Acc.left at h2 HL
        go_enter Tryz.func103, Tryz.ntmps103
        go_wp2_with (first
          | (go_at_call 93; refine HF.out.mono ?_; rintro e w1 ⟨rfl, hw⟩; obtain rfl := hw.symm; clear hw)
          | (go_at_call 72; refine (HR.out _ (Below.refl _ _)).mono ?_; rintro e w2 ⟨rfl, hw2⟩; obtain rfl := hw2.symm; clear hw2)
          | (go_at_call 94; refine HL.out.mono ?_; rintro e w3 ⟨rfl, b3⟩; have H3 := Lib.hid (HH.out.1.below b3); have HA3 := Lib.hid (blk_below HA.out b3 (lt_of_heap HA.out)); obtain ⟨c0, c1, c2, c3, c4, c5, hb⟩ := ac_cells HA3.out; have hfr2 := free_of_blk HA3.out 2; have hfr3 := free_of_blk HA3.out 3; dsimp only [Acc.ac] at c0 c1 c2 c3 c4 c5))
        go_region
        go_wp2
        have hT4 : Turn (fun k => k = bl ∨ k = B a.n) w (((w3.setCell { block := B a.n, off := 2 } (Value.int IntKind.i64 (a.held + p))).setCell { block := B a.n, off := 3 } (Value.int IntKind.i64 (max a.peak (a.held + p)))).drew) := ((((Turn.of_below b3 _).setCell (.inl (.inr rfl)) _).setCell (.inl (.inr rfl)) _).drew)
        have hne := HH.out.1.ne.2.1 a HB.out
        have hb4 : (((w3.setCell { block := B a.n, off := 2 } (Value.int IntKind.i64 (a.held + p))).setCell { block := B a.n, off := 3 } (Value.int IntKind.i64 (max a.peak (a.held + p)))).drew).heap[bl]? = some (.cells #[.map (some bm), .int .i64 s.made, .int .i64 s.most] 134 (0, 0)) := blk_far (blk_far H3.out.led (fun e => hne e.symm) _) (fun e => hne e.symm) _
        have ha4 : (((w3.setCell { block := B a.n, off := 2 } (Value.int IntKind.i64 (a.held + p))).setCell { block := B a.n, off := 3 } (Value.int IntKind.i64 (max a.peak (a.held + p)))).drew).heap[B a.n]? = some (acObj ((holdA p a).ac B)) := blk_set (blk_set HA3.out 2 _) 3 _
        clear c0 c1 c2 c3 c4 c5 hfr2 hfr3 hb
        generalize (((w3.setCell { block := B a.n, off := 2 } (Value.int IntKind.i64 (a.held + p))).setCell { block := B a.n, off := 3 } (Value.int IntKind.i64 (max a.peak (a.held + p)))).drew) = w4 at hT4 hb4 ha4 ⊢
        have HS4 : Hid (Lst w4 bl bm B ⟨s.made, s.most, updL s.l a.n (holdA p)⟩) := HH.out.1.upd (f := holdA p) HH.out.2.ord HB.out rfl (fun _ => rfl) hT4 hb4 ha4
        have HTot := Lib.hid (fun W (b : Below w4.heap.size w4 W) => ltotal (HS4.out.below b) (updL_ord (fun _ => rfl) HH.out.2.ord) HTT.out.2 HTT.out.1)
        have hl2 : w4.cell? ⟨bl, 2, Option.none⟩ = some (.int .i64 s.most) := cell_of_blk hb4 2
        have HL4 := Lib.hid hb4
        have HA4 := Lib.hid ha4
        have HT4 := Lib.hid hT4
        clear hT4 hb4 ha4
        go_region_with (go_at_call 52; refine (HTot.out w4.drew (show Below w4.heap.size w4 w4.drew from ⟨rfl, rfl, rfl, Nat.le_refl _, fun _ _ => rfl⟩)).mono ?_; rintro e w5 ⟨rfl, b5⟩; have hl5 : w5.cell? ⟨bl, 2, Option.none⟩ = some (.int .i64 s.most) := cell_of_blk (blk_below (w := w4.drew) HL4.out b5 (lt_of_heap HL4.out)) 2; have hf5 : w5.frozen? ⟨bl, 2, Option.none⟩ = false := free_of_blk (blk_below (w := w4.drew) HL4.out b5 (lt_of_heap HL4.out)) 2)
        all_goals go_wp2
        all_goals go_ret
        all_goals exact ⟨rfl, LPost.upd (f := holdA p) HH.out.1 HH.out.2.ord HB.out rfl (fun _ => rfl) ((((HT4.out.drew).then_ (S2 := fun _ => False) (Turn.of_below (b5.mono (Nat.le_refl _)) _) (fun _ h => h.elim))).setCell (.inl (.inl rfl)) _) (blk_set (blk_below (w := w4.drew) HL4.out b5 (lt_of_heap HL4.out)) 2 _) (blk_far (blk_below (w := w4.drew) HA4.out b5 (lt_of_heap HA4.out)) hne _)⟩
end Go.Proofs.YtkbapoeilcapfaaGreat

/- the ledger: Open. -/
namespace Go.Proofs.YtkbapoeilcapfaaGreat
open Go.RowKit Go.Maps
set_option linter.unusedVariables false
set_option linter.unusedSimpArgs false

theorem Lst.grow {w w' : World} {bl bm nb : Nat} {B : Int → Nat} {s : Ls} {a : Acc} {G g : Int} (H : Lst w bl bm B s) (K : LOk G s) (ha : a ∈ s.l)
    (ht : Turn (fun k => k = bl ∨ k = bm ∨ k = B a.n) w w') (hnb : w.heap.size ≤ nb) (h1 : w'.heap[bl]? = some (.cells #[.map (some bm), .int .i64 (s.made + 1), .int .i64 s.most] 134 (0, 0)))
    (h2 : w'.heap[B a.n]? = some (acObj ((addKid g a).ac B))) (h3 : w'.heap[nb]? = some (acObj ⟨some (B a.n), g, 0, 0, 0, 0⟩)) (h4 : OwnA w' bm (s.l.length + 1) ((s.l.map fun a => (a.n, B a.n)) ++ [(s.made + 1, nb)])) :
    LPost w bl bm B s ⟨s.made + 1, s.most, updL s.l a.n (addKid g) ++ [⟨s.made + 1, some a.n, g, 0, 0, 0, 0⟩]⟩ w' := by
  obtain ⟨C, hB, hN⟩ : ∃ C : Int → Nat, (∀ k, k ≤ s.made → C k = B k) ∧ C (s.made + 1) = nb := ⟨fun m => if m = s.made + 1 then nb else B m, fun k hk => if_neg (by omega), if_pos rfl⟩
  have hacB : ∀ x ∈ s.l, ∀ f : Acc → Acc, (f x).ab = x.ab → (f x).ac C = (f x).ac B := by
    intro x hx f hf
    unfold Acc.ac
    rw [hf]
    have : x.ab.map C = x.ab.map B := by
      cases hab : x.ab with
      | none => rfl
      | some k =>
        obtain ⟨y, hy, e⟩ := List.mem_map.1 (K.abv x hx k hab)
        have := (K.num y hy).2
        simp only [Option.map_some]
        rw [hB _ (by omega)]
    rw [this]
  have back : ∀ x ∈ updL s.l a.n (addKid g), ∃ y ∈ s.l, x.n = y.n ∧ (x = y ∧ y.n ≠ a.n ∨ y = a ∧ x = addKid g a) := by
    intro x hx
    rcases updL_mem hx with ⟨hx, hne⟩ | ⟨y, hy, e, rfl⟩
    · exact ⟨x, hx, rfl, .inl ⟨rfl, hne⟩⟩
    · obtain rfl := ord_inj K.ord hy ha e
      exact ⟨y, hy, rfl, .inr ⟨rfl, rfl⟩⟩
  refine ⟨C, ⟨h1, ?_, ?_, ?_⟩, ht.mono ?_, ?_⟩
  · dsimp only
    have e : ∀ (C : Int → Nat) (l : List Acc), l.map (fun a => (a.n, C a.n)) = (l.map (·.n)).map fun n => (n, C n) := fun C l => by rw [List.map_map]; rfl
    rw [e, List.map_append, updL_ns (f := addKid g) (fun _ => rfl), List.map_append, List.length_append, updL_len]
    have e2 : (s.l.map (·.n)).map (fun n => (n, C n)) = s.l.map fun a => (a.n, B a.n) := by
      rw [List.map_map]
      refine List.map_congr_left fun x hx => ?_
      have := (K.num x hx).2
      dsimp only [Function.comp]
      rw [hB _ this]
    rw [e2]
    simp only [List.map_cons, List.map_nil, hN, List.length_cons, List.length_nil]
    exact h4
  · intro x hx
    rcases List.mem_append.1 hx with hx | hx
    · obtain ⟨y, hy, e1, h⟩ := back x hx
      have hyn := (K.num y hy).2
      rw [e1, hB _ hyn]
      rcases h with ⟨rfl, hne⟩ | ⟨rfl, e⟩
      · rw [show x.ac C = x.ac B from hacB x hy id rfl]
        refine ht.heap (H.acc x hy) (fun e => ?_)
        rcases e with e | e | e
        · exact H.ne.2.1 x hy e
        · exact H.ne.2.2 x hy e
        · exact hne (H.inj x hy a ha e)
      · rw [e, hacB y hy (addKid g) rfl]
        exact h2
    · obtain rfl := List.mem_singleton.1 hx
      dsimp only
      rw [hN, h3]
      unfold Acc.ac
      simp only [Option.map_some]
      rw [hB _ (K.num a ha).2]
  · have old : ∀ y ∈ s.l, B y.n ≠ nb := fun y hy e => by have := H.lt _ (.inr (.inr ⟨y, hy, rfl⟩)); omega
    intro x hx z hz e
    rcases List.mem_append.1 hx with hx | hx <;> rcases List.mem_append.1 hz with hz | hz
    · obtain ⟨y, hy, e1, _⟩ := back x hx
      obtain ⟨u, hu, e2, _⟩ := back z hz
      rw [e1, e2] at e ⊢
      rw [hB _ (K.num y hy).2, hB _ (K.num u hu).2] at e
      exact H.inj y hy u hu e
    · obtain ⟨y, hy, e1, _⟩ := back x hx
      obtain rfl := List.mem_singleton.1 hz
      rw [e1, hB _ (K.num y hy).2] at e
      dsimp only at e
      rw [hN] at e
      exact absurd e (old y hy)
    · obtain ⟨u, hu, e2, _⟩ := back z hz
      obtain rfl := List.mem_singleton.1 hx
      rw [e2, hB _ (K.num u hu).2] at e
      dsimp only at e
      rw [hN] at e
      exact absurd e.symm (old u hu)
    · rw [List.mem_singleton.1 hx, List.mem_singleton.1 hz]
  · rintro k (rfl | rfl | rfl)
    · exact .inl rfl
    · exact .inr (.inl rfl)
    · exact .inr (.inr ⟨a, ha, rfl⟩)
  · rintro k (rfl | rfl | ⟨x, hx, rfl⟩)
    · exact .inl (.inl rfl)
    · exact .inl (.inr (.inl rfl))
    · rcases List.mem_append.1 hx with hx | hx
      · obtain ⟨y, hy, e1, _⟩ := back x hx
        rw [e1, hB _ (K.num y hy).2]
        exact .inl (.inr (.inr ⟨y, hy, rfl⟩))
      · obtain rfl := List.mem_singleton.1 hx
        dsimp only
        rw [hN]
        exact .inr hnb
theorem len_yes {w : World} {bl bm : Nat} {B : Int → Nat} {s : Ls} (H : Lst w bl bm B s) : (Builtin.len_ #[132 ] 3 #[.map (some bm)]).run Tryz.prog w = .ok (.int .i64 s.l.length) w := by
  rw [H.map.len Tryz.underlying132, dOf_size, List.length_map]
end Go.Proofs.YtkbapoeilcapfaaGreat

/- the ledger: Close, New. -/
namespace Go.Proofs.YtkbapoeilcapfaaGreat
open Go.RowKit Go.Maps
set_option linter.unusedVariables false
set_option linter.unusedSimpArgs false

theorem OwnA.tight {w : World} {bm n : Nat} {L : List (Int × Nat)} (h : OwnA w bm n L) : OwnA w bm L.length L := by
  have hs := dOf_size L
  obtain ⟨es, clock, hb, F, h1, h2⟩ := h
  refine ⟨es, clock, hb, F, ?_, h2⟩
  rw [h2] at hs
  simp [Maps.size, length_sorted] at hs
  omega
theorem Lst.drop {w w' : World} {bl bm N : Nat} {B : Int → Nat} {s : Ls} {a y : Acc} {G : Int} (H : Lst w bl bm B s) (K : LOk G s) (ha : a ∈ s.l) (hy : y ∈ s.l)
    (ht : Turn (fun k => k = bm ∨ k = B y.n) w w') (h2 : w'.heap[B y.n]? = some (acObj ((remKid a.grant y).ac B))) (h4 : OwnA w' bm N ((s.l.map fun a => (a.n, B a.n)).filter fun x => !(x.1 == a.n))) :
    LPost w bl bm B s ⟨s.made, s.most, (updL s.l y.n (remKid a.grant)).filter fun b => !(b.n == a.n)⟩ w' := by
  have back : ∀ x ∈ (updL s.l y.n (remKid a.grant)).filter (fun b => !(b.n == a.n)), ∃ z ∈ s.l, x.n = z.n ∧ (x = z ∧ z.n ≠ y.n ∨ z = y ∧ x = remKid a.grant y) := by
    intro x hx
    obtain ⟨h1, _⟩ := List.mem_filter.1 hx
    rcases updL_mem h1 with ⟨hx, hne⟩ | ⟨z, hz, e, rfl⟩
    · exact ⟨x, hx, rfl, .inl ⟨rfl, hne⟩⟩
    · obtain rfl := ord_inj K.ord hz hy e
      exact ⟨z, hz, rfl, .inr ⟨rfl, rfl⟩⟩
  refine ⟨B, ⟨ht.heap H.led (fun e => e.elim H.ne.1 (fun e => H.ne.2.1 y hy e.symm)), ?_, ?_, ?_⟩, ht.mono ?_, ?_⟩
  · have e : (s.l.map fun a => (a.n, B a.n)).filter (fun x => !(x.1 == a.n)) = ((updL s.l y.n (remKid a.grant)).filter fun b => !(b.n == a.n)).map fun a => (a.n, B a.n) := by
      have e1 : ∀ l : List Acc, (l.filter fun b => !(b.n == a.n)).map (fun a => (a.n, B a.n)) = ((l.map (·.n)).filter fun n => !(n == a.n)).map fun n => (n, B n) := by
        intro l
        rw [List.filter_map, List.map_map]
        rfl
      rw [e1, updL_ns (f := remKid a.grant) (fun _ => rfl), ← e1, List.filter_map]
      rfl
    rw [e] at h4
    have := h4.tight
    rw [List.length_map] at this
    exact this
  · intro x hx
    obtain ⟨z, hz, e1, ⟨rfl, hne⟩ | ⟨rfl, e⟩⟩ := back x hx
    · exact ht.heap (H.acc x hz) (fun e => e.elim (H.ne.2.2 x hz) (fun e => hne (H.inj x hz y hy e)))
    · rw [e1, e]
      exact h2
  · intro x hx z hz e
    obtain ⟨u, hu, e1, _⟩ := back x hx
    obtain ⟨v, hv, e2, _⟩ := back z hz
    rw [e1, e2] at e ⊢
    exact H.inj u hu v hv e
  · rintro k (rfl | rfl)
    · exact .inr (.inl rfl)
    · exact .inr (.inr ⟨y, hy, rfl⟩)
  · rintro k (rfl | rfl | ⟨x, hx, rfl⟩)
    · exact .inl (.inl rfl)
    · exact .inl (.inr (.inl rfl))
    · obtain ⟨u, hu, e1, _⟩ := back x hx
      rw [e1]
      exact .inl (.inr (.inr ⟨u, hu, rfl⟩))
theorem wp_insert {P : Program} {H : Type} (w : World) {ops : Array Oper} {rest : List Oper} {o : Oper} {a : Act} {Q : Exit → Act → World → Prop} (hg : o.guard = none) (m x v : Operand) (t : TypeId) (hop : o.op = Op.insert t m x v)
    (k e : TypeId) (K : Keyed P k) (ht : P.underlying t = some (.map k e)) (R : Value → Option (DataW H × List MemPlace)) (b n : Nat) (D : DataW H)
    (hm : a.eval m = .map (some b)) (hown : w.ownsMap P k R b n D) (hn : n < maxLen) (key val : Value) (kl : Lit) (hx : a.eval x = key) (hv : a.eval v = val) (hkey : keyOf P k key = some kl)
    (d : DataW H) (ps : List MemPlace) (hval : R val = some (d, ps))
    (hK : ∀ w', w'.ownsMap P k R b (n + 1) (D.put kl d) → w.mapTurned w' b → wpList P ops Q rest (a.put o.dst undef) w') :
    wpList P ops Q (o :: rest) a w := by
  refine wpList_plain hg fun K' hK' => ?_
  obtain ⟨w', hrun, r1, r2⟩ := hown.store K ht hn hkey hval
  unfold Oper.wp
  simp [execOp, hop, hm, hx, hv, hrun, Result.andThen]
  exact hK' _ _ (hK w' r1 r2)
theorem new_no {w : World} {g : Int} (h : g < 0 ∨ 16384 < g) : Calls Tryz.prog 46 #[.int .i64 g] w fun e w' => e = .returned (.tuple #[.pointer Option.none, .int .i64 1]) ∧ w' = w := by
  by_cases h1 : g < 0
  · clear h
    go_enter Tryz.func46, Tryz.ntmps46
    go_wp2
    go_ret2
    exact ⟨by trivial, rfl⟩
  · have h2 : 16384 < g := by omega
    clear h
    go_enter Tryz.func46, Tryz.ntmps46
    go_wp2
    go_ret2
    exact ⟨by trivial, rfl⟩
theorem new_yes {w : World} {g : Int} (h1 : 0 ≤ g) (h2 : g ≤ 16384) : Calls Tryz.prog 46 #[.int .i64 g] w fun e w' =>
    ∃ bl bm B, e = .returned (.tuple #[.pointer (some ⟨bl, 0, Option.none⟩), .int .i64 0]) ∧ Lst w' bl bm B (Ls.new g) ∧ (∀ k, LS bl bm B (Ls.new g) k → w.heap.size ≤ k) ∧ Below w.heap.size w w' := by
  go_enter Tryz.func46, Tryz.ntmps46
  have hmk := run_makeMap (P := Tryz.prog) 132 w
  have HM : Hid (OwnA ((w.alloc (.map #[] 0)).alloc (.cells #[.pointer Option.none, .int .i64 g, .int .i64 0, .int .i64 0, .int .i64 0, .int .i64 0] 149)) w.heap.size 0 []) := World.ownsMap.alloc (World.ownsMap_made w _ _ _) _
  go_wp2_with (first
    | ((with_reducible show wpList _ _ _ ({ dst := Option.none, op := Op.insert _ _ _ _, type := _, pos := _, after := _, guard := Option.none } :: _) _ _); refine wp_insert _ rfl _ _ _ _ rfl 3 147 KI Tryz.underlying132 ptrE w.heap.size 0 _ rfl HM.out (by decide) _ _ _ rfl rfl (keyI (by decide)) _ _ (ptrE_some (w.heap.size + 1)) ?_; intro w5 hown5 hturn5))
  go_ret2
  rw [dOf_put [] 0 _ (by simp)] at hown5
  have ht : Turn (fun k => k = w.heap.size) ((w.alloc (.map #[] 0)).alloc (.cells #[.pointer Option.none, .int .i64 g, .int .i64 0, .int .i64 0, .int .i64 0, .int .i64 0] 149)) w5 := (Turn.refl _ _).grown hturn5.grown (fun k hk => .inl (by injection hk with hk; exact hk.symm))
  have hz := ht.size
  simp at hz
  have hb : Below w.heap.size w w5 := ((((Turn.refl (fun k => k = w.heap.size) w).alloc _).alloc _).then_ ht (fun k hk => .inl hk)).below (Nat.le_refl _) (fun k hk => by omega)
  refine ⟨w5.heap.size, w.heap.size, fun _ => w.heap.size + 1, rfl, ⟨heap_alloc_new _ _, World.ownsMap.alloc hown5 _, ?_, ?_⟩, ?_, hb.alloc (by omega) _⟩
  · intro a ha
    obtain rfl := List.mem_singleton.1 ha
    refine blk_alloc (ht.heap (k := w.heap.size + 1) ?_ (by omega)) _
    have := heap_alloc_new (w.alloc (.map #[] 0)) (.cells #[.pointer Option.none, .int .i64 g, .int .i64 0, .int .i64 0, .int .i64 0, .int .i64 0] 149)
    rw [show (w.alloc (.map #[] 0)).heap.size = w.heap.size + 1 from by simp] at this
    exact this
  · intro a ha b hb _
    rw [List.mem_singleton.1 ha, List.mem_singleton.1 hb]
  · rintro k (rfl | rfl | ⟨a, ha, rfl⟩)
    · omega
    · omega
    · dsimp only
      omega
end Go.Proofs.YtkbapoeilcapfaaGreat

/- the ledger: a nil one. -/
namespace Go.Proofs.YtkbapoeilcapfaaGreat
open Go.RowKit
set_option linter.unusedVariables false
set_option linter.unusedSimpArgs false

abbrev LP : Value := .pointer Option.none
theorem take_nil (w : World) (n g : Int) : Calls Tryz.prog 103 #[LP, .int .i64 n, .int .i64 g] w fun e w' => e = .returned (.int .i64 6) ∧ Below w.heap.size w w' := by
  have HF := Lib.hid find_nil
  have HR := Lib.hid ready_nil
  go_enter Tryz.func103, Tryz.ntmps103
  go_wp2_with (first
    | (go_at_call 93; refine (HF.out _ _).mono ?_; rintro e w1 ⟨rfl, hw⟩; have b1 : Below w.heap.size w w1 := (by rw [hw]; exact (Below.refl _ _).alloc (Nat.le_refl _) _); clear hw)
    | (go_at_call 72; refine (HR.out _).mono ?_; rintro e w2 ⟨rfl, hw2⟩; obtain rfl := hw2.symm; clear hw2))
  go_ret
  exact ⟨by trivial, b1⟩
theorem give_nil (w : World) (n g : Int) : Calls Tryz.prog 104 #[LP, .int .i64 n, .int .i64 g] w fun e w' => e = .returned (.int .i64 6) ∧ Below w.heap.size w w' := by
  have HF := Lib.hid find_nil
  have HR := Lib.hid ready_nil
  go_enter Tryz.func104, Tryz.ntmps104
  go_wp2_with (first
    | (go_at_call 93; refine (HF.out _ _).mono ?_; rintro e w1 ⟨rfl, hw⟩; have b1 : Below w.heap.size w w1 := (by rw [hw]; exact (Below.refl _ _).alloc (Nat.le_refl _) _); clear hw)
    | (go_at_call 72; refine (HR.out _).mono ?_; rintro e w2 ⟨rfl, hw2⟩; obtain rfl := hw2.symm; clear hw2))
  go_ret
  exact ⟨by trivial, b1⟩
theorem find_nil2 (w : World) (n : Int) : Calls Tryz.prog 93 #[LP, .int .i64 n] w fun e w' => e = .returned (.tuple #[.pointer (some ⟨w.heap.size, 0, Option.none⟩), .bool false]) ∧ w'.heap[w.heap.size]? = some (acObj Ac.none) ∧ Below w.heap.size w w' := by
  refine (find_nil w n).mono ?_
  rintro e w' ⟨rfl, rfl⟩
  exact ⟨rfl, heap_alloc_new _ _, (Below.refl _ _).alloc (Nat.le_refl _) _⟩
theorem leftn_nil (w : World) (n : Int) : Calls Tryz.prog 61 #[LP, .int .i64 n] w fun e w' => e = .returned (.int .i64 0) ∧ Below w.heap.size w w' := by
  have HF := Lib.hid find_nil2
  go_enter Tryz.func61, Tryz.ntmps61
  go_wp2_with (first
    | (go_at_call 93; refine (HF.out _ _).mono ?_; rintro e w1 ⟨rfl, hg, b1⟩; have HL := Lib.hid (left_walk hg (by decide) (by decide) (by decide) (by decide) (by decide) (by decide)); clear hg)
    | (go_at_call 94; refine HL.out.mono ?_; rintro e w2 ⟨rfl, b2⟩))
  go_ret
  exact ⟨by trivial, b1.trans (b2.mono b1.size)⟩
theorem total_nil (w : World) : Calls Tryz.prog 52 #[LP] w fun e w' => e = .returned (.int .i64 0) ∧ Below w.heap.size w w' := by
  have HR := Lib.hid ready_nil
  go_enter Tryz.func52, Tryz.ntmps52
  go_wp2_with (go_at_call 72; refine (HR.out _).mono ?_; rintro e w2 ⟨rfl, hw2⟩; obtain rfl := hw2.symm; clear hw2)
  go_ret
  exact ⟨by trivial, Below.refl _ _⟩
theorem most_nil (w : World) : Calls Tryz.prog 35 #[LP] w fun e w' => e = .returned (.int .i64 0) ∧ Below w.heap.size w w' := by
  have HR := Lib.hid ready_nil
  go_enter Tryz.func35, Tryz.ntmps35
  go_wp2_with (go_at_call 72; refine (HR.out _).mono ?_; rintro e w2 ⟨rfl, hw2⟩; obtain rfl := hw2.symm; clear hw2)
  go_ret
  exact ⟨by trivial, Below.refl _ _⟩
end Go.Proofs.YtkbapoeilcapfaaGreat

/- the ledger: lives(). -/
namespace Go.Proofs.YtkbapoeilcapfaaGreat
open Go.RowKit Go.Maps
set_option linter.unusedVariables false
set_option linter.unusedSimpArgs false

/-- A ledger that lies above base, in a world that has kept what lay below. -/
structure LV (base : Nat) (w0 w : World) (bl : Nat) (s : Ls) : Prop where
  ex : ∃ bm B, Lst w bl bm B s ∧ ∀ k, LS bl bm B s k → base ≤ k
  le : base ≤ w.heap.size
  bel : Below base w0 w
theorem LV.below {base B : Nat} {w0 w w' : World} {bl : Nat} {s : Ls} (H : LV base w0 w bl s) (hb : Below w.heap.size w w') : LV base w0 w' bl s := by
  obtain ⟨bm, B, h1, h2⟩ := H.ex
  exact ⟨⟨bm, B, h1.below hb, h2⟩, Nat.le_trans H.le hb.size, H.bel.trans (hb.mono H.le)⟩
theorem LV.post {base : Nat} {w0 w w' : World} {bl bm : Nat} {B : Int → Nat} {s s' : Ls} (H : LV base w0 w bl s) (h2 : ∀ k, LS bl bm B s k → base ≤ k) (hp : LPost w bl bm B s s' w') : LV base w0 w' bl s' := by
  obtain ⟨B', h3, h4, h5⟩ := hp
  exact ⟨⟨bm, B', h3, fun k hk => (h5 k hk).elim (h2 k) (fun h => Nat.le_trans H.le h)⟩, Nat.le_trans H.le h4.size, H.bel.trans (h4.below H.le h2)⟩
section
variable {base : Nat} {w0 w : World} {bl : Nat} {s : Ls} {G : Int}
abbrev lp (bl : Nat) : Value := .pointer (some ⟨bl, 0, Option.none⟩)
theorem lv_take (H : LV base w0 w bl s) (K : LOk G s) {n g : Int} (wn : (Lit.int .i64 n).wf = true) (wg : (Lit.int .i64 g).wf = true) : Calls Tryz.prog 103 #[lp bl, .int .i64 n, .int .i64 g] w fun e w' => e = .returned (.int .i64 (s.takeE n g)) ∧ LV base w0 w' bl (s.take_ n g) := by
  obtain ⟨bm, B, h1, h2⟩ := H.ex
  exact (take_walk h1 K wn wg).mono fun e w' h => ⟨h.1, H.post h2 h.2⟩
theorem lv_give (H : LV base w0 w bl s) (K : LOk G s) {n g : Int} (wn : (Lit.int .i64 n).wf = true) (wg : (Lit.int .i64 g).wf = true) : Calls Tryz.prog 104 #[lp bl, .int .i64 n, .int .i64 g] w fun e w' => e = .returned (.int .i64 (s.giveE n g)) ∧ LV base w0 w' bl (s.give_ n g) := by
  obtain ⟨bm, B, h1, h2⟩ := H.ex
  exact (give_walk h1 K wn wg).mono fun e w' h => ⟨h.1, H.post h2 h.2⟩
theorem lv_left (H : LV base w0 w bl s) (K : LOk G s) {n : Int} (wn : (Lit.int .i64 n).wf = true) : Calls Tryz.prog 61 #[lp bl, .int .i64 n] w fun e w' => e = .returned (.int .i64 ((s.find n).elim 0 (·.left))) ∧ LV base w0 w' bl s := by
  obtain ⟨bm, B, h1, h2⟩ := H.ex
  exact (aleftN h1 K wn).mono fun e w' h => ⟨h.1, H.below (B := 0) h.2⟩
theorem lv_total (H : LV base w0 w bl s) (K : LOk G s) : Calls Tryz.prog 52 #[lp bl] w fun e w' => e = .returned (.int .i64 s.total) ∧ LV base w0 w' bl s := by
  obtain ⟨bm, B, h1, h2⟩ := H.ex
  exact (ltotal' h1 K).mono fun e w' h => ⟨h.1, H.below (B := 0) h.2⟩
theorem lv_most (H : LV base w0 w bl s) (K : LOk G s) : Calls Tryz.prog 35 #[lp bl] w fun e w' => e = .returned (.int .i64 s.most) ∧ LV base w0 w' bl s := by
  obtain ⟨bm, B, h1, h2⟩ := H.ex
  exact (lmost h1 K).mono fun e w' h => ⟨h.1, H.below (B := 0) h.2⟩
end
theorem lv_new {w : World} {g : Int} (h1 : 0 ≤ g) (h2 : g ≤ 16384) : Calls Tryz.prog 46 #[.int .i64 g] w fun e w' => ∃ bl, e = .returned (.tuple #[lp bl, .int .i64 0]) ∧ LV w.heap.size w w' bl (Ls.new g) :=
  (new_yes h1 h2).mono fun e w' ⟨bl, bm, B, e1, e2, e3, e4⟩ => ⟨bl, e1, ⟨bm, B, e2, e3⟩, e4.size, e4⟩
theorem LV.down {base base' : Nat} {w0 w w' : World} {bl : Nat} {s : Ls} (H : LV base w w' bl s) (hb : Below base' w0 w) (hz : base' ≤ base) : LV base' w0 w' bl s := by
  obtain ⟨bm, B, h1, h2⟩ := H.ex
  exact ⟨⟨bm, B, h1, fun k hk => Nat.le_trans hz (h2 k hk)⟩, Nat.le_trans hz H.le, hb.trans (H.bel.mono hz)⟩

abbrev s1 : Ls := ⟨1, 0, [⟨0, none, 5, 0, 0, 3, 1⟩, ⟨1, some 0, 3, 0, 0, 0, 0⟩]⟩
abbrev s2 : Ls := ⟨1, 3, [⟨0, none, 5, 0, 0, 3, 1⟩, ⟨1, some 0, 3, 3, 3, 0, 0⟩]⟩
abbrev s3 : Ls := ⟨1, 5, [⟨0, none, 5, 2, 2, 3, 1⟩, ⟨1, some 0, 3, 3, 3, 0, 0⟩]⟩
abbrev s4 : Ls := ⟨1, 5, [⟨0, none, 5, 2, 2, 3, 1⟩, ⟨1, some 0, 3, 0, 3, 0, 0⟩]⟩
abbrev s5 : Ls := ⟨1, 5, [⟨0, none, 5, 2, 2, 0, 0⟩]⟩
theorem k0 : LOk 5 (Ls.new 5) := LOk.new (by decide) (by decide)
theorem o1 : (Ls.new 5).open_ 0 3 = s1 := by decide
theorem o2 : s1.take_ 1 3 = s2 := by decide
theorem o2' : s2.take_ 1 1 = s2 := by decide
theorem o3 : s2.take_ 0 2 = s3 := by decide
theorem o3' : s3.close_ 1 = s3 := by decide
theorem o4 : s3.give_ 1 3 = s4 := by decide
theorem o5 : s4.close_ 1 = s5 := by decide
theorem k1 : LOk 5 s1 := by rw [← o1]; exact k0.open_ 0 3
theorem k2 : LOk 5 s2 := by rw [← o2]; exact k1.take_ 1 3
theorem k3 : LOk 5 s3 := by rw [← o3]; exact k2.take_ 0 2
theorem k4 : LOk 5 s4 := by rw [← o4]; exact k3.give_ 1 3
theorem k5 : LOk 5 s5 := by rw [← o5]; exact k4.close_ 1
end Go.Proofs.YtkbapoeilcapfaaGreat

/- the ledger as a thing apart: its calls beside a frame. -/
namespace Go.Proofs.YtkbapoeilcapfaaGreat
open Go.RowKit Go.Maps
set_option linter.unusedVariables false
set_option linter.unusedSimpArgs false

def LR (bl : Nat) (s : Ls) : Res := fun w S => ∃ bm B, Lst w bl bm B s ∧ S = LS bl bm B s
theorem LR_good (bl : Nat) (s : Ls) : Good (LR bl s) := by
  refine ⟨?_, ?_⟩
  · rintro w S ⟨bm, B, h, rfl⟩
    exact h.lt
  · rintro w w' S T ⟨bm, B, h, rfl⟩ ht hn
    exact ⟨bm, B, h.turn ht hn, rfl⟩
theorem LPost.ch {w w' : World} {bl bm : Nat} {B : Int → Nat} {s s' : Ls} (h : LPost w bl bm B s s' w') : Ch w (LS bl bm B s) (LR bl s') w' := by
  obtain ⟨B', h3, h4, h5⟩ := h
  exact ⟨_, ⟨bm, B', h3, rfl⟩, h4, h5⟩
section
variable {w0 w : World} {bl : Nat} {s : Ls} {G : Int} {Fr : Res}
theorem r_take (g : Good Fr) (H : In w0 w (star (LR bl s) Fr)) (K : LOk G s) {n p : Int} (wn : (Lit.int .i64 n).wf = true) (wg : (Lit.int .i64 p).wf = true) :
    Calls Tryz.prog 103 #[lp bl, .int .i64 n, .int .i64 p] w fun e w' => e = .returned (.int .i64 (s.takeE n p)) ∧ In w0 w' (star (LR bl (s.take_ n p)) Fr) :=
  H.call1 g fun S ⟨bm, B, h, e⟩ => by
    subst e
    exact (take_walk h K wn wg).mono fun e w' h => ⟨h.1, h.2.ch⟩
theorem r_give (g : Good Fr) (H : In w0 w (star (LR bl s) Fr)) (K : LOk G s) {n p : Int} (wn : (Lit.int .i64 n).wf = true) (wg : (Lit.int .i64 p).wf = true) :
    Calls Tryz.prog 104 #[lp bl, .int .i64 n, .int .i64 p] w fun e w' => e = .returned (.int .i64 (s.giveE n p)) ∧ In w0 w' (star (LR bl (s.give_ n p)) Fr) :=
  H.call1 g fun S ⟨bm, B, h, e⟩ => by
    subst e
    exact (give_walk h K wn wg).mono fun e w' h => ⟨h.1, h.2.ch⟩
theorem r_left (g : Good Fr) (H : In w0 w (star (LR bl s) Fr)) (K : LOk G s) {n : Int} (wn : (Lit.int .i64 n).wf = true) :
    Calls Tryz.prog 61 #[lp bl, .int .i64 n] w fun e w' => e = .returned (.int .i64 ((s.find n).elim 0 (·.left))) ∧ Below w.heap.size w w' ∧ In w0 w' (star (LR bl s) Fr) :=
  H.left.get fun S ⟨bm, B, h, _⟩ => (aleftN h K wn).mono fun e w' h => ⟨h.1, h.2, H.below (star_good (LR_good _ _) g) h.2⟩
theorem r_total (g : Good Fr) (H : In w0 w (star (LR bl s) Fr)) (K : LOk G s) :
    Calls Tryz.prog 52 #[lp bl] w fun e w' => e = .returned (.int .i64 s.total) ∧ Below w.heap.size w w' ∧ In w0 w' (star (LR bl s) Fr) :=
  H.left.get fun S ⟨bm, B, h, _⟩ => (ltotal' h K).mono fun e w' h => ⟨h.1, h.2, H.below (star_good (LR_good _ _) g) h.2⟩
theorem r_new (gF : Good Fr) (H : In w0 w Fr) {g : Int} (h1 : 0 ≤ g) (h2 : g ≤ 16384) :
    Calls Tryz.prog 46 #[.int .i64 g] w fun e w' => ∃ bl, e = .returned (.tuple #[lp bl, .int .i64 0]) ∧ Below w.heap.size w w' ∧ In w0 w' (star (LR bl (Ls.new g)) Fr) :=
  (new_yes h1 h2).mono fun e w' ⟨bl, bm, B, e1, e2, e3, e4⟩ => ⟨bl, e1, e4, (H.add gF e4 (N := LR bl (Ls.new g)) ⟨bm, B, e2, rfl⟩ e3).comm⟩
end
end Go.Proofs.YtkbapoeilcapfaaGreat
