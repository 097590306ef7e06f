/- a map of accounts. -/
import Derived.Test.YtagknfjgokiidaaProg
import Derived.Test.YtagknfjgokiidaaOwn
import Derived.ChangeShapes
import Derived.Deep.Slices
import Derived.Deep.Fields
import Derived.ChangeSame
import Derived.Deep.QuietTactic
import Derived.BigQuiet
import Derived.Outline
import Derived.Lib.Hide
import Derived.KernelRfl
import Derived.OpenShut
import Derived.Maps.OwnSet
import Derived.Maps.RangeWalk
namespace Go.Proofs.Ytagknfjgokiidaa
open Go.RowKit Go.Maps

def ptrE (v : Value) : Option (DataW Unit × List MemPlace) :=
  match v with
  | .pointer none => some (.nil, [])
  | .pointer (some a) => if a.off = 0 ∧ a.spot = none then some (.lit (.int .i64 a.block), []) else none
  | _ => none
theorem ptrE_nil : ptrE (.pointer none) = some (.nil, []) := rfl
theorem ptrE_some (b : Nat) : ptrE (.pointer (some ⟨b, 0, none⟩)) = some (.lit (.int .i64 b), []) := by simp [ptrE]
theorem ptrE_inv_lit {v : Value} {b : Int} {ps : List MemPlace} (h : ptrE v = some (.lit (.int .i64 b), ps)) : ∃ n : Nat, v = .pointer (some ⟨n, 0, none⟩) ∧ b = n := by
  unfold ptrE at h
  split at h
  · cases h
  · next a =>
    split at h
    · next hc =>
      obtain ⟨blk, off, spot⟩ := a
      obtain ⟨rfl, rfl⟩ := hc
      simp only [Option.some.injEq, Prod.mk.injEq, DataW.lit.injEq, Lit.int.injEq, true_and] at h
      exact ⟨blk, rfl, h.1.symm⟩
    · cases h
  · cases h
theorem ptrE_inv_nil {v : Value} {ps : List MemPlace} (h : ptrE v = some (.nil, ps)) : v = .pointer none := by
  unfold ptrE at h
  split at h
  · rfl
  · split at h <;> cases h
  · cases h
/-- The map's datum: the numbers and the blocks. -/
def dOf (L : List (Int × Nat)) : DataW Unit := .map (L.map fun x => (.int .i64 x.1, .lit (.int .i64 x.2)))
def findA (L : List (Int × Nat)) (n : Int) : Option Nat := (L.find? fun x => x.1 == n).map (·.2)
theorem sameKey_int (a b : Int) : (Lit.int .i64 a).sameKey (Lit.int .i64 b) = (a == b) := by
  by_cases h : a = b <;> simp [Lit.sameKey, h]
theorem dOf_at (L : List (Int × Nat)) (n : Int) : (dOf L).atKey (.int .i64 n) .nil = match findA L n with | some b => .lit (.int .i64 b) | none => .nil := by
  unfold dOf DataW.atKey findA
  dsimp only
  rw [List.find?_map]
  have : (fun p : Lit × DataW Unit => p.1.sameKey (.int .i64 n)) ∘ (fun x : Int × Nat => ((Lit.int .i64 x.1, DataW.lit (.int .i64 x.2)) : Lit × DataW Unit)) = fun x => x.1 == n := by
    funext x
    simp [sameKey_int]
  rw [this]
  cases L.find? fun x => x.1 == n <;> rfl
theorem dOf_size (L : List (Int × Nat)) : Maps.size (dOf L) = L.length := by simp [dOf, Maps.size]
theorem insert_end (x : Lit × DataW Unit) : ∀ l : List (Lit × DataW Unit), (∀ p ∈ l, x.1.before p.1 = false) → DataW.insert x l = l ++ [x]
  | [], _ => rfl
  | y :: r, h => by
    unfold DataW.insert
    rw [if_neg (by rw [h y (by simp)]; decide), insert_end x r (fun p hp => h p (by simp [hp]))]
    rfl
theorem dOf_put (L : List (Int × Nat)) (n : Int) (b : Nat) (h : ∀ x ∈ L, x.1 < n) : (dOf L).put (.int .i64 n) (.lit (.int .i64 b)) = dOf (L ++ [(n, b)]) := by
  unfold dOf DataW.put
  dsimp only
  rw [List.filter_eq_self.2, insert_end]
  · simp
  · intro p hp
    obtain ⟨x, hx, rfl⟩ := List.mem_map.1 hp
    have := h x hx
    simp [Lit.before]
    omega
  · intro p hp
    obtain ⟨x, hx, rfl⟩ := List.mem_map.1 hp
    have := h x hx
    simp [sameKey_int]
    omega
theorem dOf_del (L : List (Int × Nat)) (n : Int) : (dOf L).del (.int .i64 n) = dOf (L.filter fun x => !(x.1 == n)) := by
  unfold dOf DataW.del
  dsimp only
  rw [List.filter_map]
  congr 2
  congr 1
  funext x
  simp [sameKey_int]
theorem keyI {n : Int} (hw : (Lit.int .i64 n).wf = true) : keyOf Try.prog 3 (.int .i64 n) = some (.int .i64 n) := keyOf_int_mk Try.underlying3 hw
theorem KI : Keyed Try.prog 3 := int_keyed Try.underlying3
theorem zeroA (w : World) : (zeroValue 85).run Try.prog w = .ok (.pointer none) w := by kernel_rfl
abbrev OwnA (w : World) (bm nn : Nat) (L : List (Int × Nat)) : Prop := w.ownsMap Try.prog 3 ptrE bm nn (dOf L)
theorem look_some {w : World} {bm nn b : Nat} {L : List (Int × Nat)} {n : Int} (h : OwnA w bm nn L) (hw : (Lit.int .i64 n).wf = true) (hf : findA L n = some b) : (Instr.lookup 88 (.map (some bm)) (.int .i64 n) false).run Try.prog w = .ok (.pointer (some ⟨b, 0, none⟩)) w := by
  obtain ⟨v, ps, hr, hv⟩ := World.ownsMap.lookup h KI Try.underlying88 (zeroA w) ptrE_nil (keyI hw)
  rw [dOf_at, hf] at hv
  obtain ⟨m, rfl, e⟩ := ptrE_inv_lit hv
  rw [hr]
  have : m = b := by omega
  rw [this]
theorem look_none {w : World} {bm nn : Nat} {L : List (Int × Nat)} {n : Int} (h : OwnA w bm nn L) (hw : (Lit.int .i64 n).wf = true) (hf : findA L n = none) : (Instr.lookup 88 (.map (some bm)) (.int .i64 n) false).run Try.prog w = .ok (.pointer none) w := by
  obtain ⟨v, ps, hr, hv⟩ := World.ownsMap.lookup h KI Try.underlying88 (zeroA w) ptrE_nil (keyI hw)
  rw [dOf_at, hf] at hv
  obtain rfl := ptrE_inv_nil hv
  exact hr
end Go.Proofs.Ytagknfjgokiidaa
