/- maps of whatever values; the disk in memory. -/
import Derived.Test.YtagknfjgokiidaaProg
import Derived.Test.YtagknfjgokiidaaSep
import Derived.Test.YtagknfjgokiidaaDM
import Derived.ChangeShapes
import Derived.Deep.Slices
import Derived.Deep.Fields
import Derived.ChangeSame
import Derived.Deep.QuietTactic
import Derived.BigQuiet
import Derived.Outline
import Derived.Lib.Hide
import Derived.KernelRfl
import Derived.OpenShut
import Derived.Maps.OwnSet
import Derived.Maps.RangeWalk
import Derived.Deep.RegionLaw
namespace Go.Proofs.Ytagknfjgokiidaa
open Go.RowKit Go.Maps
set_option linter.unusedVariables false
set_option linter.unusedSimpArgs false

def hv (v : Value) : Option (DataW Value × List MemPlace) := some (.held v, [])
def mOf (L : List (Int × Value)) : DataW Value := .map (L.map fun x => (.int .i64 x.1, .held x.2))
def findV (L : List (Int × Value)) (n : Int) : Option Value := (L.find? fun x => x.1 == n).map (·.2)
def setV (L : List (Int × Value)) (n : Int) (v : Value) : List (Int × Value) := L.map fun x => if x.1 = n then (n, v) else x
theorem same_int (a b : Int) : (Lit.int .i64 a).sameKey (Lit.int .i64 b) = (a == b) := by
  by_cases h : a = b <;> simp [Lit.sameKey, h]
theorem mOf_at (L : List (Int × Value)) (n : Int) (z : DataW Value) : (mOf L).atKey (.int .i64 n) z = match findV L n with | some v => .held v | none => z := by
  unfold mOf DataW.atKey findV
  dsimp only
  rw [List.find?_map]
  have : (fun p : Lit × DataW Value => p.1.sameKey (.int .i64 n)) ∘ (fun x : Int × Value => ((Lit.int .i64 x.1, DataW.held x.2) : Lit × DataW Value)) = fun x => x.1 == n := by
    funext x
    simp [same_int]
  rw [this]
  cases L.find? fun x => x.1 == n <;> rfl
theorem mOf_has (L : List (Int × Value)) (n : Int) : Maps.has (mOf L) (.int .i64 n) = (findV L n).isSome := by
  cases h : findV L n with
  | none => exact Maps.has_false_of_atKey fun z => by rw [mOf_at, h]
  | some v => exact Maps.has_true_of_atKey (y := .held v) fun z => by rw [mOf_at, h]
theorem mOf_size (L : List (Int × Value)) : Maps.size (mOf L) = L.length := by simp [mOf, Maps.size]
theorem ins_end (x : Lit × DataW Value) : ∀ l : List (Lit × DataW Value), (∀ p ∈ l, x.1.before p.1 = false) → DataW.insert x l = l ++ [x]
  | [], _ => rfl
  | y :: r, h => by
    unfold DataW.insert
    rw [if_neg (by rw [h y (by simp)]; decide), ins_end x r (fun p hp => h p (by simp [hp]))]
    rfl
theorem mOf_put_new (L : List (Int × Value)) (n : Int) (v : Value) (h : ∀ x ∈ L, x.1 < n) : (mOf L).put (.int .i64 n) (.held v) = mOf (L ++ [(n, v)]) := by
  unfold mOf DataW.put
  dsimp only
  rw [List.filter_eq_self.2, ins_end]
  · simp
  · intro p hp
    obtain ⟨x, hx, rfl⟩ := List.mem_map.1 hp
    have := h x hx
    simp [Lit.before]
    omega
  · intro p hp
    obtain ⟨x, hx, rfl⟩ := List.mem_map.1 hp
    have := h x hx
    simp [same_int]
    omega
theorem setV_none {L : List (Int × Value)} {n : Int} (v : Value) (h : ∀ x ∈ L, x.1 ≠ n) : setV L n v = L := by
  unfold setV
  conv => rhs; rw [← List.map_id L]
  refine List.map_congr_left fun x hx => ?_
  rw [if_neg (h x hx)]
  rfl
theorem mOf_put_old (n : Int) (v : Value) : ∀ L : List (Int × Value), L.Pairwise (fun x y => x.1 < y.1) → (∃ x ∈ L, x.1 = n) → (mOf L).put (.int .i64 n) (.held v) = mOf (setV L n v)
  | [], _, h => by obtain ⟨x, hx, _⟩ := h; simp at hx
  | y :: t, ho, h => by
    obtain ⟨h1, h2⟩ := List.pairwise_cons.1 ho
    have fl : ∀ l : List (Int × Value), (∀ x ∈ l, n < x.1) → (l.map fun x => ((Lit.int .i64 x.1, DataW.held x.2) : Lit × DataW Value)).filter (fun p => !p.1.sameKey (.int .i64 n)) = l.map fun x => (Lit.int .i64 x.1, DataW.held x.2) := by
      intro l hl
      rw [List.filter_eq_self]
      intro p hp
      obtain ⟨x, hx, rfl⟩ := List.mem_map.1 hp
      have := hl x hx
      simp [same_int]
      omega
    by_cases e : y.1 = n
    · have ht : ∀ x ∈ t, n < x.1 := fun x hx => by have := h1 x hx; omega
      have hs : setV (y :: t) n v = (n, v) :: t := by
        have := setV_none (L := t) (n := n) v (fun x hx => by have := ht x hx; omega)
        unfold setV at this ⊢
        rw [List.map_cons, if_pos e, this]
      rw [hs]
      unfold mOf DataW.put
      dsimp only
      rw [List.map_cons, List.filter_cons_of_neg (by simp [same_int, e]), fl t ht]
      congr 1
      cases t with
      | nil => rfl
      | cons z r =>
        have := ht z (by simp)
        rw [List.map_cons]
        unfold DataW.insert
        rw [if_pos (by simp [Lit.before]; omega)]
        rfl
    · obtain ⟨x, hx, ex⟩ := h
      have hxt : x ∈ t := by
        rcases List.mem_cons.1 hx with rfl | hx
        · exact absurd ex e
        · exact hx
      have hlt : y.1 < n := by have := h1 x hxt; omega
      have ih := mOf_put_old n v t h2 ⟨x, hxt, ex⟩
      have hs : setV (y :: t) n v = y :: setV t n v := by
        unfold setV
        rw [List.map_cons, if_neg e]
      rw [hs]
      unfold mOf DataW.put at ih ⊢
      dsimp only at ih ⊢
      rw [List.map_cons, List.filter_cons_of_pos (by simp [same_int]; omega)]
      rw [DataW.map.injEq] at ih ⊢
      rw [List.map_cons, ← ih]
      conv => lhs; unfold DataW.insert
      rw [if_neg (by simp [Lit.before]; omega)]
theorem mOf_del (L : List (Int × Value)) (n : Int) : (mOf L).del (.int .i64 n) = mOf (L.filter fun x => !(x.1 == n)) := by
  unfold mOf DataW.del
  dsimp only
  rw [List.filter_map]
  congr 2
  congr 1
  funext x
  simp [same_int]
theorem k64 {n : Int} (hw : (Lit.int .i64 n).wf = true) : keyOf Try.prog 3 (.int .i64 n) = some (.int .i64 n) := keyOf_int_mk Try.underlying3 hw
theorem K64 : Keyed Try.prog 3 := int_keyed Try.underlying3
abbrev OwnM (w : World) (bm nn : Nat) (D : DataW Value) : Prop := w.ownsMap Try.prog 3 hv bm nn D
abbrev FT : Nat := 65
abbrev BT : Nat := 66
abbrev nilS : Value := .slice none 0 0
theorem zeroF (w : World) : (zeroValue 75).run Try.prog w = .ok nilS w := by kernel_rfl
theorem zeroB (w : World) : (zeroValue 4).run Try.prog w = .ok (.bool false) w := by kernel_rfl
theorem hv_inv {v : Value} {d : DataW Value} {ps : List MemPlace} (h : hv v = some (d, ps)) : d = .held v := by
  unfold hv at h
  injection h with h
  injection h with h1 h2
  exact h1.symm
theorem OwnM.turn {S : Nat → Prop} {w w' : World} {bm nn : Nat} {D : DataW Value} (h : OwnM w bm nn D) (ht : Turn S w w') (hs : ¬ S bm) : OwnM w' bm nn D := by
  obtain ⟨es, clock, hb, r⟩ := h
  exact ⟨es, clock, ht.heap hb hs, r⟩
theorem OwnM.tight {w : World} {bm n : Nat} {L : List (Int × Value)} (h : OwnM w bm n (mOf L)) : OwnM w bm L.length (mOf L) := by
  have hs := mOf_size L
  obtain ⟨es, clock, hb, F, h1, h2⟩ := h
  refine ⟨es, clock, hb, F, ?_, h2⟩
  rw [h2] at hs
  simp [Maps.size, length_sorted] at hs
  omega
theorem OwnM.obj {w : World} {bm nn : Nat} {D : DataW Value} (h : OwnM w bm nn D) : ∃ es clock, w.heap[bm]? = some (.map es clock) := by
  obtain ⟨es, clock, hb, _⟩ := h
  exact ⟨es, clock, hb⟩
theorem look_ok {w : World} {bm nn : Nat} {L : List (Int × Value)} {n : Int} (h : OwnM w bm nn (mOf L)) (hw : (Lit.int .i64 n).wf = true) :
    (Instr.lookup 65 (.map (some bm)) (.int .i64 n) true).run Try.prog w = .ok (.tuple #[(findV L n).getD nilS, .bool (findV L n).isSome]) w := by
  obtain ⟨v, ps, hr, hv'⟩ := World.ownsMap.look_ok h K64 Try.underlying65 (zeroF w) (zd := .held nilS) (zp := []) rfl (k64 hw)
  rw [hr, mOf_has]
  have := hv_inv hv'
  rw [mOf_at] at this
  cases hf : findV L n with
  | none => rw [hf] at this; rw [← DataW.held.inj this]; rfl
  | some u => rw [hf] at this; rw [← DataW.held.inj this]; rfl
theorem look_v {w : World} {bm nn : Nat} {L : List (Int × Value)} {n : Int} (h : OwnM w bm nn (mOf L)) (hw : (Lit.int .i64 n).wf = true) :
    (Instr.lookup 65 (.map (some bm)) (.int .i64 n) false).run Try.prog w = .ok ((findV L n).getD nilS) w := by
  obtain ⟨v, ps, hr, hv'⟩ := World.ownsMap.lookup h K64 Try.underlying65 (zeroF w) (zd := .held nilS) (zp := []) rfl (k64 hw)
  rw [hr]
  have := hv_inv hv'
  rw [mOf_at] at this
  cases hf : findV L n with
  | none => rw [hf] at this; rw [← DataW.held.inj this]; rfl
  | some u => rw [hf] at this; rw [← DataW.held.inj this]; rfl
/-- The faults: a map that tells of each number whether it is one. -/
def Flt (w : World) (bf : Nat) (F : List Int) : Prop := ∃ nn D, OwnM w bf nn D ∧ nn ≤ F.length ∧ ∀ n : Int, D.atKey (.int .i64 n) (.held (.bool false)) = .held (.bool (F.contains n))
theorem Flt.turn {S : Nat → Prop} {w w' : World} {bf : Nat} {F : List Int} (h : Flt w bf F) (ht : Turn S w w') (hs : ¬ S bf) : Flt w' bf F := by
  obtain ⟨nn, D, h1, h2⟩ := h
  exact ⟨nn, D, h1.turn ht hs, h2⟩
theorem Flt.look {w : World} {bf : Nat} {F : List Int} (h : Flt w bf F) {n : Int} (hw : (Lit.int .i64 n).wf = true) :
    (Instr.lookup 66 (.map (some bf)) (.int .i64 n) false).run Try.prog w = .ok (.bool (F.contains n)) w := by
  obtain ⟨nn, D, h1, _, h2⟩ := h
  obtain ⟨v, ps, hr, hv'⟩ := World.ownsMap.lookup h1 K64 Try.underlying66 (zeroB w) (zd := .held (.bool false)) (zp := []) rfl (k64 hw)
  have := hv_inv hv'
  rw [h2] at this
  rw [hr, ← DataW.held.inj this]

abbrev dskObj (bm bf : Nat) (R : Int) (s : Ds) : Obj := .cells #[.map (some bm), .int .i64 R, .int .i64 s.made, .int .i64 s.deeds, .map (some bf), .int .i64 s.reads, .int .i64 s.writes, .int .i64 s.used, .int .i64 s.peak] 68 (0, 0)
abbrev pgc (l : List Pg) : List Value := l.flatten.map (Value.int .u8)
/-- The disk at block bd, its map at bm, its faults at bf; V: the rows of pages. -/
structure Dsk (w : World) (bd bm bf : Nat) (V : Int → Value) (R : Int) (F : List Int) (s : Ds) : Prop where
  dsk : w.heap[bd]? = some (dskObj bm bf R s)
  map : OwnM w bm s.fs.length (mOf (s.fs.map fun x => (x.1, V x.1)))
  flt : Flt w bf F
  ne : bm ≠ bf
  row : ∀ x ∈ s.fs, w.ownsRow 0 79 256 (V x.1) x.2.length (pgc x.2)
  sep : ∀ x ∈ s.fs, ∀ y ∈ s.fs, ∀ k, (V x.1).ownBlock = some k → (V y.1).ownBlock = some k → x.1 = y.1
def DS (bd bm bf : Nat) (V : Int → Value) (s : Ds) (k : Nat) : Prop := k = bd ∨ k = bm ∨ k = bf ∨ ∃ x ∈ s.fs, (V x.1).ownBlock = some k
theorem Dsk.turn {S : Nat → Prop} {w w' : World} {bd bm bf : Nat} {V : Int → Value} {R : Int} {F : List Int} {s : Ds} (H : Dsk w bd bm bf V R F s) (ht : Turn S w w') (hs : ∀ k, DS bd bm bf V s k → ¬ S k) : Dsk w' bd bm bf V R F s :=
  ⟨ht.heap H.dsk (hs _ (.inl rfl)), H.map.turn ht (hs _ (.inr (.inl rfl))), H.flt.turn ht (hs _ (.inr (.inr (.inl rfl)))), H.ne, fun x hx => own_turn (H.row x hx) ht (fun k hk => hs k (.inr (.inr (.inr ⟨x, hx, hk⟩)))), H.sep⟩
theorem Dsk.lt {w : World} {bd bm bf : Nat} {V : Int → Value} {R : Int} {F : List Int} {s : Ds} (H : Dsk w bd bm bf V R F s) : ∀ k, DS bd bm bf V s k → k < w.heap.size := by
  rintro k (rfl | rfl | rfl | ⟨x, hx, hk⟩)
  · exact lt_of_heap H.dsk
  · exact H.map.lt
  · obtain ⟨nn, D, h1, _⟩ := H.flt
    exact h1.lt
  · exact ((H.row x hx).lt k hk).2
theorem own_obj {w : World} {base : Nat} {e : TypeId} {size n : Nat} {v : Value} {xs : List Value} (h : w.ownsRow base e size v n xs) {k : Nat} (hk : v.ownBlock = some k) : ∃ cs, w.heap[k]? = some (.cells cs e (0, 0)) := by
  rcases h.2 with ⟨rfl, rfl⟩ | ⟨g, cap, cur, rfl, hb, hg, rest⟩
  · simp [Value.ownBlock] at hk
  · have : g = k := by simpa [Value.ownBlock] using hk
    rw [← this]
    exact ⟨cur, hg⟩
theorem Dsk.nes {w : World} {bd bm bf : Nat} {V : Int → Value} {R : Int} {F : List Int} {s : Ds} (H : Dsk w bd bm bf V R F s) : bd ≠ bm ∧ bd ≠ bf ∧ (∀ x ∈ s.fs, ∀ k, (V x.1).ownBlock = some k → k ≠ bd ∧ k ≠ bm ∧ k ≠ bf) := by
  obtain ⟨es, clock, hm⟩ := H.map.obj
  obtain ⟨nn, D, hf, _⟩ := H.flt
  obtain ⟨es2, clock2, hf⟩ := hf.obj
  refine ⟨fun e => ?_, fun e => ?_, fun x hx k hk => ?_⟩
  · have := H.dsk
    rw [e, hm] at this
    cases this
  · have := H.dsk
    rw [e, hf] at this
    cases this
  · obtain ⟨cs, hc⟩ := own_obj (H.row x hx) hk
    refine ⟨fun e => ?_, fun e => ?_, fun e => ?_⟩
    · rw [e, H.dsk] at hc
      injection hc with hc
      injection hc with _ ht
      exact absurd ht (by decide)
    · rw [e, hm] at hc
      cases hc
    · rw [e, hf] at hc
      cases hc
theorem Dsk.cells {w : World} {bd bm bf : Nat} {V : Int → Value} {R : Int} {F : List Int} {s : Ds} (H : Dsk w bd bm bf V R F s) :
    w.cell? ⟨bd, 0, none⟩ = some (.map (some bm)) ∧ w.cell? ⟨bd, 1, none⟩ = some (.int .i64 R) ∧ w.cell? ⟨bd, 2, none⟩ = some (.int .i64 s.made) ∧ w.cell? ⟨bd, 3, none⟩ = some (.int .i64 s.deeds) ∧ w.cell? ⟨bd, 4, none⟩ = some (.map (some bf)) ∧
      w.cell? ⟨bd, 5, none⟩ = some (.int .i64 s.reads) ∧ w.cell? ⟨bd, 6, none⟩ = some (.int .i64 s.writes) ∧ w.cell? ⟨bd, 7, none⟩ = some (.int .i64 s.used) ∧ w.cell? ⟨bd, 8, none⟩ = some (.int .i64 s.peak) ∧ bd < w.heap.size :=
  ⟨cell_of_blk H.dsk 0, cell_of_blk H.dsk 1, cell_of_blk H.dsk 2, cell_of_blk H.dsk 3, cell_of_blk H.dsk 4, cell_of_blk H.dsk 5, cell_of_blk H.dsk 6, cell_of_blk H.dsk 7, cell_of_blk H.dsk 8, lt_of_heap H.dsk⟩
theorem Dsk.frees {w : World} {bd bm bf : Nat} {V : Int → Value} {R : Int} {F : List Int} {s : Ds} (H : Dsk w bd bm bf V R F s) :
    w.frozen? ⟨bd, 2, none⟩ = false ∧ w.frozen? ⟨bd, 3, none⟩ = false ∧ w.frozen? ⟨bd, 5, none⟩ = false ∧ w.frozen? ⟨bd, 6, none⟩ = false ∧ w.frozen? ⟨bd, 7, none⟩ = false ∧ w.frozen? ⟨bd, 8, none⟩ = false :=
  ⟨free_of_blk H.dsk 2, free_of_blk H.dsk 3, free_of_blk H.dsk 5, free_of_blk H.dsk 6, free_of_blk H.dsk 7, free_of_blk H.dsk 8⟩
theorem find_map (V : Int → Value) (s : Ds) (n : Int) : findV (s.fs.map fun x => (x.1, V x.1)) n = (s.find n).map fun _ => V n := by
  unfold findV Ds.find
  rw [List.find?_map, Option.map_map, Option.map_map]
  cases hf : s.fs.find? ((fun x => x.1 == n) ∘ fun x => (x.1, V x.1)) with
  | none =>
    have : (s.fs.find? fun x => x.1 == n) = none := hf
    rw [this]
    rfl
  | some x =>
    have h2 : (s.fs.find? fun x => x.1 == n) = some x := hf
    have : x.1 = n := by simpa using List.find?_some h2
    rw [h2]
    simp [this]
/-- The disk as a thing. -/
def DR (bd : Nat) (R : Int) (F : List Int) (s : Ds) : Res := fun w S => ∃ bm bf V, Dsk w bd bm bf V R F s ∧ S = DS bd bm bf V s
theorem DR_good (bd : Nat) (R : Int) (F : List Int) (s : Ds) : Good (DR bd R F s) := by
  refine ⟨?_, ?_⟩
  · rintro w S ⟨bm, bf, V, h, rfl⟩ k hk
    exact h.lt k hk
  · rintro w w' S T ⟨bm, bf, V, h, rfl⟩ ht hn
    exact ⟨bm, bf, V, h.turn ht hn, rfl⟩
abbrev dp (bd : Nat) : Value := .pointer (some ⟨bd, 0, none⟩)
end Go.Proofs.Ytagknfjgokiidaa
