/- The disk and its calls. -/
import Derived.Test.YtkbapoeilcapfaaGreatMA
import Derived.Test.YtkbapoeilcapfaaGreatProg
import Derived.ChangeShapes
import Derived.Deep.Slices
import Derived.Deep.Fields
import Derived.ChangeSame
import Derived.Deep.QuietTactic
import Derived.BigQuiet
import Derived.Outline
import Derived.Lib.Hide
import Derived.KernelRfl
import Derived.OpenShut
import Derived.Maps.OwnSet
import Derived.Maps.RangeWalk
import Derived.Deep.RegionLaw
import Derived.Shelf.SlIterI.Nil
import Derived.Shelf.SortM.Plain
import Derived.Shelf.SortM.SortNone
import Derived.Ground.GgzProg
import Derived.Ground.SlgmProg
import Derived.BigRegion
import Derived.Laws.Rows
import Derived.Laws.CopyOwn
import Derived.Lib.SliceRun
import Derived.Deep.MidRow
import Derived.Great.BuildSlice
import Derived.OrdersHeld
import Derived.Maps.AppendAt
/- the disk as plain data: what each call does, and what stays true. -/
namespace Go.Proofs.YtkbapoeilcapfaaGreat
set_option linter.unusedVariables false
set_option linter.unusedSimpArgs false

abbrev Pg := List Int
structure Ds where
  made : Int
  deeds : Int
  reads : Int
  writes : Int
  used : Int
  peak : Int
  fs : List (Int × List Pg)
  deriving DecidableEq
def Ds.new : Ds := ⟨0, 0, 0, 0, 0, 0, []⟩
def Ds.find (s : Ds) (n : Int) : Option (List Pg) := (s.fs.find? fun x => x.1 == n).map (·.2)
def addPg (fs : List (Int × List Pg)) (n : Int) (p : Pg) : List (Int × List Pg) := fs.map fun x => if x.1 = n then (x.1, x.2 ++ [p]) else x
def pagesN (fs : List (Int × List Pg)) : Int := (fs.map fun x => (x.2.length : Int)).sum
def Ds.deed_ (s : Ds) : Ds := ⟨s.made, s.deeds + 1, s.reads, s.writes, s.used, s.peak, s.fs⟩
def Ds.createE (s : Ds) : Int := if 32768 ≤ s.fs.length then 2 else 0
def Ds.create (s : Ds) : Ds := if s.createE = 0 then ⟨s.made + 1, s.deeds, s.reads, s.writes, s.used, s.peak, s.fs ++ [(s.made + 1, [])]⟩ else s
def Ds.appE (R : Int) (F : List Int) (s : Ds) (n : Int) (p : Pg) : Int :=
  if p.length ≠ 256 then 1 else match s.find n with
  | none => 4
  | some _ => if R ≤ s.used then 2 else if F.contains (s.deeds + 1) then 50 else 0
def Ds.app (R : Int) (F : List Int) (s : Ds) (n : Int) (p : Pg) : Ds :=
  if s.appE R F n p = 0 then ⟨s.made, s.deeds + 1, s.reads, s.writes + 1, s.used + 1, max s.peak (s.used + 1), addPg s.fs n p⟩
  else if s.appE R F n p = 50 then s.deed_ else s
def Ds.readE (F : List Int) (s : Ds) (n i : Int) : Int :=
  match s.find n with
  | none => 4
  | some l => if i < 0 ∨ (l.length : Int) ≤ i then 4 else if F.contains (s.deeds + 1) then 50 else 0
def Ds.readP (s : Ds) (n i : Int) : Pg := ((s.find n).getD []).getD i.toNat []
def Ds.read (F : List Int) (s : Ds) (n i : Int) : Ds :=
  if s.readE F n i = 0 then ⟨s.made, s.deeds + 1, s.reads + 1, s.writes, s.used, s.peak, s.fs⟩
  else if s.readE F n i = 50 then s.deed_ else s
def Ds.delE (s : Ds) (n : Int) : Int := match s.find n with | none => 4 | some _ => 0
def Ds.del (s : Ds) (n : Int) : Ds :=
  match s.find n with
  | none => s
  | some l => ⟨s.made, s.deeds, s.reads, s.writes, s.used - l.length, s.peak, s.fs.filter fun x => !(x.1 == n)⟩

def PgOk (p : Pg) : Prop := p.length = 256 ∧ ∀ b ∈ p, 0 ≤ b ∧ b ≤ 255
structure DOk (R : Int) (s : Ds) : Prop where
  ord : s.fs.Pairwise (fun x y => x.1 < y.1)
  num : ∀ x ∈ s.fs, 1 ≤ x.1 ∧ x.1 ≤ s.made
  made : 0 ≤ s.made
  room : 0 ≤ R ∧ R ≤ 16384
  cnt : s.used = pagesN s.fs
  used : s.used ≤ R ∧ s.used ≤ s.peak ∧ s.peak ≤ R
  acts : 0 ≤ s.reads ∧ 0 ≤ s.writes ∧ s.reads + s.writes ≤ s.deeds
  pgs : ∀ x ∈ s.fs, ∀ p ∈ x.2, PgOk p
  len : s.fs.length ≤ 32768

theorem pagesN_nil : pagesN [] = 0 := rfl
theorem pagesN_cons (x : Int × List Pg) (l : List (Int × List Pg)) : pagesN (x :: l) = x.2.length + pagesN l := by simp [pagesN]
theorem pagesN_app (l m : List (Int × List Pg)) : pagesN (l ++ m) = pagesN l + pagesN m := by simp [pagesN]
theorem pagesN_nonneg (l : List (Int × List Pg)) : 0 ≤ pagesN l := by
  induction l with
  | nil => simp [pagesN]
  | cons x t ih => rw [pagesN_cons]; omega
theorem pagesN_mem {l : List (Int × List Pg)} {x : Int × List Pg} (h : x ∈ l) : (x.2.length : Int) ≤ pagesN l := by
  induction l with
  | nil => simp at h
  | cons y t ih =>
    rw [pagesN_cons]
    rcases List.mem_cons.1 h with rfl | h
    · have := pagesN_nonneg t; omega
    · have := ih h; omega
theorem fs_inj {l : List (Int × List Pg)} (ho : l.Pairwise (fun x y => x.1 < y.1)) {a b : Int × List Pg} (ha : a ∈ l) (hb : b ∈ l) (h : a.1 = b.1) : a = b := by
  induction l with
  | nil => simp at ha
  | cons x t ih =>
    obtain ⟨h1, h2⟩ := List.pairwise_cons.1 ho
    rcases List.mem_cons.1 ha with e | ha <;> rcases List.mem_cons.1 hb with e' | hb
    · rw [e, e']
    · have := h1 _ hb; rw [e] at h; omega
    · have := h1 _ ha; rw [e'] at h; omega
    · exact ih h2 ha hb
theorem Ds.find_mem {s : Ds} {n : Int} {l : List Pg} (h : s.find n = some l) : (n, l) ∈ s.fs := by
  unfold Ds.find at h
  cases hf : s.fs.find? fun x => x.1 == n with
  | none => rw [hf] at h; cases h
  | some x =>
    rw [hf] at h
    have h1 := List.mem_of_find?_eq_some hf
    have h2 : x.1 = n := by simpa using List.find?_some hf
    have h3 : x.2 = l := by simpa using h
    rw [← h2, ← h3]
    exact h1
theorem Ds.find_none {s : Ds} {n : Int} (h : s.find n = none) : ∀ x ∈ s.fs, x.1 ≠ n := by
  unfold Ds.find at h
  intro x hx
  have h1 : (s.fs.find? fun x => x.1 == n) = none := by
    cases hf : s.fs.find? fun x => x.1 == n with
    | none => rfl
    | some x => rw [hf] at h; cases h
  have := List.find?_eq_none.1 h1 x hx
  simpa using this
theorem Ds.find_of_mem {s : Ds} (ho : s.fs.Pairwise (fun x y => x.1 < y.1)) {x : Int × List Pg} (hx : x ∈ s.fs) : s.find x.1 = some x.2 := by
  cases h : s.find x.1 with
  | none => exact absurd rfl (Ds.find_none h x hx)
  | some l =>
    have := fs_inj ho (Ds.find_mem h) hx rfl
    rw [← this]
theorem addPg_ns (fs : List (Int × List Pg)) (n : Int) (p : Pg) : (addPg fs n p).map (·.1) = fs.map (·.1) := by
  unfold addPg
  rw [List.map_map]
  refine List.map_congr_left fun x _ => ?_
  dsimp only [Function.comp]
  split <;> rfl
theorem addPg_len (fs : List (Int × List Pg)) (n : Int) (p : Pg) : (addPg fs n p).length = fs.length := by simp [addPg]
theorem addPg_ord {fs : List (Int × List Pg)} (n : Int) (p : Pg) (ho : fs.Pairwise (fun x y => x.1 < y.1)) : (addPg fs n p).Pairwise (fun x y => x.1 < y.1) := by
  have h1 : (fs.map (·.1)).Pairwise (· < ·) := List.pairwise_map.2 ho
  rw [← addPg_ns fs n p] at h1
  exact List.pairwise_map.1 h1
theorem addPg_mem {fs : List (Int × List Pg)} {n : Int} {p : Pg} {x : Int × List Pg} (h : x ∈ addPg fs n p) : (x ∈ fs ∧ x.1 ≠ n) ∨ ∃ l, (n, l) ∈ fs ∧ x = (n, l ++ [p]) := by
  unfold addPg at h
  obtain ⟨y, hy, rfl⟩ := List.mem_map.1 h
  split
  · next e => exact .inr ⟨y.2, by rw [← e]; exact hy, by rw [← e]⟩
  · next e => exact .inl ⟨hy, e⟩
theorem addPg_none {fs : List (Int × List Pg)} {n : Int} (p : Pg) (h : ∀ x ∈ fs, x.1 ≠ n) : addPg fs n p = fs := by
  unfold addPg
  conv => rhs; rw [← List.map_id fs]
  refine List.map_congr_left fun x hx => ?_
  rw [if_neg (h x hx)]
  rfl
theorem addPg_pages {fs : List (Int × List Pg)} {n : Int} {l : List Pg} (p : Pg) (ho : fs.Pairwise (fun x y => x.1 < y.1)) (hm : (n, l) ∈ fs) : pagesN (addPg fs n p) = pagesN fs + 1 := by
  induction fs with
  | nil => simp at hm
  | cons y t ih =>
    obtain ⟨h1, h2⟩ := List.pairwise_cons.1 ho
    unfold addPg
    rw [List.map_cons, pagesN_cons, pagesN_cons]
    rcases List.mem_cons.1 hm with rfl | hm
    · have : (t.map fun x => if x.1 = n then (x.1, x.2 ++ [p]) else x) = t := by
        have := addPg_none (fs := t) (n := n) p (fun x hx => by have := h1 x hx; dsimp only at this; omega)
        exact this
      rw [this, if_pos rfl]
      simp
      omega
    · have := h1 _ hm
      dsimp only at this
      have e := ih h2 hm
      unfold addPg at e
      rw [e, if_neg (by omega)]
      omega
theorem drop_pages {fs : List (Int × List Pg)} {n : Int} {l : List Pg} (ho : fs.Pairwise (fun x y => x.1 < y.1)) (hm : (n, l) ∈ fs) : pagesN (fs.filter fun x => !(x.1 == n)) = pagesN fs - l.length := by
  induction fs with
  | nil => simp at hm
  | cons y t ih =>
    obtain ⟨h1, h2⟩ := List.pairwise_cons.1 ho
    rcases List.mem_cons.1 hm with rfl | hm
    · have : t.filter (fun x => !(x.1 == n)) = t := by
        rw [List.filter_eq_self]
        intro x hx
        have := h1 x hx
        dsimp only at this
        simp
        omega
      rw [List.filter_cons_of_neg (by simp), this, pagesN_cons]
      dsimp only
      omega
    · have := h1 _ hm
      dsimp only at this
      rw [List.filter_cons_of_pos (by simp; omega), pagesN_cons, pagesN_cons, ih h2 hm]
      omega
theorem DOk.new {R : Int} (h0 : 0 ≤ R) (h1 : R ≤ 16384) : DOk R Ds.new where
  ord := by simp [Ds.new]
  num := by simp [Ds.new]
  made := by simp [Ds.new]
  room := ⟨h0, h1⟩
  cnt := by simp [Ds.new, pagesN]
  used := by simp [Ds.new]; exact h0
  acts := by simp [Ds.new]
  pgs := by simp [Ds.new]
  len := by simp [Ds.new]
theorem DOk.deed_ {R : Int} {s : Ds} (h : DOk R s) : DOk R s.deed_ :=
  ⟨h.ord, h.num, h.made, h.room, h.cnt, h.used, by have := h.acts; unfold Ds.deed_; dsimp only; omega, h.pgs, h.len⟩
theorem DOk.create {R : Int} {s : Ds} (h : DOk R s) : DOk R s.create := by
  unfold Ds.create
  split
  · next he =>
    have hl : s.fs.length < 32768 := by
      unfold Ds.createE at he
      rcases Nat.lt_or_ge s.fs.length 32768 with h | h
      · exact h
      · rw [if_pos h] at he; cases he
    refine ⟨List.pairwise_append.2 ⟨h.ord, by simp, ?_⟩, ?_, by have := h.made; dsimp only; omega, h.room, ?_, h.used, h.acts, ?_, by simp; omega⟩
    · intro x hx y hy
      obtain rfl := List.mem_singleton.1 hy
      have := h.num x hx
      dsimp only
      omega
    · intro x hx
      have hm := h.made
      rcases List.mem_append.1 hx with hx | hx
      · have := h.num x hx; dsimp only; omega
      · obtain rfl := List.mem_singleton.1 hx; dsimp only; omega
    · dsimp only
      rw [pagesN_app, pagesN_cons, pagesN_nil, h.cnt]
      simp
    · intro x hx p hp
      rcases List.mem_append.1 hx with hx | hx
      · exact h.pgs x hx p hp
      · obtain rfl := List.mem_singleton.1 hx; simp at hp
  · exact h
theorem DOk.app {R : Int} {F : List Int} {s : Ds} (h : DOk R s) (n : Int) {p : Pg} (hb : ∀ b ∈ p, 0 ≤ b ∧ b ≤ 255) : DOk R (s.app R F n p) := by
  unfold Ds.app
  split
  · next he =>
    unfold Ds.appE at he
    by_cases hp : p.length = 256
    · rw [if_neg (by omega)] at he
      cases hf : s.find n with
      | none => rw [hf] at he; cases he
      | some l =>
        rw [hf] at he
        dsimp only at he
        have hr : s.used < R := by
          rcases Decidable.em (R ≤ s.used) with h | h
          · rw [if_pos h] at he; cases he
          · omega
        have hm := Ds.find_mem hf
        refine ⟨addPg_ord n p h.ord, ?_, h.made, h.room, ?_, ?_, ?_, ?_, ?_⟩
        · intro x hx
          rcases addPg_mem hx with ⟨hx, _⟩ | ⟨l', hl', rfl⟩
          · exact h.num x hx
          · have := h.num _ hl'; exact this
        · dsimp only
          rw [addPg_pages p h.ord hm, h.cnt]
        · have := h.used
          dsimp only
          omega
        · have := h.acts
          dsimp only
          omega
        · intro x hx q hq
          rcases addPg_mem hx with ⟨hx, _⟩ | ⟨l', hl', rfl⟩
          · exact h.pgs x hx q hq
          · rcases List.mem_append.1 hq with hq | hq
            · exact h.pgs _ hl' q hq
            · rw [List.mem_singleton.1 hq]; exact ⟨hp, hb⟩
        · dsimp only
          rw [addPg_len]
          exact h.len
    · rw [if_pos hp] at he; cases he
  · split
    · exact h.deed_
    · exact h
theorem DOk.read {R : Int} {F : List Int} {s : Ds} (h : DOk R s) (n i : Int) : DOk R (s.read F n i) := by
  unfold Ds.read
  split
  · exact ⟨h.ord, h.num, h.made, h.room, h.cnt, h.used, by have := h.acts; dsimp only; omega, h.pgs, h.len⟩
  · split
    · exact h.deed_
    · exact h
theorem DOk.del {R : Int} {s : Ds} (h : DOk R s) (n : Int) : DOk R (s.del n) := by
  unfold Ds.del
  cases hf : s.find n with
  | none => exact h
  | some l =>
    have hm := Ds.find_mem hf
    refine ⟨h.ord.sublist List.filter_sublist, fun x hx => h.num x (List.mem_filter.1 hx).1, h.made, h.room, ?_, ?_, h.acts, fun x hx => h.pgs x (List.mem_filter.1 hx).1, Nat.le_trans (List.length_filter_le _ _) h.len⟩
    · dsimp only
      rw [drop_pages h.ord hm, h.cnt]
    · have := h.used
      dsimp only
      omega
theorem create_deeds (s : Ds) : s.create.deeds = s.deeds ∧ s.create.made ≤ s.made + 1 := by
  unfold Ds.create
  split
  · exact ⟨rfl, Int.le_refl _⟩
  · exact ⟨rfl, by omega⟩
theorem app_deeds (R : Int) (F : List Int) (s : Ds) (n : Int) (p : Pg) : (s.app R F n p).deeds ≤ s.deeds + 1 ∧ (s.app R F n p).made = s.made := by
  unfold Ds.app Ds.deed_
  split
  · exact ⟨Int.le_refl _, rfl⟩
  · split
    · exact ⟨Int.le_refl _, rfl⟩
    · exact ⟨by omega, rfl⟩
theorem read_deeds (F : List Int) (s : Ds) (n i : Int) : (s.read F n i).deeds ≤ s.deeds + 1 ∧ (s.read F n i).made = s.made := by
  unfold Ds.read Ds.deed_
  split
  · exact ⟨Int.le_refl _, rfl⟩
  · split
    · exact ⟨Int.le_refl _, rfl⟩
    · exact ⟨by omega, rfl⟩
theorem del_deeds (s : Ds) (n : Int) : (s.del n).deeds = s.deeds ∧ (s.del n).made = s.made := by
  unfold Ds.del
  split <;> exact ⟨rfl, rfl⟩
end Go.Proofs.YtkbapoeilcapfaaGreat

/- maps of whatever values; the disk in memory. -/
namespace Go.Proofs.YtkbapoeilcapfaaGreat
open Go.RowKit Go.Maps
set_option linter.unusedVariables false
set_option linter.unusedSimpArgs false

def hv (v : Value) : Option (DataW Value × List MemPlace) := some (.held v, [])
def mOf (L : List (Int × Value)) : DataW Value := .map (L.map fun x => (.int .i64 x.1, .held x.2))
def findV (L : List (Int × Value)) (n : Int) : Option Value := (L.find? fun x => x.1 == n).map (·.2)
def setV (L : List (Int × Value)) (n : Int) (v : Value) : List (Int × Value) := L.map fun x => if x.1 = n then (n, v) else x
theorem same_int (a b : Int) : (Lit.int .i64 a).sameKey (Lit.int .i64 b) = (a == b) := by
  by_cases h : a = b <;> simp [Lit.sameKey, h]
theorem mOf_at (L : List (Int × Value)) (n : Int) (z : DataW Value) : (mOf L).atKey (.int .i64 n) z = match findV L n with | some v => .held v | none => z := by
  unfold mOf DataW.atKey findV
  dsimp only
  rw [List.find?_map]
  have : (fun p : Lit × DataW Value => p.1.sameKey (.int .i64 n)) ∘ (fun x : Int × Value => ((Lit.int .i64 x.1, DataW.held x.2) : Lit × DataW Value)) = fun x => x.1 == n := by
    funext x
    simp [same_int]
  rw [this]
  cases L.find? fun x => x.1 == n <;> rfl
theorem mOf_has (L : List (Int × Value)) (n : Int) : Maps.has (mOf L) (.int .i64 n) = (findV L n).isSome := by
  cases h : findV L n with
  | none => exact Maps.has_false_of_atKey fun z => by rw [mOf_at, h]
  | some v => exact Maps.has_true_of_atKey (y := .held v) fun z => by rw [mOf_at, h]
theorem mOf_size (L : List (Int × Value)) : Maps.size (mOf L) = L.length := by simp [mOf, Maps.size]
theorem ins_end (x : Lit × DataW Value) : ∀ l : List (Lit × DataW Value), (∀ p ∈ l, x.1.before p.1 = false) → DataW.insert x l = l ++ [x]
  | [], _ => rfl
  | y :: r, h => by
    unfold DataW.insert
    rw [if_neg (by rw [h y (by simp)]; decide), ins_end x r (fun p hp => h p (by simp [hp]))]
    rfl
theorem mOf_put_new (L : List (Int × Value)) (n : Int) (v : Value) (h : ∀ x ∈ L, x.1 < n) : (mOf L).put (.int .i64 n) (.held v) = mOf (L ++ [(n, v)]) := by
  unfold mOf DataW.put
  dsimp only
  rw [List.filter_eq_self.2, ins_end]
  · simp
  · intro p hp
    obtain ⟨x, hx, rfl⟩ := List.mem_map.1 hp
    have := h x hx
    simp [Lit.before]
    omega
  · intro p hp
    obtain ⟨x, hx, rfl⟩ := List.mem_map.1 hp
    have := h x hx
    simp [same_int]
    omega
theorem setV_none {L : List (Int × Value)} {n : Int} (v : Value) (h : ∀ x ∈ L, x.1 ≠ n) : setV L n v = L := by
  unfold setV
  conv => rhs; rw [← List.map_id L]
  refine List.map_congr_left fun x hx => ?_
  rw [if_neg (h x hx)]
  rfl
theorem mOf_put_old (n : Int) (v : Value) : ∀ L : List (Int × Value), L.Pairwise (fun x y => x.1 < y.1) → (∃ x ∈ L, x.1 = n) → (mOf L).put (.int .i64 n) (.held v) = mOf (setV L n v)
  | [], _, h => by obtain ⟨x, hx, _⟩ := h; simp at hx
  | y :: t, ho, h => by
    obtain ⟨h1, h2⟩ := List.pairwise_cons.1 ho
    have fl : ∀ l : List (Int × Value), (∀ x ∈ l, n < x.1) → (l.map fun x => ((Lit.int .i64 x.1, DataW.held x.2) : Lit × DataW Value)).filter (fun p => !p.1.sameKey (.int .i64 n)) = l.map fun x => (Lit.int .i64 x.1, DataW.held x.2) := by
      intro l hl
      rw [List.filter_eq_self]
      intro p hp
      obtain ⟨x, hx, rfl⟩ := List.mem_map.1 hp
      have := hl x hx
      simp [same_int]
      omega
    by_cases e : y.1 = n
    · have ht : ∀ x ∈ t, n < x.1 := fun x hx => by have := h1 x hx; omega
      have hs : setV (y :: t) n v = (n, v) :: t := by
        have := setV_none (L := t) (n := n) v (fun x hx => by have := ht x hx; omega)
        unfold setV at this ⊢
        rw [List.map_cons, if_pos e, this]
      rw [hs]
      unfold mOf DataW.put
      dsimp only
      rw [List.map_cons, List.filter_cons_of_neg (by simp [same_int, e]), fl t ht]
      congr 1
      cases t with
      | nil => rfl
      | cons z r =>
        have := ht z (by simp)
        rw [List.map_cons]
        unfold DataW.insert
        rw [if_pos (by simp [Lit.before]; omega)]
        rfl
    · obtain ⟨x, hx, ex⟩ := h
      have hxt : x ∈ t := by
        rcases List.mem_cons.1 hx with rfl | hx
        · exact absurd ex e
        · exact hx
      have hlt : y.1 < n := by have := h1 x hxt; omega
      have ih := mOf_put_old n v t h2 ⟨x, hxt, ex⟩
      have hs : setV (y :: t) n v = y :: setV t n v := by
        unfold setV
        rw [List.map_cons, if_neg e]
      rw [hs]
      unfold mOf DataW.put at ih ⊢
      dsimp only at ih ⊢
      rw [List.map_cons, List.filter_cons_of_pos (by simp [same_int]; omega)]
      rw [DataW.map.injEq] at ih ⊢
      rw [List.map_cons, ← ih]
      conv => lhs; unfold DataW.insert
      rw [if_neg (by simp [Lit.before]; omega)]
theorem mOf_del (L : List (Int × Value)) (n : Int) : (mOf L).del (.int .i64 n) = mOf (L.filter fun x => !(x.1 == n)) := by
  unfold mOf DataW.del
  dsimp only
  rw [List.filter_map]
  congr 2
  congr 1
  funext x
  simp [same_int]
theorem k64 {n : Int} (hw : (Lit.int .i64 n).wf = true) : keyOf Tryz.prog 3 (.int .i64 n) = some (.int .i64 n) := keyOf_int_mk Tryz.underlying3 hw
theorem K64 : Keyed Tryz.prog 3 := int_keyed Tryz.underlying3
abbrev OwnM (w : World) (bm nn : Nat) (D : DataW Value) : Prop := w.ownsMap Tryz.prog 3 hv bm nn D
abbrev FT : Nat := 116
abbrev BT : Nat := 117
abbrev nilS : Value := .slice none 0 0
theorem zeroF (w : World) : (zeroValue 114).run Tryz.prog w = .ok nilS w := by kernel_rfl
theorem zeroB (w : World) : (zeroValue 4).run Tryz.prog w = .ok (.bool false) w := by kernel_rfl
theorem hv_inv {v : Value} {d : DataW Value} {ps : List MemPlace} (h : hv v = some (d, ps)) : d = .held v := by
  unfold hv at h
  injection h with h
  injection h with h1 h2
  exact h1.symm
theorem OwnM.turn {S : Nat → Prop} {w w' : World} {bm nn : Nat} {D : DataW Value} (h : OwnM w bm nn D) (ht : Turn S w w') (hs : ¬ S bm) : OwnM w' bm nn D := by
  obtain ⟨es, clock, hb, r⟩ := h
  exact ⟨es, clock, ht.heap hb hs, r⟩
theorem OwnM.tight {w : World} {bm n : Nat} {L : List (Int × Value)} (h : OwnM w bm n (mOf L)) : OwnM w bm L.length (mOf L) := by
  have hs := mOf_size L
  obtain ⟨es, clock, hb, F, h1, h2⟩ := h
  refine ⟨es, clock, hb, F, ?_, h2⟩
  rw [h2] at hs
  simp [Maps.size, length_sorted] at hs
  omega
theorem OwnM.obj {w : World} {bm nn : Nat} {D : DataW Value} (h : OwnM w bm nn D) : ∃ es clock, w.heap[bm]? = some (.map es clock) := by
  obtain ⟨es, clock, hb, _⟩ := h
  exact ⟨es, clock, hb⟩
theorem look_ok {w : World} {bm nn : Nat} {L : List (Int × Value)} {n : Int} (h : OwnM w bm nn (mOf L)) (hw : (Lit.int .i64 n).wf = true) :
    (Instr.lookup 116 (.map (some bm)) (.int .i64 n) true).run Tryz.prog w = .ok (.tuple #[(findV L n).getD nilS, .bool (findV L n).isSome]) w := by
  obtain ⟨v, ps, hr, hv'⟩ := World.ownsMap.look_ok h K64 Tryz.underlying116 (zeroF w) (zd := .held nilS) (zp := []) rfl (k64 hw)
  rw [hr, mOf_has]
  have := hv_inv hv'
  rw [mOf_at] at this
  cases hf : findV L n with
  | none => rw [hf] at this; rw [← DataW.held.inj this]; rfl
  | some u => rw [hf] at this; rw [← DataW.held.inj this]; rfl
theorem look_v {w : World} {bm nn : Nat} {L : List (Int × Value)} {n : Int} (h : OwnM w bm nn (mOf L)) (hw : (Lit.int .i64 n).wf = true) :
    (Instr.lookup 116 (.map (some bm)) (.int .i64 n) false).run Tryz.prog w = .ok ((findV L n).getD nilS) w := by
  obtain ⟨v, ps, hr, hv'⟩ := World.ownsMap.lookup h K64 Tryz.underlying116 (zeroF w) (zd := .held nilS) (zp := []) rfl (k64 hw)
  rw [hr]
  have := hv_inv hv'
  rw [mOf_at] at this
  cases hf : findV L n with
  | none => rw [hf] at this; rw [← DataW.held.inj this]; rfl
  | some u => rw [hf] at this; rw [← DataW.held.inj this]; rfl
/-- The faults: a map that tells of each number whether it is one. -/
def Flt (w : World) (bf : Nat) (F : List Int) : Prop := ∃ nn D, OwnM w bf nn D ∧ nn ≤ F.length ∧ ∀ n : Int, D.atKey (.int .i64 n) (.held (.bool false)) = .held (.bool (F.contains n))
theorem Flt.turn {S : Nat → Prop} {w w' : World} {bf : Nat} {F : List Int} (h : Flt w bf F) (ht : Turn S w w') (hs : ¬ S bf) : Flt w' bf F := by
  obtain ⟨nn, D, h1, h2⟩ := h
  exact ⟨nn, D, h1.turn ht hs, h2⟩
theorem Flt.look {w : World} {bf : Nat} {F : List Int} (h : Flt w bf F) {n : Int} (hw : (Lit.int .i64 n).wf = true) :
    (Instr.lookup 117 (.map (some bf)) (.int .i64 n) false).run Tryz.prog w = .ok (.bool (F.contains n)) w := by
  obtain ⟨nn, D, h1, _, h2⟩ := h
  obtain ⟨v, ps, hr, hv'⟩ := World.ownsMap.lookup h1 K64 Tryz.underlying117 (zeroB w) (zd := .held (.bool false)) (zp := []) rfl (k64 hw)
  have := hv_inv hv'
  rw [h2] at this
  rw [hr, ← DataW.held.inj this]

abbrev dskObj (bm bf : Nat) (R : Int) (s : Ds) : Obj := .cells #[.map (some bm), .int .i64 R, .int .i64 s.made, .int .i64 s.deeds, .map (some bf), .int .i64 s.reads, .int .i64 s.writes, .int .i64 s.used, .int .i64 s.peak] 119 (0, 0)
abbrev pgc (l : List Pg) : List Value := l.flatten.map (Value.int .u8)
/-- The disk at block bd, its map at bm, its faults at bf; V: the rows of pages. -/
structure Dsk (w : World) (bd bm bf : Nat) (V : Int → Value) (R : Int) (F : List Int) (s : Ds) : Prop where
  dsk : w.heap[bd]? = some (dskObj bm bf R s)
  map : OwnM w bm s.fs.length (mOf (s.fs.map fun x => (x.1, V x.1)))
  flt : Flt w bf F
  ne : bm ≠ bf
  row : ∀ x ∈ s.fs, w.ownsRow 0 201 256 (V x.1) x.2.length (pgc x.2)
  sep : ∀ x ∈ s.fs, ∀ y ∈ s.fs, ∀ k, (V x.1).ownBlock = some k → (V y.1).ownBlock = some k → x.1 = y.1
def DS (bd bm bf : Nat) (V : Int → Value) (s : Ds) (k : Nat) : Prop := k = bd ∨ k = bm ∨ k = bf ∨ ∃ x ∈ s.fs, (V x.1).ownBlock = some k
theorem Dsk.turn {S : Nat → Prop} {w w' : World} {bd bm bf : Nat} {V : Int → Value} {R : Int} {F : List Int} {s : Ds} (H : Dsk w bd bm bf V R F s) (ht : Turn S w w') (hs : ∀ k, DS bd bm bf V s k → ¬ S k) : Dsk w' bd bm bf V R F s :=
  ⟨ht.heap H.dsk (hs _ (.inl rfl)), H.map.turn ht (hs _ (.inr (.inl rfl))), H.flt.turn ht (hs _ (.inr (.inr (.inl rfl)))), H.ne, fun x hx => own_turn (H.row x hx) ht (fun k hk => hs k (.inr (.inr (.inr ⟨x, hx, hk⟩)))), H.sep⟩
theorem Dsk.lt {w : World} {bd bm bf : Nat} {V : Int → Value} {R : Int} {F : List Int} {s : Ds} (H : Dsk w bd bm bf V R F s) : ∀ k, DS bd bm bf V s k → k < w.heap.size := by
  rintro k (rfl | rfl | rfl | ⟨x, hx, hk⟩)
  · exact lt_of_heap H.dsk
  · exact H.map.lt
  · obtain ⟨nn, D, h1, _⟩ := H.flt
    exact h1.lt
  · exact ((H.row x hx).lt k hk).2
theorem own_obj {w : World} {base : Nat} {e : TypeId} {size n : Nat} {v : Value} {xs : List Value} (h : w.ownsRow base e size v n xs) {k : Nat} (hk : v.ownBlock = some k) : ∃ cs, w.heap[k]? = some (.cells cs e (0, 0)) := by
  rcases h.2 with ⟨rfl, rfl⟩ | ⟨g, cap, cur, rfl, hb, hg, rest⟩
  · simp [Value.ownBlock] at hk
  · have : g = k := by simpa [Value.ownBlock] using hk
    rw [← this]
    exact ⟨cur, hg⟩
theorem Dsk.nes {w : World} {bd bm bf : Nat} {V : Int → Value} {R : Int} {F : List Int} {s : Ds} (H : Dsk w bd bm bf V R F s) : bd ≠ bm ∧ bd ≠ bf ∧ (∀ x ∈ s.fs, ∀ k, (V x.1).ownBlock = some k → k ≠ bd ∧ k ≠ bm ∧ k ≠ bf) := by
  obtain ⟨es, clock, hm⟩ := H.map.obj
  obtain ⟨nn, D, hf, _⟩ := H.flt
  obtain ⟨es2, clock2, hf⟩ := hf.obj
  refine ⟨fun e => ?_, fun e => ?_, fun x hx k hk => ?_⟩
  · have := H.dsk
    rw [e, hm] at this
    cases this
  · have := H.dsk
    rw [e, hf] at this
    cases this
  · obtain ⟨cs, hc⟩ := own_obj (H.row x hx) hk
    refine ⟨fun e => ?_, fun e => ?_, fun e => ?_⟩
    · rw [e, H.dsk] at hc
      injection hc with hc
      injection hc with _ ht
      exact absurd ht (by decide)
    · rw [e, hm] at hc
      cases hc
    · rw [e, hf] at hc
      cases hc
theorem Dsk.cells {w : World} {bd bm bf : Nat} {V : Int → Value} {R : Int} {F : List Int} {s : Ds} (H : Dsk w bd bm bf V R F s) :
    w.cell? ⟨bd, 0, none⟩ = some (.map (some bm)) ∧ w.cell? ⟨bd, 1, none⟩ = some (.int .i64 R) ∧ w.cell? ⟨bd, 2, none⟩ = some (.int .i64 s.made) ∧ w.cell? ⟨bd, 3, none⟩ = some (.int .i64 s.deeds) ∧ w.cell? ⟨bd, 4, none⟩ = some (.map (some bf)) ∧
      w.cell? ⟨bd, 5, none⟩ = some (.int .i64 s.reads) ∧ w.cell? ⟨bd, 6, none⟩ = some (.int .i64 s.writes) ∧ w.cell? ⟨bd, 7, none⟩ = some (.int .i64 s.used) ∧ w.cell? ⟨bd, 8, none⟩ = some (.int .i64 s.peak) ∧ bd < w.heap.size :=
  ⟨cell_of_blk H.dsk 0, cell_of_blk H.dsk 1, cell_of_blk H.dsk 2, cell_of_blk H.dsk 3, cell_of_blk H.dsk 4, cell_of_blk H.dsk 5, cell_of_blk H.dsk 6, cell_of_blk H.dsk 7, cell_of_blk H.dsk 8, lt_of_heap H.dsk⟩
theorem Dsk.frees {w : World} {bd bm bf : Nat} {V : Int → Value} {R : Int} {F : List Int} {s : Ds} (H : Dsk w bd bm bf V R F s) :
    w.frozen? ⟨bd, 2, none⟩ = false ∧ w.frozen? ⟨bd, 3, none⟩ = false ∧ w.frozen? ⟨bd, 5, none⟩ = false ∧ w.frozen? ⟨bd, 6, none⟩ = false ∧ w.frozen? ⟨bd, 7, none⟩ = false ∧ w.frozen? ⟨bd, 8, none⟩ = false :=
  ⟨free_of_blk H.dsk 2, free_of_blk H.dsk 3, free_of_blk H.dsk 5, free_of_blk H.dsk 6, free_of_blk H.dsk 7, free_of_blk H.dsk 8⟩
theorem find_map (V : Int → Value) (s : Ds) (n : Int) : findV (s.fs.map fun x => (x.1, V x.1)) n = (s.find n).map fun _ => V n := by
  unfold findV Ds.find
  rw [List.find?_map, Option.map_map, Option.map_map]
  cases hf : s.fs.find? ((fun x => x.1 == n) ∘ fun x => (x.1, V x.1)) with
  | none =>
    have : (s.fs.find? fun x => x.1 == n) = none := hf
    rw [this]
    rfl
  | some x =>
    have h2 : (s.fs.find? fun x => x.1 == n) = some x := hf
    have : x.1 = n := by simpa using List.find?_some h2
    rw [h2]
    simp [this]
/-- The disk as a thing. -/
def DR (bd : Nat) (R : Int) (F : List Int) (s : Ds) : Res := fun w S => ∃ bm bf V, Dsk w bd bm bf V R F s ∧ S = DS bd bm bf V s
theorem DR_good (bd : Nat) (R : Int) (F : List Int) (s : Ds) : Good (DR bd R F s) := by
  refine ⟨?_, ?_⟩
  · rintro w S ⟨bm, bf, V, h, rfl⟩ k hk
    exact h.lt k hk
  · rintro w w' S T ⟨bm, bf, V, h, rfl⟩ ht hn
    exact ⟨bm, bf, V, h.turn ht hn, rfl⟩
abbrev dp (bd : Nat) : Value := .pointer (some ⟨bd, 0, none⟩)
end Go.Proofs.YtkbapoeilcapfaaGreat

/- a disk's files, sorted: the library's parts. -/
namespace Go.Proofs.YtkbapoeilcapfaaGreat
open Go.RowKit Go.Maps Go.Sort Go.Shelf

def Tryz.keysD_ren : Go.Shelf.Ren := ⟨fun | 7 => 63 | 10 => 97 | n => n, fun | 23 => 116 | 26 => 3 | 3 => 114 | 28 => 123 | 0 => 0 | 27 => 122 | 33 => 166 | 4 => 4 | n => n, fun | n => n⟩
theorem Tryz.keysD : Go.Proofs.SlLaysZI.n7 Tryz.prog Tryz.keysD_ren := {
  mixed := by kernel_rfl
  f7 := ⟨Tryz.f63.name, by decide, Tryz.func63.trans (congrArg some (by kernel_rfl))⟩
  f10 := ⟨Tryz.f97.name, by decide, Tryz.func97.trans (congrArg some (by kernel_rfl))⟩
  t0 := Tryz.underlying0
  a0 := Tryz.isAgg0
  z0 := Tryz.sizeOf0
  v0 := Tryz.zeroValue0
  t4 := Tryz.underlying4
  a4 := Tryz.isAgg4
  z4 := Tryz.sizeOf4
  v4 := Tryz.zeroValue4
  t23 := Tryz.underlying116
  a23 := Tryz.isAgg116
  z23 := Tryz.sizeOf116
  v23 := Tryz.zeroValue116
  t26 := Tryz.underlying3
  a26 := Tryz.isAgg3
  z26 := Tryz.sizeOf3
  v26 := Tryz.zeroValue3
  t27 := Tryz.underlying122
  a27 := Tryz.isAgg122
  z27 := Tryz.sizeOf122
  v27 := Tryz.zeroValue122
  t28 := Tryz.underlying123
  a28 := Tryz.isAgg123
  z28 := Tryz.sizeOf123
  v28 := Tryz.zeroValue123
  t33 := Tryz.underlying166
  a33 := Tryz.isAgg166
  z33 := Tryz.sizeOf166
  v33 := Tryz.zeroValue166 }
def Tryz.sortedD_ren : Go.Shelf.Ren := ⟨fun | 6 => 62 | 8 => 95 | 9 => 96 | 11 => 120 | 13 => 122 | 12 => 121 | 23 => 145 | 24 => 146 | 14 => 136 | 15 => 137 | 16 => 138 | 17 => 139 | 18 => 140 | 19 => 141 | 20 => 142 | 21 => 143 | 22 => 144 | 25 => 154 | 26 => 155 | 27 => 156 | 28 => 157 | 29 => 158 | 30 => 159 | 31 => 166 | n => n, fun | 26 => 3 | 28 => 123 | 24 => 22 | 0 => 0 | 3 => 3 | 37 => 178 | 48 => 213 | 50 => 71 | 4 => 4 | 40 => 206 | 39 => 205 | 45 => 210 | 5 => 5 | 9 => 9 | 51 => 222 | 55 => 226 | 57 => 234 | 58 => 235 | 33 => 166 | n => n, fun | n => n⟩
theorem Tryz.sortedD : Go.Proofs.SlLaysZI.n6 Tryz.prog Tryz.sortedD_ren := {
  mixed := by kernel_rfl
  f6 := ⟨Tryz.f62.name, by decide, Tryz.func62.trans (congrArg some (by kernel_rfl))⟩
  f8 := ⟨Tryz.f95.name, by decide, Tryz.func95.trans (congrArg some (by kernel_rfl))⟩
  f11 := ⟨Tryz.f120.name, by decide, Tryz.func120.trans (congrArg some (by kernel_rfl))⟩
  t0 := Tryz.underlying0
  a0 := Tryz.isAgg0
  z0 := Tryz.sizeOf0
  v0 := Tryz.zeroValue0
  t24 := Tryz.underlying22
  a24 := Tryz.isAgg22
  z24 := Tryz.sizeOf22
  v24 := Tryz.zeroValue22
  t26 := Tryz.underlying3
  a26 := Tryz.isAgg3
  z26 := Tryz.sizeOf3
  v26 := Tryz.zeroValue3
  t28 := Tryz.underlying123
  a28 := Tryz.isAgg123
  z28 := Tryz.sizeOf123
  v28 := Tryz.zeroValue123
  i26 := by kernel_rfl }
def Tryz.sortD_ren : Go.Shelf.Ren := ⟨fun | 5 => 96 | 8 => 122 | 7 => 121 | 19 => 145 | 20 => 146 | 10 => 136 | 11 => 137 | 12 => 138 | 13 => 139 | 14 => 140 | 15 => 141 | 16 => 142 | 17 => 143 | 18 => 144 | 30 => 154 | 31 => 155 | 32 => 156 | 33 => 157 | 34 => 158 | 35 => 159 | 40 => 166 | n => n, fun | 23 => 22 | 25 => 3 | 3 => 3 | 32 => 178 | 22 => 22 | 0 => 0 | 44 => 213 | 46 => 71 | 4 => 4 | 36 => 206 | 35 => 205 | 41 => 210 | 5 => 5 | 9 => 9 | 53 => 222 | 57 => 226 | 63 => 234 | 64 => 235 | n => n, fun | n => n⟩
theorem Tryz.sortD : Go.Proofs.SlLaysM.n5 Tryz.prog Tryz.sortD_ren := {
  mixed := by kernel_rfl
  f5 := ⟨Tryz.f96.name, by decide, Tryz.func96.trans (congrArg some (by kernel_rfl))⟩
  f7 := ⟨Tryz.f121.name, by decide, Tryz.func121.trans (congrArg some (by kernel_rfl))⟩
  f8 := Tryz.func122.trans (congrArg some (by kernel_rfl))
  f10 := ⟨Tryz.f136.name, by decide, Tryz.func136.trans (congrArg some (by kernel_rfl))⟩
  f11 := ⟨Tryz.f137.name, by decide, Tryz.func137.trans (congrArg some (by kernel_rfl))⟩
  f12 := ⟨Tryz.f138.name, by decide, Tryz.func138.trans (congrArg some (by kernel_rfl))⟩
  f13 := ⟨Tryz.f139.name, by decide, Tryz.func139.trans (congrArg some (by kernel_rfl))⟩
  f14 := ⟨Tryz.f140.name, by decide, Tryz.func140.trans (congrArg some (by kernel_rfl))⟩
  f15 := ⟨Tryz.f141.name, by decide, Tryz.func141.trans (congrArg some (by kernel_rfl))⟩
  f16 := ⟨Tryz.f142.name, by decide, Tryz.func142.trans (congrArg some (by kernel_rfl))⟩
  f17 := ⟨Tryz.f143.name, by decide, Tryz.func143.trans (congrArg some (by kernel_rfl))⟩
  f18 := ⟨Tryz.f144.name, by decide, Tryz.func144.trans (congrArg some (by kernel_rfl))⟩
  f19 := Tryz.func145.trans (congrArg some (by kernel_rfl))
  f20 := Tryz.func146.trans (congrArg some (by kernel_rfl))
  f30 := ⟨Tryz.f154.name, by decide, Tryz.func154.trans (congrArg some (by kernel_rfl))⟩
  f31 := Tryz.func155.trans (congrArg some (by kernel_rfl))
  f32 := Tryz.func156.trans (congrArg some (by kernel_rfl))
  f33 := ⟨Tryz.f157.name, by decide, Tryz.func157.trans (congrArg some (by kernel_rfl))⟩
  f34 := ⟨Tryz.f158.name, by decide, Tryz.func158.trans (congrArg some (by kernel_rfl))⟩
  f35 := ⟨Tryz.f159.name, by decide, Tryz.func159.trans (congrArg some (by kernel_rfl))⟩
  f40 := ⟨Tryz.f166.name, by decide, Tryz.func166.trans (congrArg some (by kernel_rfl))⟩
  t0 := Tryz.underlying0
  a0 := Tryz.isAgg0
  z0 := Tryz.sizeOf0
  v0 := Tryz.zeroValue0
  t3 := Tryz.underlying3
  a3 := Tryz.isAgg3
  z3 := Tryz.sizeOf3
  v3 := Tryz.zeroValue3
  t4 := Tryz.underlying4
  a4 := Tryz.isAgg4
  z4 := Tryz.sizeOf4
  v4 := Tryz.zeroValue4
  t5 := Tryz.underlying5
  a5 := Tryz.isAgg5
  z5 := Tryz.sizeOf5
  v5 := Tryz.zeroValue5
  t9 := Tryz.underlying9
  a9 := Tryz.isAgg9
  z9 := Tryz.sizeOf9
  v9 := Tryz.zeroValue9
  t22 := Tryz.underlying22
  a22 := Tryz.isAgg22
  z22 := Tryz.sizeOf22
  v22 := Tryz.zeroValue22
  t23 := Tryz.underlying22
  a23 := Tryz.isAgg22
  z23 := Tryz.sizeOf22
  v23 := Tryz.zeroValue22
  t25 := Tryz.underlying3
  a25 := Tryz.isAgg3
  z25 := Tryz.sizeOf3
  v25 := Tryz.zeroValue3
  t32 := Tryz.underlying178
  a32 := Tryz.isAgg178
  z32 := Tryz.sizeOf178
  v32 := Tryz.zeroValue178
  t35 := Tryz.underlying205
  a35 := Tryz.isAgg205
  z35 := Tryz.sizeOf205
  v35 := Tryz.zeroValue205
  t36 := Tryz.underlying206
  a36 := Tryz.isAgg206
  z36 := Tryz.sizeOf206
  v36 := Tryz.zeroValue206
  t41 := Tryz.underlying210
  a41 := Tryz.isAgg210
  z41 := Tryz.sizeOf210
  v41 := Tryz.zeroValue210
  t44 := Tryz.underlying213
  a44 := Tryz.isAgg213
  z44 := Tryz.sizeOf213
  v44 := Tryz.zeroValue213
  t46 := Tryz.underlying71
  a46 := Tryz.isAgg71
  z46 := Tryz.sizeOf71
  v46 := Tryz.zeroValue71
  t53 := Tryz.underlying222
  a53 := Tryz.isAgg222
  z53 := Tryz.sizeOf222
  v53 := Tryz.zeroValue222
  t57 := Tryz.underlying226
  a57 := Tryz.isAgg226
  z57 := Tryz.sizeOf226
  v57 := Tryz.zeroValue226
  t63 := Tryz.underlying234
  a63 := Tryz.isAgg234
  z63 := Tryz.sizeOf234
  v63 := Tryz.zeroValue234
  t64 := Tryz.underlying235
  a64 := Tryz.isAgg235
  z64 := Tryz.sizeOf235
  v64 := Tryz.zeroValue235 }
end Go.Proofs.YtkbapoeilcapfaaGreat

/- the disk: ready, deed, Size, Deeds, Meter, Create. -/
namespace Go.Proofs.YtkbapoeilcapfaaGreat
open Go.RowKit Go.Maps
set_option linter.unusedVariables false
set_option linter.unusedSimpArgs false

theorem Turn.cell {S : Nat → Prop} {w w' : World} (h : Turn S w w') (b i : Nat) (u : Value) (hb : S b) : Turn S w (w'.setCell ⟨b, i, none⟩ u) := h.setCell (p := ⟨b, i, none⟩) (.inl hb) u
theorem neqMapD (bm : Nat) (w : World) : (binOp .neq 116 (.map (some bm)) (.map none)).run Tryz.prog w = .ok (.bool true) w := by kernel_rfl
theorem dready_nil (w : World) : Calls Tryz.prog 56 #[.pointer none] w fun e w' => e = .returned (.bool false) ∧ w' = w := by
  go_enter Tryz.func56, Tryz.ntmps56
  go_wp2
  go_ret
  exact ⟨rfl, rfl⟩
section
variable {w : World} {bd bm bf : Nat} {V : Int → Value} {R : Int} {F : List Int} {s : Ds}
theorem dready (H : Dsk w bd bm bf V R F s) : Calls Tryz.prog 56 #[dp bd] w fun e w' => e = .returned (.bool true) ∧ w' = w := by
  obtain ⟨c0, c1, c2, c3, c4, c5, c6, c7, c8, hb⟩ := H.cells
  have hn := neqMapD bm w
  clear H
  go_enter Tryz.func56, Tryz.ntmps56
  go_wp2
  go_ret
  exact ⟨rfl, rfl⟩
/-- Numbers of the disk have turned. -/
theorem Dsk.upd {w' : World} {s' : Ds} (H : Dsk w bd bm bf V R F s) (ht : Turn (fun k => k = bd) w w') (ho : w'.heap[bd]? = some (dskObj bm bf R s')) (hf : s'.fs = s.fs) : Dsk w' bd bm bf V R F s' := by
  obtain ⟨n1, n2, n3⟩ := H.nes
  refine ⟨ho, ?_, H.flt.turn ht (fun e => n2 e.symm), H.ne, ?_, ?_⟩
  · rw [hf]
    exact H.map.turn ht (fun e => n1 e.symm)
  · rw [hf]
    exact fun x hx => own_turn (H.row x hx) ht (fun k hk => (n3 x hx k hk).1)
  · rw [hf]
    exact H.sep
def DeedP (w : World) (bd bm bf : Nat) (V : Int → Value) (R : Int) (F : List Int) (s : Ds) (w' : World) : Prop :=
  Dsk w' bd bm bf V R F s.deed_ ∧ Turn (fun k => k = bd) w w'
theorem deed_post (H : Dsk w bd bm bf V R F s) (m : Nat) : DeedP w bd bm bf V R F s ((w.setCell ⟨bd, 3, none⟩ (.int .i64 (s.deeds + 1))).drewN m) := by
  have ht : Turn (fun k => k = bd) w ((w.setCell ⟨bd, 3, none⟩ (.int .i64 (s.deeds + 1))).drewN m) := ((Turn.refl (fun k => k = bd) w).cell bd 3 _ rfl).drewN m
  exact ⟨H.upd ht (blk_set H.dsk 3 _) rfl, ht⟩
set_option maxRecDepth 6000 in
theorem deed_walk (H : Dsk w bd bm bf V R F s) (h0 : 0 ≤ s.deeds) (h1 : s.deeds ≤ 1000000000) :
    Calls Tryz.prog 134 #[dp bd] w fun e w' => e = .returned (.int .i64 (if F.contains (s.deeds + 1) then 50 else 0)) ∧ DeedP w bd bm bf V R F s w' := by
  have hp := fun m => deed_post H m
  obtain ⟨c0, c1, c2, c3, c4, c5, c6, c7, c8, hb⟩ := H.cells
  obtain ⟨f2, f3, _⟩ := H.frees
  have HT : Turn (fun k => k = bd) w (w.setCell ⟨bd, 3, none⟩ (.int .i64 (s.deeds + 1))) := (Turn.refl (fun k => k = bd) w).cell bd 3 _ rfl
  have hl := fun m => Flt.look (H.flt.turn (HT.drewN m) (fun e => H.nes.2.1 e.symm)) (n := s.deeds + 1) (WalkArith.wf_i64 (by omega))
  have hl0 := hl 1
  have HP := Lib.hid (show DeedP w bd bm bf V R F s (w.setCell ⟨bd, 3, none⟩ (.int .i64 (s.deeds + 1))).drew from hp 1)
  obtain ⟨b, hbb⟩ : ∃ b, b = F.contains (s.deeds + 1) := ⟨_, rfl⟩
  rw [← hbb] at hl0 ⊢
  have hl1 : (Instr.lookup 117 (.map (some bf)) (.int .i64 (s.deeds + 1)) false).run Tryz.prog (w.setCell ⟨bd, 3, none⟩ (.int .i64 (s.deeds + 1))).drew = .ok (.bool b) (w.setCell ⟨bd, 3, none⟩ (.int .i64 (s.deeds + 1))).drew := hl0
  clear hl hl0 hp H HT hbb
  cases b with
  | false =>
    go_enter Tryz.func134, Tryz.ntmps134
    go_wp2
    go_region
    all_goals
      go_wp2
      go_ret
      exact ⟨by trivial, HP.out⟩
  | true =>
    go_enter Tryz.func134, Tryz.ntmps134
    go_wp2
    go_region
    all_goals
      go_wp2
      go_ret
      exact ⟨by trivial, HP.out⟩
end
end Go.Proofs.YtkbapoeilcapfaaGreat

/- the disk: Size, Deeds, Meter, Create, Delete. -/
namespace Go.Proofs.YtkbapoeilcapfaaGreat
open Go.RowKit Go.Maps
set_option linter.unusedVariables false
set_option linter.unusedSimpArgs false
set_option maxRecDepth 6000

section
variable {w : World} {bd bm bf : Nat} {V : Int → Value} {R : Int} {F : List Int} {s : Ds}
theorem dlook_no (H : Dsk w bd bm bf V R F s) {n : Int} (hw : (Lit.int .i64 n).wf = true) (hf : s.find n = none) :
    (Instr.lookup 116 (.map (some bm)) (.int .i64 n) true).run Tryz.prog w = .ok (.tuple #[.slice none 0 0, .bool false]) w := by
  have := look_ok H.map hw
  rw [find_map, hf] at this
  exact this
theorem dlook_yes (H : Dsk w bd bm bf V R F s) {n : Int} (hw : (Lit.int .i64 n).wf = true) {l : List Pg} (hf : s.find n = some l) :
    ∃ A c, V n = .slice A l.length c ∧ (Instr.lookup 116 (.map (some bm)) (.int .i64 n) true).run Tryz.prog w = .ok (.tuple #[.slice A l.length c, .bool true]) w ∧ (Instr.lookup 116 (.map (some bm)) (.int .i64 n) false).run Tryz.prog w = .ok (.slice A l.length c) w := by
  have h1 := look_ok H.map hw
  have h2 := look_v H.map hw
  rw [find_map, hf] at h1 h2
  obtain ⟨A, c, e⟩ := own_slice (H.row _ (Ds.find_mem hf))
  dsimp only at e
  simp only [Option.map_some, Option.getD_some, Option.isSome_some] at h1 h2
  rw [e] at h1 h2
  exact ⟨A, c, e, h1, h2⟩
theorem dsize_no (H : Dsk w bd bm bf V R F s) {n : Int} (hw : (Lit.int .i64 n).wf = true) (hf : s.find n = none) :
    Calls Tryz.prog 19 #[dp bd, .int .i64 n] w fun e w' => e = .returned (.tuple #[.int .i64 0, .int .i64 4]) ∧ w' = w := by
  have HR := Lib.hid (dready H)
  have hrun := dlook_no H hw hf
  obtain ⟨c0, c1, c2, c3, c4, c5, c6, c7, c8, hb⟩ := H.cells
  clear H hf
  go_enter Tryz.func19, Tryz.ntmps19
  go_wp2_with (go_at_call 56; refine HR.out.mono ?_; rintro e w1 ⟨rfl, hw⟩; obtain rfl := hw.symm; clear hw)
  go_ret2
  exact ⟨by trivial, rfl⟩
theorem dsize_yes (H : Dsk w bd bm bf V R F s) {n : Int} (hw : (Lit.int .i64 n).wf = true) {l : List Pg} (hf : s.find n = some l) :
    Calls Tryz.prog 19 #[dp bd, .int .i64 n] w fun e w' => e = .returned (.tuple #[.int .i64 (l.length : Int), .int .i64 0]) ∧ w' = w := by
  have HR := Lib.hid (dready H)
  obtain ⟨A, c, _, hrun, _⟩ := dlook_yes H hw hf
  obtain ⟨c0, c1, c2, c3, c4, c5, c6, c7, c8, hb⟩ := H.cells
  clear H hf
  go_enter Tryz.func19, Tryz.ntmps19
  go_wp2_with (go_at_call 56; refine HR.out.mono ?_; rintro e w1 ⟨rfl, hw⟩; obtain rfl := hw.symm; clear hw)
  go_ret2
  exact ⟨by trivial, rfl⟩
theorem dcreate_full (H : Dsk w bd bm bf V R F s) (h : 32768 ≤ s.fs.length) : Calls Tryz.prog 74 #[dp bd] w fun e w' => e = .returned (.tuple #[.int .i64 0, .int .i64 2]) ∧ w' = w := by
  have HR := Lib.hid (dready H)
  have hlen := World.ownsMap.len (w := w) H.map Tryz.underlying116 3
  rw [mOf_size, List.length_map] at hlen
  obtain ⟨c0, c1, c2, c3, c4, c5, c6, c7, c8, hb⟩ := H.cells
  obtain ⟨m, hm⟩ : ∃ m, m = s.fs.length := ⟨_, rfl⟩
  rw [← hm] at hlen h
  have h' : decide ((m : Int) ≥ 32768) = true := by simp; omega
  clear H hm h
  go_enter Tryz.func74, Tryz.ntmps74
  go_wp2_with (go_at_call 56; refine HR.out.mono ?_; rintro e w1 ⟨rfl, hw⟩; obtain rfl := hw.symm; clear hw)
  go_ret2
  exact ⟨by trivial, rfl⟩
end
end Go.Proofs.YtkbapoeilcapfaaGreat

/- the disk: Create, Delete, New. -/
namespace Go.Proofs.YtkbapoeilcapfaaGreat
open Go.RowKit Go.Maps
set_option linter.unusedVariables false
set_option linter.unusedSimpArgs false
set_option maxRecDepth 6000

section
variable {w : World} {bd bm bf : Nat} {V : Int → Value} {R : Int} {F : List Int} {s : Ds}
theorem Dsk.ch {w' : World} {V' : Int → Value} {s' : Ds} (H : Dsk w' bd bm bf V' R F s') (ht : Turn (DS bd bm bf V s) w w') (hs : ∀ k, DS bd bm bf V' s' k → DS bd bm bf V s k ∨ w.heap.size ≤ k) : Ch w (DS bd bm bf V s) (DR bd R F s') w' :=
  ⟨DS bd bm bf V' s', ⟨bm, bf, V', H, rfl⟩, ht, hs⟩
theorem Dsk.ch_same {w' : World} (H : Dsk w bd bm bf V R F s) (b : Below w.heap.size w w') : Ch w (DS bd bm bf V s) (DR bd R F s) w' := Ch.same (DR_good bd R F s) ⟨bm, bf, V, H, rfl⟩ b
/-- A file more. -/
theorem Dsk.newFile {w' : World} (H : Dsk w bd bm bf V R F s) (hnum : ∀ x ∈ s.fs, x.1 ≤ s.made) (ht : Turn (fun k => k = bd ∨ k = bm) w w')
    (ho : w'.heap[bd]? = some (dskObj bm bf R ⟨s.made + 1, s.deeds, s.reads, s.writes, s.used, s.peak, s.fs ++ [(s.made + 1, [])]⟩)) (hm : OwnM w' bm (s.fs.length + 1) (mOf ((s.fs.map fun x => (x.1, V x.1)) ++ [(s.made + 1, nilS)]))) :
    Ch w (DS bd bm bf V s) (DR bd R F ⟨s.made + 1, s.deeds, s.reads, s.writes, s.used, s.peak, s.fs ++ [(s.made + 1, [])]⟩) w' := by
  obtain ⟨n1, n2, n3⟩ := H.nes
  have hV : ∀ x ∈ s.fs, (if x.1 = s.made + 1 then nilS else V x.1) = V x.1 := fun x hx => if_neg (by have := hnum x hx; omega)
  refine Dsk.ch (V' := fun n => if n = s.made + 1 then nilS else V n) ⟨ho, ?_, H.flt.turn ht (fun e => e.elim (fun e => n2 e.symm) (fun e => H.ne e.symm)), H.ne, ?_, ?_⟩ (ht.mono fun k hk => hk.elim .inl (fun h => .inr (.inl h))) ?_
  · have e : ((s.fs ++ [(s.made + 1, ([] : List Pg))]).map fun x => (x.1, if x.1 = s.made + 1 then nilS else V x.1)) = (s.fs.map fun x => (x.1, V x.1)) ++ [(s.made + 1, nilS)] := by
      rw [List.map_append]
      congr 1
      · exact List.map_congr_left fun x hx => by rw [hV x hx]
      · simp
    dsimp only
    rw [e, List.length_append]
    exact hm
  · intro x hx
    rcases List.mem_append.1 hx with hx | hx
    · rw [hV x hx]
      exact own_turn (H.row x hx) ht (fun k hk e => e.elim (n3 x hx k hk).1 (n3 x hx k hk).2.1)
    · obtain rfl := List.mem_singleton.1 hx
      rw [if_pos rfl]
      exact ⟨rfl, .inl ⟨rfl, rfl⟩⟩
  · intro x hx y hy k hk hl
    rcases List.mem_append.1 hx with hx | hx
    · rcases List.mem_append.1 hy with hy | hy
      · rw [hV x hx] at hk
        rw [hV y hy] at hl
        exact H.sep x hx y hy k hk hl
      · obtain rfl := List.mem_singleton.1 hy
        rw [if_pos rfl] at hl
        simp [Value.ownBlock] at hl
    · obtain rfl := List.mem_singleton.1 hx
      rw [if_pos rfl] at hk
      simp [Value.ownBlock] at hk
  · rintro k (rfl | rfl | rfl | ⟨x, hx, hk⟩)
    · exact .inl (.inl rfl)
    · exact .inl (.inr (.inl rfl))
    · exact .inl (.inr (.inr (.inl rfl)))
    · dsimp only at hk hx
      rcases List.mem_append.1 hx with hx | hx
      · rw [hV x hx] at hk
        exact .inl (.inr (.inr (.inr ⟨x, hx, hk⟩)))
      · obtain rfl := List.mem_singleton.1 hx
        rw [if_pos rfl] at hk
        simp [Value.ownBlock] at hk
theorem dcreate_ok (H : Dsk w bd bm bf V R F s) (h : s.fs.length < 32768) (h0 : 0 ≤ s.made) (h1 : s.made ≤ 1000000000) (hnum : ∀ x ∈ s.fs, x.1 ≤ s.made) :
    Calls Tryz.prog 74 #[dp bd] w fun e w' => e = .returned (.tuple #[.int .i64 (s.made + 1), .int .i64 0]) ∧ Ch w (DS bd bm bf V s) (DR bd R F ⟨s.made + 1, s.deeds, s.reads, s.writes, s.used, s.peak, s.fs ++ [(s.made + 1, [])]⟩) w' := by
  have HR := Lib.hid (dready H)
  have hlen := World.ownsMap.len (w := w) H.map Tryz.underlying116 3
  rw [mOf_size, List.length_map] at hlen
  obtain ⟨c0, c1, c2, c3, c4, c5, c6, c7, c8, hb⟩ := H.cells
  obtain ⟨f2, _⟩ := H.frees
  obtain ⟨n1, n2, n3⟩ := H.nes
  have hT : Turn (fun k => k = bd ∨ k = bm) w (w.setCell ⟨bd, 2, none⟩ (.int .i64 (s.made + 1))).drew := ((Turn.refl (fun k => k = bd ∨ k = bm) w).cell bd 2 _ (.inl rfl)).drew
  have hM : OwnM (w.setCell ⟨bd, 2, none⟩ (.int .i64 (s.made + 1))).drew bm s.fs.length (mOf (s.fs.map fun x => (x.1, V x.1))) := World.ownsMap.drew (World.ownsMap.setCell H.map (fun e => n1 e.symm) _)
  have hO : (w.setCell ⟨bd, 2, none⟩ (.int .i64 (s.made + 1))).drew.heap[bd]? = some (dskObj bm bf R ⟨s.made + 1, s.deeds, s.reads, s.writes, s.used, s.peak, s.fs ++ [(s.made + 1, [])]⟩) := blk_set H.dsk 2 _
  obtain ⟨w5, hrun, hown5, hturn5⟩ := World.ownsMap.store hM K64 Tryz.underlying116 (by simp only [maxLen]; omega) (k64 (n := s.made + 1) (WalkArith.wf_i64 (by omega))) (val := nilS) (d := .held nilS) (ps := []) rfl
  have hT2 : Turn (fun k => k = bm) (w.setCell ⟨bd, 2, none⟩ (.int .i64 (s.made + 1))).drew w5 := (Turn.refl _ _).grown hturn5.grown (fun k hk => .inl (by injection hk with hk; exact hk.symm))
  have hO5 := hT2.heap hO n1
  have l52 : w5.cell? ⟨bd, 2, none⟩ = some (.int .i64 (s.made + 1)) := cell_of_blk hO5 2
  rw [mOf_put_new _ _ _ (fun x hx => by obtain ⟨y, hy, rfl⟩ := List.mem_map.1 hx; have := hnum y hy; dsimp only; omega)] at hown5
  have HP := Lib.hid (H.newFile hnum (hT.then_ hT2 (fun k hk => .inl (.inr hk))) hO5 hown5)
  obtain ⟨m, hm⟩ : ∃ m, m = s.fs.length := ⟨_, rfl⟩
  rw [← hm] at hlen h
  have h' : decide ((m : Int) ≥ 32768) = false := by simp; omega
  clear H hm h hT hM hO hown5 hturn5 hT2 hO5 hnum
  go_enter Tryz.func74, Tryz.ntmps74
  go_wp2_with (go_at_call 56; refine HR.out.mono ?_; rintro e w1 ⟨rfl, hw⟩; obtain rfl := hw.symm; clear hw)
  go_region
  all_goals go_wp2
  all_goals go_ret2
  all_goals exact ⟨by trivial, HP.out⟩
theorem Dsk.delFile {w' : World} {n : Int} {l : List Pg} (H : Dsk w bd bm bf V R F s) (hf : s.find n = some l) (ht : Turn (fun k => k = bd ∨ k = bm) w w')
    (ho : w'.heap[bd]? = some (dskObj bm bf R (s.del n))) (hm : OwnM w' bm s.fs.length (mOf ((s.fs.map fun x => (x.1, V x.1)).filter fun x => !(x.1 == n)))) :
    Ch w (DS bd bm bf V s) (DR bd R F (s.del n)) w' := by
  obtain ⟨n1, n2, n3⟩ := H.nes
  have hfs : (s.del n).fs = s.fs.filter fun x => !(x.1 == n) := by unfold Ds.del; rw [hf]
  have hmem : ∀ x ∈ (s.del n).fs, x ∈ s.fs := fun x hx => by rw [hfs] at hx; exact (List.mem_filter.1 hx).1
  refine Dsk.ch (V' := V) ⟨ho, ?_, H.flt.turn ht (fun e => e.elim (fun e => n2 e.symm) (fun e => H.ne e.symm)), H.ne, ?_, ?_⟩ (ht.mono fun k hk => hk.elim .inl (fun h => .inr (.inl h))) ?_
  · have e : (s.del n).fs.map (fun x => (x.1, V x.1)) = (s.fs.map fun x => (x.1, V x.1)).filter fun x => !(x.1 == n) := by
      rw [hfs, List.filter_map]
      rfl
    rw [← e] at hm
    have := hm.tight
    rw [List.length_map] at this
    rw [e] at this ⊢
    exact this
  · intro x hx
    exact own_turn (H.row x (hmem x hx)) ht (fun k hk e => e.elim (n3 x (hmem x hx) k hk).1 (n3 x (hmem x hx) k hk).2.1)
  · intro x hx y hy
    exact H.sep x (hmem x hx) y (hmem y hy)
  · rintro k (rfl | rfl | rfl | ⟨x, hx, hk⟩)
    · exact .inl (.inl rfl)
    · exact .inl (.inr (.inl rfl))
    · exact .inl (.inr (.inr (.inl rfl)))
    · exact .inl (.inr (.inr (.inr ⟨x, hmem x hx, hk⟩)))
theorem ddel_no (H : Dsk w bd bm bf V R F s) {n : Int} (hw : (Lit.int .i64 n).wf = true) (hf : s.find n = none) :
    Calls Tryz.prog 57 #[dp bd, .int .i64 n] w fun e w' => e = .returned (.int .i64 4) ∧ w' = w := by
  have HR := Lib.hid (dready H)
  have hrun := dlook_no H hw hf
  obtain ⟨c0, c1, c2, c3, c4, c5, c6, c7, c8, hb⟩ := H.cells
  clear H hf
  go_enter Tryz.func57, Tryz.ntmps57
  go_wp2_with (go_at_call 56; refine HR.out.mono ?_; rintro e w1 ⟨rfl, hw⟩; obtain rfl := hw.symm; clear hw)
  go_ret
  exact ⟨by trivial, rfl⟩
theorem ddel_yes (H : Dsk w bd bm bf V R F s) (K : DOk R s) {n : Int} (hw : (Lit.int .i64 n).wf = true) {l : List Pg} (hf : s.find n = some l) :
    Calls Tryz.prog 57 #[dp bd, .int .i64 n] w fun e w' => e = .returned (.int .i64 0) ∧ Ch w (DS bd bm bf V s) (DR bd R F (s.del n)) w' := by
  have HR := Lib.hid (dready H)
  obtain ⟨A, c, _, hrun, _⟩ := dlook_yes H hw hf
  obtain ⟨c0, c1, c2, c3, c4, c5, c6, c7, c8, hb⟩ := H.cells
  obtain ⟨f2, f3, f5, f6, f7, f8⟩ := H.frees
  obtain ⟨n1, n2, n3⟩ := H.nes
  have hu1 := K.used
  have hr := K.room
  have hpg := pagesN_mem (Ds.find_mem hf)
  rw [← K.cnt] at hpg
  dsimp only at hpg
  have hT : Turn (fun k => k = bd ∨ k = bm) w (w.setCell ⟨bd, 7, none⟩ (.int .i64 (s.used - l.length))) := (Turn.refl (fun k => k = bd ∨ k = bm) w).cell bd 7 _ (.inl rfl)
  have hM : OwnM (w.setCell ⟨bd, 7, none⟩ (.int .i64 (s.used - l.length))) bm s.fs.length (mOf (s.fs.map fun x => (x.1, V x.1))) := World.ownsMap.setCell H.map (fun e => n1 e.symm) _
  have hO : (w.setCell ⟨bd, 7, none⟩ (.int .i64 (s.used - l.length))).heap[bd]? = some (dskObj bm bf R (s.del n)) := by
    unfold Ds.del
    rw [hf]
    exact blk_set H.dsk 7 _
  have HM := Lib.hid hM
  have HP := Lib.hid (fun w' ht h1 h2 => H.delFile (w' := w') hf ht h1 h2)
  have HT := Lib.hid hT
  have HO := Lib.hid hO
  have hkey := k64 hw
  have hcn : 0 ≤ s.used := by omega
  obtain ⟨m, hm⟩ : ∃ m, m = l.length := ⟨_, rfl⟩
  rw [← hm] at hrun hpg HM HT HO
  clear H hf hT hM hO hm K
  go_enter Tryz.func57, Tryz.ntmps57
  go_wp2_with (first
    | (go_at_call 56; refine HR.out.mono ?_; rintro e w1 ⟨rfl, hw⟩; obtain rfl := hw.symm; clear hw)
    | (at_delete; refine wpList_delete_own _ rfl _ _ 116 3 rfl 114 K64 Tryz.underlying116 hv bm s.fs.length _ rfl HM.out _ _ rfl hkey ?_; intro w8 hown8 hturn8))
  go_ret
  rw [mOf_del] at hown8
  have ht2 : Turn (fun k => k = bm) (w.setCell ⟨bd, 7, none⟩ (.int .i64 (s.used - m))) w8 := (Turn.refl _ _).grown hturn8.grown (fun k hk => .inl (by injection hk with hk; exact hk.symm))
  exact ⟨by trivial, HP.out _ (HT.out.then_ ht2 (fun k hk => .inl (.inr hk))) (ht2.heap HO.out n1) hown8⟩
theorem dnew_no {w : World} {g : Int} {A : Option Addr} {k c : Nat} (h : g < 0 ∨ 16384 < g) : Calls Tryz.prog 45 #[.int .i64 g, .slice A k c] w fun e w' => e = .returned (.tuple #[.pointer none, .int .i64 1]) ∧ w' = w := by
  by_cases h1 : g < 0
  · clear h
    go_enter Tryz.func45, Tryz.ntmps45
    go_wp2
    go_ret2
    exact ⟨by trivial, rfl⟩
  · have h2 : 16384 < g := by omega
    clear h
    go_enter Tryz.func45, Tryz.ntmps45
    go_wp2
    go_ret2
    exact ⟨by trivial, rfl⟩
end
end Go.Proofs.YtkbapoeilcapfaaGreat

/- the disk: New. -/
namespace Go.Proofs.YtkbapoeilcapfaaGreat
open Go.RowKit Go.Maps
set_option linter.unusedVariables false
set_option linter.unusedSimpArgs false
set_option maxRecDepth 6000

/-- Numbers that are read. -/
def RdI (w : World) (A : Option Addr) (n : Nat) (F : List Int) : Prop :=
  F.length = n ∧ n ≤ 9223372036854775807 ∧ (∀ x ∈ F, (Lit.int .i64 x).wf = true) ∧ (0 < n → ∃ ad, A = some ad ∧ ad.block < w.heap.size ∧ ∀ j x, F[j]? = some x → w.cell? (ad.add j) = some (.int .i64 x))
theorem add_blk (a : Addr) (n : Nat) : (a.add n).block = a.block := by unfold Addr.add; split <;> rfl
theorem RdI.below {w w' : World} {A : Option Addr} {n : Nat} {F : List Int} (h : RdI w A n F) (hb : Below w.heap.size w w') : RdI w' A n F := by
  refine ⟨h.1, h.2.1, h.2.2.1, fun hn => ?_⟩
  obtain ⟨ad, e, hlt, hc⟩ := h.2.2.2 hn
  exact ⟨ad, e, Nat.lt_of_lt_of_le hlt hb.size, fun i x hx => (hb.cell (by rw [add_blk]; exact hlt)).trans (hc i x hx)⟩
theorem RdI.nil (w : World) : RdI w none 0 [] := ⟨rfl, by omega, by simp, fun h => absurd h (by omega)⟩
theorem Flt.step {w w' : World} {bf : Nat} {F : List Int} {nn : Nat} {D : DataW Value} {x : Int} (h1 : OwnM w bf nn D) (h2 : nn ≤ F.length) (h3 : ∀ n : Int, D.atKey (.int .i64 n) (.held (.bool false)) = .held (.bool (F.contains n)))
    (h : OwnM w' bf (nn + 1) (D.put (.int .i64 x) (.held (.bool true)))) : Flt w' bf (F ++ [x]) := by
  refine ⟨_, _, h, by simp; omega, fun n => ?_⟩
  by_cases e : n = x
  · subst e
    rw [Maps.atKey_put_same (World.ownsMap.isMap h1) (by simp [WideAt.IsKeyLit])]
    simp
  · rw [Maps.atKey_put_other (by simpa using e), h3]
    simp [e]
theorem dnew_yes {w : World} {g : Int} {A : Option Addr} {k c : Nat} {F : List Int} (h1 : 0 ≤ g) (h2 : g ≤ 16384) (hr : RdI w A k F) :
    Calls Tryz.prog 45 #[.int .i64 g, .slice A k c] w fun e w' => ∃ bd, e = .returned (.tuple #[dp bd, .int .i64 0]) ∧ Ch w (fun _ => False) (DR bd g F Ds.new) w' := by
  have hk := hr.2.1
  have hmk1 := run_makeMap (P := Tryz.prog) 116 w
  have hmk2 := run_makeMap (P := Tryz.prog) 117 (w.alloc (.map #[] 0))
  have HR := Lib.hid hr
  clear hr
  go_enter Tryz.func45, Tryz.ntmps45
  go_wp2
  go_loopw [22] (fun y wr => ∃ (i : Nat), i ≤ k ∧ y = .int .i64 (i : Int) ∧ Hid (wr.heap[w.heap.size + 2]? = some (dskObj w.heap.size (w.heap.size + 1) g Ds.new)) ∧ Hid (OwnM wr w.heap.size 0 (mOf [])) ∧ Hid (Flt wr (w.heap.size + 1) (F.take i)) ∧ Hid (Below w.heap.size w wr) ∧ w.heap.size + 3 ≤ wr.heap.size) (fun y _ => k - (intOf y).toNat)
  case atStart =>
    have b1 : Below w.heap.size w (w.alloc (.map #[] 0)) := (Below.refl _ _).alloc (Nat.le_refl _) _
    have hm1 : OwnM (w.alloc (.map #[] 0)) w.heap.size 0 (mOf []) := World.ownsMap_made w _ _ _
    have hm2 : OwnM ((w.alloc (.map #[] 0)).alloc (.map #[] 0)) (w.heap.size + 1) 0 (mOf []) := by
      have := World.ownsMap_made (w.alloc (.map #[] 0)) Tryz.prog 3 hv
      rw [show (w.alloc (.map #[] 0)).heap.size = w.heap.size + 1 from by simp] at this
      exact this
    refine ⟨0, by omega, rfl, ?_, World.ownsMap.alloc (World.ownsMap.alloc hm1 _) _, ⟨0, _, World.ownsMap.alloc hm2 _, by simp, fun n => by rw [mOf_at]; simp [findV]⟩, (b1.alloc (by simp) _).alloc (by simp; omega) _, by simp⟩
    have := heap_alloc_new ((w.alloc (.map #[] 0)).alloc (.map #[] 0)) (dskObj w.heap.size (w.heap.size + 1) g Ds.new)
    rw [show ((w.alloc (.map #[] 0)).alloc (.map #[] 0)).heap.size = w.heap.size + 2 from by simp] at this
    exact this
  case round =>
    obtain ⟨i, hi, rfl, HO, HM, HF, HB, hz⟩ := hrel
    by_cases hlt : i < k
    · obtain ⟨nn, D, o1, o2, o3⟩ := HF.out
      obtain ⟨ad, rfl, had, hc⟩ := (HR.out.below HB.out).2.2.2 (by omega)
      obtain ⟨x, hx⟩ : ∃ x, F[i]? = some x := ⟨_, List.getElem?_eq_getElem (by have := HR.out.1; omega)⟩
      have hcell := hc i x hx
      have hwx := HR.out.2.2.1 x (List.mem_of_getElem? hx)
      have hnn : nn ≤ i := by simp at o2; omega
      obtain ⟨w5, hrun, hown5, hturn5⟩ := World.ownsMap.store o1 K64 Tryz.underlying117 (by simp only [maxLen]; omega) (k64 (n := x) hwx) (val := .bool true) (d := .held (.bool true)) (ps := []) rfl
      have c4 : wr.cell? ⟨w.heap.size + 2, 4, none⟩ = some (.map (some (w.heap.size + 1))) := cell_of_blk HO.out 4
      have ht : Turn (fun k => k = w.heap.size + 1) wr w5 := (Turn.refl _ _).grown hturn5.grown (fun k hk => .inl (by injection hk with hk; exact hk.symm))
      have HF5 : Hid (Flt w5 (w.heap.size + 1) (F.take (i + 1))) := by
        have := Flt.step o1 o2 o3 hown5
        rw [List.take_add_one, hx]
        exact this
      have HM5 : Hid (OwnM w5 w.heap.size 0 (mOf [])) := OwnM.turn HM.out ht (by omega)
      have HO5 := Lib.hid (ht.heap HO.out (by omega))
      have HB5 := Lib.hid (below_turn HB.out ht (by omega) (fun k hk => by omega))
      have hz5 := ht.size
      clear o1 o2 o3 hc hx HF HM HO hown5 hturn5 ht
      go_wp2
      go_roundw
      case measure => simp [intOf]; omega
      exact ⟨i + 1, by omega, by go_num, HO5, HM5, HF5, HB5, by omega⟩
    · obtain rfl : i = k := by omega
      have HD : Hid (Ch w (fun _ => False) (DR (w.heap.size + 2) g F Ds.new) wr) := by
        have hf : F.take i = F := List.take_of_length_le (by have := HR.out.1; omega)
        refine ⟨DS (w.heap.size + 2) w.heap.size (w.heap.size + 1) (fun _ => nilS) Ds.new, ⟨_, _, _, ⟨HO.out, HM.out, by rw [← hf]; exact HF.out, by omega, by simp [Ds.new], by simp [Ds.new]⟩, rfl⟩, Turn.of_below HB.out _, ?_⟩
        rintro k (rfl | rfl | rfl | ⟨x, hx, _⟩)
        · right; omega
        · right; omega
        · right; omega
        · simp [Ds.new] at hx
      clear HO HM HF
      go_wp2
      go_ret2
      exact ⟨_, by trivial, HD.out⟩
end Go.Proofs.YtkbapoeilcapfaaGreat

/- the disk: Read; a page by value. -/
namespace Go.Proofs.YtkbapoeilcapfaaGreat
open Go.RowKit Go.Maps
set_option linter.unusedVariables false
set_option linter.unusedSimpArgs false
set_option maxRecDepth 6000

abbrev b8 (p : List Int) : List Value := p.map (Value.int .u8)
theorem inf8 : (Tryz.prog.info? 5).map (fun i => (i.zero, i.size, i.bytes)) = some (some (.int .u8 0), 1, 1) := by kernel_rfl
theorem infP : (Tryz.prog.info? 201).map (fun i => (i.zero, i.size, i.bytes)) = some (some (.agg (Array.replicate 256 (.int .u8 0))), 256, 256) := by kernel_rfl
theorem flat_get : ∀ (l : List Pg) (i j : Nat) (p : Pg), (∀ q ∈ l, q.length = 256) → l[i]? = some p → j < 256 → l.flatten[i * 256 + j]? = p[j]?
  | [], i, j, p, _, h, _ => by simp at h
  | q :: t, 0, j, p, hq, h, hj => by
    obtain rfl : q = p := by simpa using h
    have := hq q (by simp)
    rw [List.flatten_cons, List.getElem?_append_left (by omega)]
    simp
  | q :: t, i + 1, j, p, hq, h, hj => by
    have e := hq q (by simp)
    rw [List.flatten_cons, List.getElem?_append_right (by omega), ← flat_get t i j p (fun r hr => hq r (by simp [hr])) (by simpa using h) hj]
    congr 1
    omega
/-- Bytes that lie at ad. -/
def At8 (w : World) (ad : Addr) (p : List Int) : Prop := ad.block < w.heap.size ∧ ∀ j u, (b8 p)[j]? = some u → w.cell? (ad.add j) = some u
theorem Turn.cellq {S : Nat → Prop} {w w' : World} (h : Turn S w w') {q : Addr} (hl : q.block < w.heap.size) (hn : ¬ S q.block) : w'.cell? q = w.cell? q := by
  unfold World.cell?
  rw [h.block _ hl hn]
theorem At8.turn {S : Nat → Prop} {w w' : World} {ad : Addr} {p : List Int} (h : At8 w ad p) (ht : Turn S w w') (hn : ¬ S ad.block) : At8 w' ad p :=
  ⟨Nat.lt_of_lt_of_le h.1 ht.size, fun j u hu => (ht.cellq (by rw [add_blk]; exact h.1) (by rw [add_blk]; exact hn)).trans (h.2 j u hu)⟩
theorem At8.below {w w' : World} {ad : Addr} {p : List Int} (h : At8 w ad p) (hb : Below w.heap.size w w') : At8 w' ad p := h.turn (Turn.of_below hb (fun _ => False)) id
theorem dclone {w : World} {ad : Addr} {p : List Int} {n c : Nat} (h : At8 w ad p) (hl : p.length = n) (hn : n ≤ 100000) : Calls Tryz.prog 107 #[.slice (some ad) n c] w fun e w' => ∃ A c', e = .returned (.slice A n c') ∧ w'.ownsRow w.heap.size 5 1 (.slice A n c') n (b8 p) ∧ Below w.heap.size w w' := by
  have b0 : Below w.heap.size w (w.alloc (.cells #[] 5)) := (Below.refl _ _).alloc (Nat.le_refl _) _
  have ho := World.ownsRow_lit (base := w.heap.size) (e := 5) (size := 1) w #[] 0 (Nat.le_refl _) (by simp [maxLen]) (by simp)
  have HR := Lib.hid (And.intro ho (And.intro (h.below b0) (And.intro hl b0)))
  have hcmp := fun (t : TypeId) (h : Tryz.prog.underlying t = some (.slice 5)) => Go.Lib.run_eql_slice_nil (P := Tryz.prog) w t 5 (some ad) n c 0 0 h
  have hcmp := hcmp 136 Tryz.underlying136
  clear h b0 ho hl
  go_enter Tryz.func107, Tryz.ntmps107
  go_wp2_with (at_builtin; refine wp_appendL w.heap.size rfl (.tmp 5) (.tmp 6) 136 5 (.int .u8 0) 1 1 rfl Tryz.underlying136 inf8 rfl (by omega) (by omega) (.slice (some ⟨w.heap.size, 0, none⟩) 0 0) 0 [] rfl (some ad) n c (b8 p) rfl (by simp [HR.out.2.2.1]) (fun h => ⟨ad, rfl, HR.out.2.1.2⟩) (by intro u hu; obtain ⟨x, _, rfl⟩ := List.mem_map.1 hu; rfl) HR.out.1 (by simp) (by omega) ?_; intro v1 w1 h1 t1 _; rw [Nat.zero_add, List.nil_append] at h1; obtain ⟨A1, c1, rfl⟩ := own_slice h1)
  go_ret
  exact ⟨_, _, rfl, h1, below_turn HR.out.2.2.2 t1 (by simp) (fun k hk => by simp [Value.ownBlock] at hk; omega)⟩
theorem row_page {w : World} {A : Option Addr} {n c i : Nat} {l : List Pg} {p : Pg} (h : w.ownsRow 0 201 256 (.slice A n c) n (pgc l)) (hl : l[i]? = some p) (hq : ∀ q ∈ l, PgOk q) :
    ∃ g, A = some ⟨g, 0, none⟩ ∧ At8 w ⟨g, i * 256, none⟩ p := by
  have hp := hq p (List.mem_of_getElem? hl)
  have hget : ∀ j u, (b8 p)[j]? = some u → (pgc l)[i * 256 + j]? = some u := by
    intro j u hu
    have hj : j < 256 := by
      have := (List.getElem?_eq_some_iff.1 hu).1
      rw [List.length_map, hp.1] at this
      exact this
    rw [List.getElem?_map] at hu ⊢
    rw [flat_get l i j p (fun q hq2 => (hq q hq2).1) hl hj]
    exact hu
  rcases h.2 with ⟨e, e2⟩ | ⟨g, cap, cur, e, hb, hg, hnc, hm, _⟩
  · have := hget 0 (.int .u8 (p[0]'(by have := hp.1; omega))) (by rw [List.getElem?_map, List.getElem?_eq_getElem]; rfl)
    have h1 := h.1
    have h2 := (List.getElem?_eq_some_iff.1 this).1
    omega
  · injection e with e1 e3
    refine ⟨g, e1, lt_of_heap hg, fun j u hu => ?_⟩
    subst e1
    have := h.cells (g := g) rfl (i * 256 + j) u (hget j u hu)
    rw [Addr.add_mid] at this ⊢
    rw [Nat.zero_add] at this
    exact this
section
variable {w : World} {bd bm bf : Nat} {V : Int → Value} {R : Int} {F : List Int} {s : Ds}
theorem dread_none (H : Dsk w bd bm bf V R F s) {n i : Int} (hw : (Lit.int .i64 n).wf = true) (hf : s.readE F n i = 4) :
    Calls Tryz.prog 110 #[dp bd, .int .i64 n, .int .i64 i] w fun e w' => e = .returned (.tuple #[.slice none 0 0, .int .i64 4]) ∧ w' = w := by
  have HR := Lib.hid (dready H)
  have hl : ∃ A c k, (Instr.lookup 116 (.map (some bm)) (.int .i64 n) false).run Tryz.prog w = .ok (.slice A k c) w ∧ (i < 0 ∨ (k : Int) ≤ i) := by
    unfold Ds.readE at hf
    cases hs : s.find n with
    | none =>
      have := look_v H.map hw
      rw [find_map, hs] at this
      exact ⟨_, _, _, this, by omega⟩
    | some l =>
      obtain ⟨A, c, _, _, h⟩ := dlook_yes H hw hs
      rw [hs] at hf
      dsimp only at hf
      refine ⟨A, c, l.length, h, ?_⟩
      rcases Decidable.em (i < 0 ∨ (l.length : Int) ≤ i) with h | h
      · exact h
      · rw [if_neg h] at hf
        split at hf <;> cases hf
  obtain ⟨A, c, k, hrun, hcase⟩ := hl
  obtain ⟨c0, c1, c2, c3, c4, c5, c6, c7, c8, hb⟩ := H.cells
  clear H hf
  by_cases hi : i < 0
  · clear hcase
    go_enter Tryz.func110, Tryz.ntmps110
    go_wp2_with (go_at_call 56; refine HR.out.mono ?_; rintro e w1 ⟨rfl, hw⟩; obtain rfl := hw.symm; clear hw)
    go_ret2
    exact ⟨by trivial, rfl⟩
  · have hk : (k : Int) ≤ i := by omega
    clear hcase
    go_enter Tryz.func110, Tryz.ntmps110
    go_wp2_with (go_at_call 56; refine HR.out.mono ?_; rintro e w1 ⟨rfl, hw⟩; obtain rfl := hw.symm; clear hw)
    go_ret2
    exact ⟨by trivial, rfl⟩
theorem deed_at (H : Dsk w bd bm bf V R F s) (h0 : 0 ≤ s.deeds) (h1 : s.deeds ≤ 1000000000) {b : Bool} (hb : F.contains (s.deeds + 1) = b) :
    Calls Tryz.prog 134 #[dp bd] w fun e w' => e = .returned (.int .i64 (if b then 50 else 0)) ∧ DeedP w bd bm bf V R F s w' := by
  have := deed_walk H h0 h1
  rw [hb] at this
  exact this
theorem DeedP.ch {w' : World} (h : DeedP w bd bm bf V R F s w') : Ch w (DS bd bm bf V s) (DR bd R F s.deed_) w' :=
  Dsk.ch h.1 (h.2.mono fun k hk => .inl hk) (fun k hk => .inl hk)
theorem dread_fault (H : Dsk w bd bm bf V R F s) (K : DOk R s) (hd : s.deeds ≤ 1000000000) {n i : Int} (hw : (Lit.int .i64 n).wf = true) (hf : s.readE F n i = 50) :
    Calls Tryz.prog 110 #[dp bd, .int .i64 n, .int .i64 i] w fun e w' => e = .returned (.tuple #[.slice none 0 0, .int .i64 50]) ∧ Ch w (DS bd bm bf V s) (DR bd R F s.deed_) w' := by
  have HR := Lib.hid (dready H)
  have hl : ∃ A c k, (Instr.lookup 116 (.map (some bm)) (.int .i64 n) false).run Tryz.prog w = .ok (.slice A k c) w ∧ 0 ≤ i ∧ i < (k : Int) ∧ F.contains (s.deeds + 1) = true := by
    unfold Ds.readE at hf
    cases hs : s.find n with
    | none => rw [hs] at hf; cases hf
    | some l =>
      obtain ⟨A, c, _, _, h⟩ := dlook_yes H hw hs
      rw [hs] at hf
      dsimp only at hf
      by_cases h2 : i < 0 ∨ (l.length : Int) ≤ i
      · rw [if_pos h2] at hf; cases hf
      · rw [if_neg h2] at hf
        refine ⟨A, c, l.length, h, by omega, by omega, ?_⟩
        cases hc : F.contains (s.deeds + 1) with
        | true => rfl
        | false => rw [hc] at hf; cases hf
  obtain ⟨A, c, k, hrun, hi0, hik, hc⟩ := hl
  have ha := K.acts
  have HD := Lib.hid ((deed_at H (by omega) hd hc).mono fun e w' h => (⟨h.1, h.2.ch⟩ : e = .returned (.int .i64 50) ∧ Ch w (DS bd bm bf V s) (DR bd R F s.deed_) w'))
  obtain ⟨c0, c1, c2, c3, c4, c5, c6, c7, c8, hb⟩ := H.cells
  clear H hf hc ha K
  go_enter Tryz.func110, Tryz.ntmps110
  go_wp2_with (first
    | (go_at_call 56; refine HR.out.mono ?_; rintro e w1 ⟨rfl, hw⟩; obtain rfl := hw.symm; clear hw)
    | (go_at_call 134; refine HD.out.mono ?_; rintro e w1 ⟨rfl, hp⟩; have HP := Lib.hid hp; clear hp))
  go_ret2
  exact ⟨by trivial, HP.out⟩
theorem dread_ok (H : Dsk w bd bm bf V R F s) (K : DOk R s) (hd : s.deeds ≤ 1000000000) {n i : Int} (hw : (Lit.int .i64 n).wf = true) (hf : s.readE F n i = 0) :
    Calls Tryz.prog 110 #[dp bd, .int .i64 n, .int .i64 i] w fun e w' => ∃ v : Option Addr × Nat, e = .returned (.tuple #[.slice v.1 256 v.2, .int .i64 0]) ∧ Ch w (DS bd bm bf V s) (star (DR bd R F (s.read F n i)) (rowR 5 1 (.slice v.1 256 v.2) 256 (b8 (s.readP n i)))) w' := by
  have HR := Lib.hid (dready H)
  have hl : ∃ A c k p, (Instr.lookup 116 (.map (some bm)) (.int .i64 n) false).run Tryz.prog w = .ok (.slice (some ⟨A, 0, none⟩) k c) w ∧ 0 ≤ i ∧ i < (k : Int) ∧ F.contains (s.deeds + 1) = false ∧ s.readP n i = p ∧ p.length = 256 ∧ At8 w ⟨A, i.toNat * 256, none⟩ p ∧ A ≠ bd := by
    unfold Ds.readE at hf
    cases hs : s.find n with
    | none => rw [hs] at hf; cases hf
    | some l =>
      obtain ⟨A, c, hV, _, h⟩ := dlook_yes H hw hs
      rw [hs] at hf
      dsimp only at hf
      by_cases h2 : i < 0 ∨ (l.length : Int) ≤ i
      · rw [if_pos h2] at hf; cases hf
      · rw [if_neg h2] at hf
        have hmem := Ds.find_mem hs
        have hrow := H.row _ hmem
        dsimp only at hrow
        rw [hV] at hrow
        have hget : l[i.toNat]? = some (l[i.toNat]'(by omega)) := List.getElem?_eq_getElem _
        obtain ⟨g, rfl, hat⟩ := row_page hrow hget (fun q hq => K.pgs _ hmem q hq)
        refine ⟨g, c, l.length, _, h, by omega, by omega, ?_, ?_, (K.pgs _ hmem _ (List.mem_of_getElem? hget)).1, hat, ?_⟩
        · cases hc : F.contains (s.deeds + 1) with
          | false => rfl
          | true => rw [hc] at hf; cases hf
        · unfold Ds.readP
          rw [hs, Option.getD_some, List.getD_eq_getElem?_getD, hget]
          rfl
        · intro e
          exact (H.nes.2.2 _ hmem g (by dsimp only; rw [hV]; rfl)).1 e
  obtain ⟨g, c, k, p, hrun, hi0, hik, hc, hp, hpl, hat, hne⟩ := hl
  have ha := K.acts
  have hrd : s.read F n i = ⟨s.made, s.deeds + 1, s.reads + 1, s.writes, s.used, s.peak, s.fs⟩ := by
    unfold Ds.read
    rw [if_pos hf]
  have HD := Lib.hid ((deed_at H (by omega) hd hc).mono fun e w' h => (⟨h.1, h.2⟩ : e = .returned (.int .i64 0) ∧ DeedP w bd bm bf V R F s w'))
  obtain ⟨c0, c1, c2, c3, c4, c5, c6, c7, c8, hb⟩ := H.cells
  rw [hrd, hp]
  have HA := Lib.hid hat
  have HL := Lib.hid hpl
  obtain ⟨a, rfl⟩ : ∃ a : Nat, i = (a : Int) := ⟨i.toNat, by omega⟩
  rw [Int.toNat_natCast] at HA
  have HH := Lib.hid H
  have hr1 : s.reads ≤ 1000000000 := by omega
  have hr0 := ha.1
  clear H hf hc ha K hrd hp hat hpl
  go_enter Tryz.func110, Tryz.ntmps110
  go_wp2_with (first
    | (go_at_call 56; refine HR.out.mono ?_; rintro e w1 ⟨rfl, hw⟩; obtain rfl := hw.symm; clear hw)
    | (go_at_call 134; refine HD.out.mono ?_; rintro e w1 ⟨rfl, hp⟩; have HP := Lib.hid hp; clear hp; have k5 := HP.out.1.cells.2.2.2.2.2.1; have f5 := HP.out.1.frees.2.2.1; dsimp only [Ds.deed_] at k5)
    | (go_at_call 107; refine (dclone (w := w1.setCell ⟨bd, 5, none⟩ (.int .i64 (s.reads + 1))) (p := p) (ad := ⟨g, a * 256, none⟩) ((HA.out.turn HP.out.2 hne).turn ((Turn.refl (fun k => k = bd) w1).cell bd 5 _ rfl) hne) HL.out (by omega)).mono ?_; rintro e w3 ⟨B, cB, rfl, ho, b3⟩; have HO := Lib.hid ho; clear ho))
  go_ret2
  have HT := HP.out.2.then_ ((Turn.refl (fun k => k = bd) w1).cell bd 5 (.int .i64 (s.reads + 1)) rfl) (fun k hk => .inl hk)
  have H3 : Dsk w3 bd bm bf V R F ⟨s.made, s.deeds + 1, s.reads + 1, s.writes, s.used, s.peak, s.fs⟩ :=
    ((HP.out.1.upd ((Turn.refl (fun k => k = bd) w1).cell bd 5 _ rfl) (blk_set HP.out.1.dsk 5 (.int .i64 (s.reads + 1))) rfl : Dsk (w1.setCell ⟨bd, 5, none⟩ (.int .i64 (s.reads + 1))) bd bm bf V R F ⟨s.made, s.deeds + 1, s.reads + 1, s.writes, s.used, s.peak, s.fs⟩)).turn (Turn.of_below b3 (fun _ => False)) (fun _ _ => id)
  have hz := HT.size
  refine ⟨(B, cB), by trivial, fun k => DS bd bm bf V s k ∨ (Value.slice B 256 cB).ownBlock = some k, ⟨_, _, ⟨bm, bf, V, H3, rfl⟩, ⟨own_lower HO.out (by omega), rfl⟩, ?_, fun k => Iff.rfl⟩, (HT.then_ (Turn.of_below b3 (fun _ => False)) (fun _ h => h.elim)).mono (fun k hk => .inl hk), ?_⟩
  · intro k hk hk2
    have h1 := HH.out.lt k hk
    have h2 := own_ge HO.out hk2
    omega
  · rintro k (hk | hk)
    · exact .inl hk
    · have h2 := own_ge HO.out hk
      exact .inr (by omega)
end
end Go.Proofs.YtkbapoeilcapfaaGreat

/- the disk: Append. -/
namespace Go.Proofs.YtkbapoeilcapfaaGreat
open Go.RowKit Go.Maps
set_option linter.unusedVariables false
set_option linter.unusedSimpArgs false
set_option maxRecDepth 6000

section
variable {P : Program} {ops : Array Oper} {o : Oper} {a : Act} {K : Act → World → Prop} {Q : Exit → Act → World → Prop}
theorem step_wp {w : World} {E : Prop} (hgd : o.guard = none) (h : o.wp P a w K Q) : if Region.wanted o (yielded ops a.tmps) = true then o.wp P a w K Q else E := by
  rw [if_pos (by simp [Region.wanted, hgd])]
  exact h
theorem op_app1 {W : World} (base : Nat) (s x : Operand) (t e : TypeId) (z : Value) (size bytes : Nat)
    (ho : o.op = .call { callee := .builtin .append, args := #[s, x], argTypes := #[t, t] })
    (ht : P.underlying t = some (.slice e)) (hinfo : (P.info? e).map (fun i => (i.zero, i.size, i.bytes)) = some (some z, size, bytes)) (hz : z.cells.size = size) (hs0 : 0 < size) (hb0 : 0 < bytes)
    (v : Value) (n : Nat) (xs ys : List Value) (hs : a.eval s = v) {S : Nat} (hx : a.eval x = .slice (some ⟨S, 0, none⟩) 1 1) (hS : S = W.heap.size) (hys : ys.length = size) (h1 : ∀ u ∈ ys, u.oneCell' = true)
    (HO : W.ownsRow base e size v n xs) (hbase : base ≤ W.heap.size) (hl : (n + 1) * bytes ≤ 140737488355328)
    (h : ∀ v1 w1, w1.ownsRow base e size v1 (n + 1) (xs ++ ys) → Turn (fun k => v.ownBlock = some k) W w1 → (v1.ownBlock = v.ownBlock ∨ ∃ b, v1.ownBlock = some b ∧ W.heap.size ≤ b) → K (a.put o.dst v1) w1) :
    o.wp P a (W.alloc (.cells ys.toArray e)) K Q := by
  subst hS
  obtain ⟨i0, hi, hz0, hz1, hz2⟩ := info_parts hinfo
  have hlen : n + 1 ≤ 140737488355328 := Nat.le_trans (Nat.le_mul_of_pos_right _ hb0) hl
  obtain ⟨v1, w1, hrun, hown, hg, _, hat⟩ := run_append_own_at (P := P) (W.alloc (.cells ys.toArray e)) base t o.type e i0 z size bytes ht hi hz0 hz1 hz2 hz hs0 v n xs (HO.alloc _) ⟨W.heap.size, 0, none⟩ 1 1 ys (by rw [hys]; simp)
    (by simpa using World.news_of_block (cs := ys.toArray) (t := e) (fr := (0, 0)) (heap_alloc_new W (.cells ys.toArray e))) h1 (by simp only [maxLen]; omega) hl (by simp; omega)
  unfold Oper.wp execOp
  simp only [ho, resolve, invoke, builtin, Sem.run_bind, Sem.run_pure, Result.andThen_ok, List.map_toArray, List.map_cons, List.map_nil, hs, hx, hrun]
  refine h v1 w1 hown (((Turn.refl _ W).alloc _).grown hg (fun k hk => .inl hk)) ?_
  rcases hat with hat | hat
  · exact .inl hat
  · exact .inr ⟨_, hat, by simp⟩
end
section
variable {w : World} {bd bm bf : Nat} {V : Int → Value} {R : Int} {F : List Int} {s : Ds}
def updV (V : Int → Value) (n : Int) (v : Value) : Int → Value := fun m => if m = n then v else V m
theorem updV_same (V : Int → Value) (n : Int) (v : Value) : updV V n v n = v := if_pos rfl
theorem updV_ne (V : Int → Value) {n m : Int} (v : Value) (h : m ≠ n) : updV V n v m = V m := if_neg h
/-- A page more. -/
theorem Dsk.addPage {w' : World} {s' : Ds} {n : Int} {l : List Pg} {p : Pg} {v1 : Value} {nn : Nat} (H : Dsk w bd bm bf V R F s) (ord : s.fs.Pairwise (fun x y => x.1 < y.1)) (hf : s.find n = some l) (ht : Turn (fun k => k = bd ∨ k = bm ∨ (V n).ownBlock = some k) w w')
    (ho : w'.heap[bd]? = some (dskObj bm bf R s')) (hfs : s'.fs = addPg s.fs n p) (hm : OwnM w' bm nn (mOf (setV (s.fs.map fun x => (x.1, V x.1)) n v1)))
    (hr : w'.ownsRow 0 201 256 v1 (l.length + 1) (pgc (l ++ [p]))) (hor : v1.ownBlock = (V n).ownBlock ∨ ∃ b, v1.ownBlock = some b ∧ w.heap.size ≤ b) :
    Ch w (DS bd bm bf V s) (DR bd R F s') w' := by
  obtain ⟨n1, n2, n3⟩ := H.nes
  have hmem := Ds.find_mem hf
  have hor2 : ∀ x ∈ s.fs, x.1 ≠ n → ∀ k, (V x.1).ownBlock = some k → v1.ownBlock ≠ some k := by
    intro x hx hne k hk e
    rcases hor with h | ⟨b, h, hb⟩
    · rw [h] at e
      exact hne (H.sep x hx _ hmem k hk e)
    · rw [h] at e
      injection e with e
      have := ((H.row x hx).lt k hk).2
      omega
  have hother : ∀ x ∈ s.fs, x.1 ≠ n → ∀ k, (V x.1).ownBlock = some k → ¬ (k = bd ∨ k = bm ∨ (V n).ownBlock = some k) := by
    rintro x hx hne k hk (e | e | e)
    · exact (n3 x hx k hk).1 e
    · exact (n3 x hx k hk).2.1 e
    · exact hne (H.sep x hx _ hmem k hk e)
  refine Dsk.ch (V' := updV V n v1) ⟨ho, ?_, H.flt.turn ht ?_, H.ne, ?_, ?_⟩ (ht.mono ?_) ?_
  · have e : s'.fs.map (fun x => (x.1, updV V n v1 x.1)) = setV (s.fs.map fun x => (x.1, V x.1)) n v1 := by
      rw [hfs]
      unfold addPg setV
      rw [List.map_map, List.map_map]
      refine List.map_congr_left fun x hx => ?_
      dsimp only [Function.comp]
      by_cases e : x.1 = n
      · simp only [e, if_true]
        rw [updV_same]
      · simp only [e, if_false]
        rw [updV_ne _ _ e]
    rw [e]
    have := hm.tight
    have e3 : (setV (s.fs.map fun x => (x.1, V x.1)) n v1).length = s'.fs.length := by rw [← e, List.length_map]
    rw [e3] at this
    exact this
  · rintro (e | e | e)
    · exact n2 e.symm
    · exact H.ne e.symm
    · exact (n3 _ hmem _ e).2.2 rfl
  · intro x hx
    rw [hfs] at hx
    rcases addPg_mem hx with ⟨hx, hne⟩ | ⟨l', hl', rfl⟩
    · rw [updV_ne _ _ hne]
      exact own_turn (H.row x hx) ht (hother x hx hne)
    · dsimp only
      rw [updV_same]
      have := fs_inj ord hl' hmem rfl
      injection this with _ e2
      rw [e2, List.length_append]
      exact hr
  · intro x hx y hy k hk hl
    rw [hfs] at hx hy
    rcases addPg_mem hx with ⟨hx, hne⟩ | ⟨lx, hlx, rfl⟩ <;> rcases addPg_mem hy with ⟨hy, hne2⟩ | ⟨ly, hly, rfl⟩
    · rw [updV_ne _ _ hne] at hk
      rw [updV_ne _ _ hne2] at hl
      exact H.sep x hx y hy k hk hl
    · rw [updV_ne _ _ hne] at hk
      rw [updV_same] at hl
      exact absurd hl (hor2 x hx hne k hk)
    · rw [updV_same] at hk
      rw [updV_ne _ _ hne2] at hl
      exact absurd hk (hor2 y hy hne2 k hl)
    · rfl
  · rintro k (h | h | h)
    · exact .inl h
    · exact .inr (.inl h)
    · exact .inr (.inr (.inr ⟨_, hmem, h⟩))
  · rintro k (rfl | rfl | rfl | ⟨x, hx, hk⟩)
    · exact .inl (.inl rfl)
    · exact .inl (.inr (.inl rfl))
    · exact .inl (.inr (.inr (.inl rfl)))
    · rw [hfs] at hx
      rcases addPg_mem hx with ⟨hx, hne⟩ | ⟨lx, hlx, rfl⟩
      · rw [updV_ne _ _ hne] at hk
        exact .inl (.inr (.inr (.inr ⟨x, hx, hk⟩)))
      · rw [updV_same] at hk
        rcases hor with h | ⟨b, h, hb⟩
        · rw [h] at hk
          exact .inl (.inr (.inr (.inr ⟨_, hmem, hk⟩)))
        · rw [h] at hk
          injection hk with hk
          exact .inr (by omega)
theorem run_page {w : World} {ad : Addr} {p : List Int} (h : At8 w ad p) (hl : p.length = 256) : (Instr.loadAt 201 (.pointer (some ad))).run Tryz.prog w = .ok (.agg (b8 p).toArray) w := by
  have hc : (loadCells ad 256).run Tryz.prog w = .ok (b8 p).toArray w := by
    have := run_loadCells_list (P := Tryz.prog) w ad (b8 p) h.2
    rw [List.length_map, hl] at this
    exact this
  have hagg : (isAgg 201).run Tryz.prog w = .ok true w := by
    unfold isAgg
    rw [Sem.run_bind, run_underlying Tryz.underlying201 w]
    rfl
  obtain ⟨i0, hi, hz0, hz1, hz2⟩ := info_parts infP
  simp [Instr.loadAt, Instr.sureAddr, loadVar, Sem.run_bind, hagg, sizeOf, typeInfo, hi, hz1, hc]
end
end Go.Proofs.YtkbapoeilcapfaaGreat

/- the disk: Append, the walk. -/
namespace Go.Proofs.YtkbapoeilcapfaaGreat
open Go.RowKit Go.Maps
set_option linter.unusedVariables false
set_option linter.unusedSimpArgs false
set_option maxRecDepth 6000

theorem run_arrAt (w : World) (ad : Addr) (c : Nat) : (Instr.arrayAt 201 (.slice (some ad) 256 c)).run Tryz.prog w = .ok (.pointer (some ad)) w := by
  simp [Instr.arrayAt, run_underlying Tryz.underlying201 ]
theorem run_onePage (w : World) {p : List Int} (hl : p.length = 256) :
    (Instr.buildSlice 114 1 #[(0, .agg (b8 p).toArray)]).run Tryz.prog w = .ok (.slice (some ⟨w.heap.size, 0, none⟩) 1 1) (w.alloc (.cells (b8 p).toArray 201)) := by
  obtain ⟨i0, hi, hz0, hz1, hz2⟩ := info_parts infP
  refine run_buildSlice w _ 201 1 _ _ i0 _ Tryz.underlying114 hi hz0 (by rw [hz1]; decide) (by rw [hz1]; decide) ?_
  rw [hz1]
  have := Great.fill_whole (s := 256) (by omega) [.agg (b8 p).toArray] ((Array.range (1 * 256)).map (fun x => ((Value.agg (Array.replicate 256 (Value.int .u8 0))).cells[x % (Value.agg (Array.replicate 256 (Value.int .u8 0))).cells.size]!))) (by intro v hv; rw [List.mem_singleton.1 hv]; simp [Value.cells, hl]) (by simp)
  simpa [Value.cells] using this
section
variable {ops : Array Oper} {o : Oper} {a : Act} {K : Act → World → Prop} {Q : Exit → Act → World → Prop}
theorem op_arrAt {W : World} (x : Operand) (ho : o.op = .sliceToArrayPointer 201 x) (ad : Addr) (c : Nat) (hx : a.eval x = .slice (some ad) 256 c) (h : K (a.put o.dst (.pointer (some ad))) W) : o.wp Tryz.prog a W K Q := by
  unfold Oper.wp execOp
  simp only [ho, hx, Sem.run_bind, run_arrAt, Result.andThen_ok, Sem.run_pure]
  exact h
theorem op_loadPage {W : World} (x : Operand) (ho : o.op = .load 201 x) (ad : Addr) (hx : a.eval x = .pointer (some ad)) (p : List Int) (hp : At8 W ad p) (hl : p.length = 256) (h : K (a.put o.dst (.agg (b8 p).toArray)) W) : o.wp Tryz.prog a W K Q := by
  unfold Oper.wp execOp
  simp only [ho, hx, Sem.run_bind, run_page hp hl, Result.andThen_ok, Sem.run_pure]
  exact h
theorem op_onePage {W : World} (x : Operand) (ho : o.op = .buildSlice 114 1 #[(0, x)]) (p : List Int) (hx : a.eval x = .agg (b8 p).toArray) (hl : p.length = 256) (h : K (a.put o.dst (.slice (some ⟨W.heap.size, 0, none⟩) 1 1)) (W.alloc (.cells (b8 p).toArray 201))) : o.wp Tryz.prog a W K Q := by
  unfold Oper.wp execOp
  have : (#[((0 : Nat), x)].map fun (i, x) => (i, a.eval x)) = #[(0, .agg (b8 p).toArray)] := by simp [hx]
  simp only [ho, this, Sem.run_bind, run_onePage W hl, Result.andThen_ok, Sem.run_pure]
  exact h
theorem op_mapUpd {W : World} (m x v : Operand) (t k e : TypeId) (ho : o.op = .mapUpdate t m x v) (K0 : Keyed Tryz.prog k) (ht : Tryz.prog.underlying t = some (.map k e)) (b n : Nat) (D : DataW Value)
    (hm : a.eval m = .map (some b)) (hown : W.ownsMap Tryz.prog k hv b n D) (hn : n < maxLen) (key val : Value) (kl : Lit) (hx : a.eval x = key) (hv' : a.eval v = val) (hkey : keyOf Tryz.prog k key = some kl)
    (h : ∀ w', w'.ownsMap Tryz.prog k hv b (n + 1) (D.put kl (.held val)) → W.mapTurned w' b → K (a.put o.dst undef) w') : o.wp Tryz.prog a W K Q := by
  obtain ⟨w', hrun, r1, r2⟩ := hown.store K0 ht hn hkey (val := val) (d := .held val) (ps := []) rfl
  unfold Oper.wp execOp
  simp only [ho, hm, hx, hv', Sem.run_bind, hrun, Result.andThen_ok, Sem.run_pure]
  exact h w' r1 r2
end
section
variable {w : World} {bd bm bf : Nat} {V : Int → Value} {R : Int} {F : List Int} {s : Ds}
theorem dapp_arg (H : Dsk w bd bm bf V R F s) {n : Int} (hw : (Lit.int .i64 n).wf = true) {A : Option Addr} {k c : Nat} (hk : k ≠ 256) :
    Calls Tryz.prog 109 #[dp bd, .int .i64 n, .slice A k c] w fun e w' => e = .returned (.int .i64 1) ∧ w' = w := by
  have HR := Lib.hid (dready H)
  have hrun := look_ok H.map hw
  obtain ⟨c0, c1, c2, c3, c4, c5, c6, c7, c8, hb⟩ := H.cells
  have hk1 : ((k : Int) != 256) = true := by simp; omega
  clear H hk
  go_enter Tryz.func109, Tryz.ntmps109
  go_wp2_with (go_at_call 56; refine HR.out.mono ?_; rintro e w1 ⟨rfl, hw⟩; obtain rfl := hw.symm; clear hw)
  go_ret
  exact ⟨by trivial, rfl⟩
theorem dapp_none (H : Dsk w bd bm bf V R F s) {n : Int} (hw : (Lit.int .i64 n).wf = true) {A : Option Addr} {c : Nat} (hf : s.find n = none) :
    Calls Tryz.prog 109 #[dp bd, .int .i64 n, .slice A 256 c] w fun e w' => e = .returned (.int .i64 4) ∧ w' = w := by
  have HR := Lib.hid (dready H)
  have hrun := dlook_no H hw hf
  obtain ⟨c0, c1, c2, c3, c4, c5, c6, c7, c8, hb⟩ := H.cells
  clear H hf
  go_enter Tryz.func109, Tryz.ntmps109
  go_wp2_with (go_at_call 56; refine HR.out.mono ?_; rintro e w1 ⟨rfl, hw⟩; obtain rfl := hw.symm; clear hw)
  go_ret
  exact ⟨by trivial, rfl⟩
theorem dapp_full (H : Dsk w bd bm bf V R F s) {n : Int} (hw : (Lit.int .i64 n).wf = true) {A : Option Addr} {c : Nat} {l : List Pg} (hf : s.find n = some l) (hu : R ≤ s.used) :
    Calls Tryz.prog 109 #[dp bd, .int .i64 n, .slice A 256 c] w fun e w' => e = .returned (.int .i64 2) ∧ Below w.heap.size w w' := by
  have HR := Lib.hid (dready H)
  obtain ⟨B, d, _, hrun, _⟩ := dlook_yes H hw hf
  obtain ⟨c0, c1, c2, c3, c4, c5, c6, c7, c8, hb⟩ := H.cells
  have hu1 : decide (s.used ≥ R) = true := by simp; omega
  clear H hf hu
  go_enter Tryz.func109, Tryz.ntmps109
  go_wp2_with (go_at_call 56; refine HR.out.mono ?_; rintro e w1 ⟨rfl, hw⟩; obtain rfl := hw.symm; clear hw)
  go_quiet (fail)
  go_wp2
  go_ret
  exact ⟨by trivial, rfl, rfl, rfl, Nat.le_refl _, fun _ _ => rfl⟩
theorem dapp_fault (H : Dsk w bd bm bf V R F s) (K : DOk R s) (hd : s.deeds ≤ 1000000000) {n : Int} (hw : (Lit.int .i64 n).wf = true) {A : Option Addr} {c : Nat} {l : List Pg} (hf : s.find n = some l) (hu : s.used < R) (hc : F.contains (s.deeds + 1) = true) :
    Calls Tryz.prog 109 #[dp bd, .int .i64 n, .slice A 256 c] w fun e w' => e = .returned (.int .i64 50) ∧ Ch w (DS bd bm bf V s) (DR bd R F s.deed_) w' := by
  have HR := Lib.hid (dready H)
  obtain ⟨B, d, _, hrun, _⟩ := dlook_yes H hw hf
  obtain ⟨c0, c1, c2, c3, c4, c5, c6, c7, c8, hb⟩ := H.cells
  have hu1 : decide (s.used ≥ R) = false := by simp; omega
  have ha := K.acts
  have HD := Lib.hid (fun m => (deed_at (H.turn ((Turn.refl (fun _ => False) w).drewN m) (fun _ _ => id)) (by omega) hd hc).mono fun e w' h => (⟨h.1, h.2.1, ((Turn.refl (fun k => k = bd) w).drewN m).trans h.2.2⟩ : e = .returned (.int .i64 50) ∧ DeedP w bd bm bf V R F s w'))
  clear H hf hu hc K ha
  go_enter Tryz.func109, Tryz.ntmps109
  go_wp2_with (go_at_call 56; refine HR.out.mono ?_; rintro e w1 ⟨rfl, hw⟩; obtain rfl := hw.symm; clear hw)
  go_quiet (fail)
  go_wp2_with (go_at_call 134; refine (HD.out _).mono ?_; rintro e w1 ⟨rfl, hp⟩; have HP := Lib.hid hp; clear hp)
  go_ret
  exact ⟨by trivial, HP.out.ch⟩
set_option maxHeartbeats 1000000 in
theorem dapp_ok (H : Dsk w bd bm bf V R F s) (K : DOk R s) (hd : s.deeds ≤ 1000000000) {n : Int} (hw : (Lit.int .i64 n).wf = true) {ad : Addr} {c : Nat} {l : List Pg} {p : Pg} (hf : s.find n = some l) (hu : s.used < R) (hc : F.contains (s.deeds + 1) = false)
    (hp : At8 w ad p) (hpl : p.length = 256) (hne : ad.block ≠ bd) :
    Calls Tryz.prog 109 #[dp bd, .int .i64 n, .slice (some ad) 256 c] w fun e w' => e = .returned (.int .i64 0) ∧ Ch w (DS bd bm bf V s) (DR bd R F ⟨s.made, s.deeds + 1, s.reads, s.writes + 1, s.used + 1, max s.peak (s.used + 1), addPg s.fs n p⟩) w' := by
  have HR := Lib.hid (dready H)
  obtain ⟨B, d, hV, hrun, _⟩ := dlook_yes H hw hf
  obtain ⟨c0, c1, c2, c3, c4, c5, c6, c7, c8, hb⟩ := H.cells
  have hu1 : decide (s.used ≥ R) = false := by simp; omega
  have ha := K.acts
  have hus := K.used
  have hrm := K.room
  have hmem := Ds.find_mem hf
  have hpg := pagesN_mem hmem
  rw [← K.cnt] at hpg
  have HD := Lib.hid (fun m => (deed_at (H.turn ((Turn.refl (fun _ => False) w).drewN m) (fun _ _ => id)) (by omega) hd hc).mono fun e w' h => (⟨h.1, h.2.1, ((Turn.refl (fun k => k = bd) w).drewN m).trans h.2.2⟩ : e = .returned (.int .i64 0) ∧ DeedP w bd bm bf V R F s w'))
  have HX := Lib.hid (fun (w' : World) (s' : Ds) (v1 : Value) (nn : Nat) ht ho hfs hm hr hor => H.addPage (w' := w') (s' := s') (v1 := v1) (nn := nn) (p := p) K.ord hf ht ho hfs hm hr hor)
  have HN := Lib.hid H.nes
  have HP0 := Lib.hid hp
  have HPL := Lib.hid hpl
  have hm0 : s.writes ≤ 1000000000 := by omega
  have hm1 := ha.2.1
  have hm2 : 0 ≤ s.used := by have := pagesN_nonneg s.fs; rw [← K.cnt] at this; exact this
  have HRow := Lib.hid (fun W (h : DeedP w bd bm bf V R F s W) => h.1.row (n, l) hmem)
  have hfl : s.fs.length ≤ 32768 := K.len
  have hVb : ∀ k, (V n).ownBlock = some k → k ≠ bd ∧ k ≠ bm ∧ k ≠ bf := fun k hk => HN.out.2.2 (n, l) hmem k hk
  rw [hV] at hVb
  have HVb := Lib.hid hVb
  have HV := Lib.hid hV
  have HK := Lib.hid (show ∃ x ∈ s.fs.map (fun x => (x.1, V x.1)), x.1 = n from ⟨(n, V n), List.mem_map.2 ⟨(n, l), hmem, rfl⟩, rfl⟩)
  have HOrd := Lib.hid (show (s.fs.map fun x => (x.1, V x.1)).Pairwise (fun x y => x.1 < y.1) from List.pairwise_map.2 K.ord)
  obtain ⟨k, hk⟩ : ∃ k, k = l.length := ⟨_, rfl⟩
  have hk2 : k ≤ 16384 := by dsimp only at hpg; omega
  rw [← hk] at hV hrun HV HVb
  have HRow2 := Lib.hid (show ∀ W, DeedP w bd bm bf V R F s W → W.ownsRow 0 201 256 (.slice B k d) k (pgc l) from fun W h => by have := HRow.out W h; dsimp only at this; rw [HV.out, ← hk] at this; exact this)
  rw [← hk] at HX
  clear H hu hc K ha hp hpl hmem hpg HRow hVb hV hk hf
  go_enter Tryz.func109, Tryz.ntmps109
  go_wp2_with (go_at_call 56; refine HR.out.mono ?_; rintro e w1 ⟨rfl, hw⟩; obtain rfl := hw.symm; clear hw)
  go_quiet (fail)
  go_wp2_with (go_at_call 134; refine (HD.out _).mono ?_; rintro e w1 ⟨rfl, hp⟩; have HP := Lib.hid hp; clear hp)
  clear c0 c1 c2 c3 c4 c5 c6 c7 c8 hb hrun
  have k0 := HP.out.1.cells.1
  have A1 := HP0.out.turn HP.out.2 hne
  have HR1 := Lib.hid (HRow2.out w1 HP.out)
  have A1 := Lib.hid A1
  refine wp_region_held (S := fun W => W.cell? ⟨bd, 0, none⟩ = some (.map (some bm))) (by kernel_rfl) ?_
  change wpAnyH _ _ _ _ _ _ _ _ (World.drew w1)
  refine wpAnyH_take (i := 0) (v := dp bd) rfl (by kernel_rfl) (by kernel_rfl) (by kernel_rfl) (fun _ _ _ h => h) (Or.inl ⟨by rfl, fun w hS => by go_simp⟩) k0 ?_
  refine wpAnyH_take (i := 1) (v := dp bd) rfl (by kernel_rfl) (by kernel_rfl) (by kernel_rfl) (fun _ _ _ h => h) (Or.inl ⟨by rfl, fun w hS => by go_simp⟩) k0 ?_
  refine wpAnyH_take (i := 2) (v := .pointer (some ⟨bd, 0, none⟩)) rfl (by kernel_rfl) (by kernel_rfl) (by kernel_rfl) (fun _ _ _ h => h) (Or.inl ⟨by rfl, fun w hS => by go_simp⟩) k0 ?_
  refine wpAnyH_take (i := 3) (v := .map (some bm)) rfl (by kernel_rfl) (by kernel_rfl) (by kernel_rfl) (fun _ _ _ h => h) (Or.inl ⟨by rfl, fun w hS => by go_simp⟩) k0 ?_
  refine wpAnyH_take (i := 4) (v := .int .i64 n) rfl (by kernel_rfl) (by kernel_rfl) (by kernel_rfl) (fun _ _ _ h => h) (Or.inl ⟨by rfl, fun w hS => by go_simp⟩) k0 ?_
  refine wpAnyH_take (i := 5) (v := .slice B k d) rfl (by kernel_rfl) (by kernel_rfl) (by kernel_rfl) (fun _ _ _ h => h) (Or.inl ⟨by rfl, fun w hS => by go_simp⟩) k0 ?_
  refine wpAnyH_take (i := 6) (v := .slice (some ad) 256 c) rfl (by kernel_rfl) (by kernel_rfl) (by kernel_rfl) (fun _ _ _ h => h) (Or.inl ⟨by rfl, fun w hS => by go_simp⟩) k0 ?_
  go_simp
  refine wpAnyH_all (rs := [7]) (by kernel_rfl) (by simp) (fun i hi => ?_)
  obtain rfl := List.mem_singleton.1 hi
  clear hi
  refine wpOp_step (o := { dst := some 52, op := .sliceToArrayPointer 201 (.tmp 51), type := _, pos := _, after := _, guard := none }) (by simp; exact ⟨rfl, rfl, rfl⟩) (fun K hK => step_wp rfl (op_arrAt (.tmp 51) rfl ad c (by go_simp) (hK _ _ ⟨k0, ?_⟩)))
  clear hK K
  go_simp
  refine wpAnyH_all (rs := [8]) (by kernel_rfl) (by simp) (fun i hi => ?_)
  obtain rfl := List.mem_singleton.1 hi
  clear hi
  refine wpOp_step (o := { dst := some 53, op := .load 201 (.tmp 52), type := _, pos := _, after := _, guard := none }) (by simp; exact ⟨rfl, rfl, rfl⟩) (fun K hK => step_wp rfl (op_loadPage (.tmp 52) rfl ad (by go_simp) p A1.out HPL.out (hK _ _ ⟨k0, ?_⟩)))
  clear hK K
  go_simp
  refine wpAnyH_all (rs := [9]) (by kernel_rfl) (by simp) (fun i hi => ?_)
  obtain rfl := List.mem_singleton.1 hi
  clear hi
  refine wpOp_step (o := { dst := some 54, op := .buildSlice 114 1 #[(0, .tmp 53)], type := _, pos := _, after := _, guard := none }) (by simp; exact ⟨rfl, rfl, rfl⟩) (fun K hK => step_wp rfl (op_onePage (.tmp 53) rfl p (by go_simp) HPL.out (hK _ _ ⟨(World.cell?_alloc_lt _ _ _ (World.block_lt_of_cell? w1 _ k0)).trans k0, ?_⟩)))
  clear hK K
  go_simp
  refine wpAnyH_all (rs := [10]) (by kernel_rfl) (by simp) (fun i hi => ?_)
  obtain rfl := List.mem_singleton.1 hi
  clear hi
  refine wpOp_step (o := { dst := some 55, op := .call { callee := .builtin .append, args := #[.tmp 50, .tmp 54], argTypes := #[114, 114 ] }, type := _, pos := _, after := _, guard := none }) (by simp; exact ⟨rfl, rfl, rfl⟩) (fun K hK => step_wp rfl ?_)
  refine op_app1 (W := w1.drew) 0 (.tmp 50) (.tmp 54) 114 201 (.agg (Array.replicate 256 (.int .u8 0))) 256 256 rfl Tryz.underlying114 infP rfl (by omega) (by omega) (.slice B k d) k (pgc l) (b8 p) (by go_simp) (by go_simp) rfl (by rw [List.length_map]; exact HPL.out) (by intro u hu; obtain ⟨x, _, rfl⟩ := List.mem_map.1 hu; rfl) HR1.out (Nat.zero_le _) (by omega) ?_
  intro v2 w2 h2 t2 hor2
  obtain ⟨A2, c2, rfl⟩ := own_slice h2
  have HO2 := Lib.hid (t2.heap (w := w1.drew) (k := bd) HP.out.1.dsk (fun e => (HVb.out _ e).1 rfl))
  have HM2 := Lib.hid (OwnM.turn (w := w1.drew) HP.out.1.map t2 (fun e => (HVb.out _ e).2.1 rfl))
  have e20 : w2.cell? ⟨bd, 0, none⟩ = some (.map (some bm)) := cell_of_blk HO2.out 0
  refine hK _ _ ⟨e20, ?_⟩
  clear hK K
  go_simp
  refine wpAnyH_all (rs := [11]) (by kernel_rfl) (by simp) (fun i hi => ?_)
  obtain rfl := List.mem_singleton.1 hi
  clear hi
  refine wpOp_step (o := { dst := none, op := .mapUpdate 116 (.tmp 48) (.tmp 49) (.tmp 55), type := _, pos := _, after := _, guard := none }) (by simp; exact ⟨rfl, rfl, rfl⟩) (fun K hK => step_wp rfl ?_)
  refine op_mapUpd (.tmp 48) (.tmp 49) (.tmp 55) 116 3 114 rfl K64 Tryz.underlying116 bm _ _ (by go_simp) HM2.out (by dsimp only [Ds.deed_]; simp only [maxLen]; omega) (.int .i64 n) (.slice A2 (k + 1) c2) _ (by go_simp) (by go_simp) (k64 (n := n) hw) ?_
  intro w5 hown5 hturn5
  have HT5 : Hid (Turn (fun k => k = bm) w2 w5) := (Turn.refl (fun k => k = bm) w2).grown hturn5.grown (fun k hk => .inl (by injection hk with hk; exact hk.symm))
  have HO5 := Lib.hid (HT5.out.heap HO2.out HN.out.1)
  refine hK _ _ ⟨cell_of_blk HO5.out 0, ?_⟩
  clear hK K
  refine wpAnyH_done (by kernel_rfl) ?_ _
  have g6 : w5.cell? ⟨bd, 6, none⟩ = some (.int .i64 s.writes) := cell_of_blk HO5.out 6
  have g7 : w5.cell? ⟨bd, 7, none⟩ = some (.int .i64 s.used) := cell_of_blk HO5.out 7
  have g8 : w5.cell? ⟨bd, 8, none⟩ = some (.int .i64 s.peak) := cell_of_blk HO5.out 8
  have r6 := free_of_blk HO5.out 6
  have r7 := free_of_blk HO5.out 7
  have r8 := free_of_blk HO5.out 8
  have HP5 : Hid (∀ W', Turn (fun k => k = bd) w5 W' → W'.heap[bd]? = some (dskObj bm bf R ⟨s.made, s.deeds + 1, s.reads, s.writes + 1, s.used + 1, max s.peak (s.used + 1), addPg s.fs n p⟩) → Ch w (DS bd bm bf V s) (DR bd R F ⟨s.made, s.deeds + 1, s.reads, s.writes + 1, s.used + 1, max s.peak (s.used + 1), addPg s.fs n p⟩) W') := by
    intro W' ht ho
    have hz := HP.out.2.size
    have hlt := HP.out.1.lt
    have hnb : ∀ q, (Value.slice A2 (k + 1) c2).ownBlock = some q → q ≠ bd ∧ q ≠ bm := by
      intro q hq
      rcases hor2 with h | ⟨b, h, hb⟩
      · rw [h] at hq
        exact ⟨(HVb.out q hq).1, (HVb.out q hq).2.1⟩
      · rw [h] at hq
        injection hq with hq
        have h1 := hlt bd (.inl rfl)
        have h2 := hlt bm (.inr (.inl rfl))
        have h3 : w1.heap.size ≤ b := hb
        omega
    refine HX.out W' _ (.slice A2 (k + 1) c2) (s.deed_.fs.length + 1) ?_ ho rfl ?_ ?_ ?_
    · have t1 : Turn (fun j => j = bd ∨ j = bm ∨ (V n).ownBlock = some j) w w1.drew := HP.out.2.drew.mono (fun j hj => .inl hj)
      have t3 := t1.then_ t2 (fun j hj => .inl (.inr (.inr (by rw [HV.out]; exact hj))))
      have t4 := t3.then_ HT5.out (fun j hj => .inl (.inr (.inl hj)))
      exact t4.then_ ht (fun j hj => .inl (.inl hj))
    · have h5 := hown5
      rw [show s.deed_.fs = s.fs from rfl, mOf_put_old n _ _ HOrd.out HK.out] at h5
      exact OwnM.turn h5 ht (fun e => HN.out.1 e.symm)
    · have r1 := own_turn (own_turn h2 HT5.out (fun q hq => (hnb q hq).2)) ht (fun q hq => (hnb q hq).1)
      have e : pgc (l ++ [p]) = pgc l ++ b8 p := by simp [pgc]
      rw [e]
      exact r1
    · rcases hor2 with h | ⟨b, h, hb⟩
      · exact .inl (by rw [h, HV.out])
      · exact .inr ⟨b, h, Nat.le_trans hz hb⟩
  have HN5 := Lib.hid HO5.out
  clear h2 t2 hor2 hown5 hturn5 e20 k0
  go_wp2
  go_region
  all_goals go_wp2
  all_goals go_ret
  all_goals
    refine ⟨by trivial, HP5.out _ ?_ ?_⟩
    · exact ((((Turn.refl (fun k => k = bd) w5).cell bd 6 _ rfl).cell bd 7 _ rfl).cell bd 8 _ rfl).drew
    · have h := blk_set (blk_set (blk_set HN5.out 6 (.int .i64 (s.writes + 1))) 7 (.int .i64 (s.used + 1))) 8 (.int .i64 (max s.peak (s.used + 1)))
      first
        | exact h
        | (rw [show max s.peak (s.used + 1) = s.used + 1 by omega] at h ⊢; exact h)
        | (rw [show max s.peak (s.used + 1) = s.peak by omega] at h ⊢; exact h)
end
end Go.Proofs.YtkbapoeilcapfaaGreat

/- the disk: Files; all its calls, as what a thing becomes. -/
namespace Go.Proofs.YtkbapoeilcapfaaGreat
open Go.RowKit Go.Maps Go.Sort Go.Shelf
set_option linter.unusedVariables false
set_option linter.unusedSimpArgs false
set_option maxRecDepth 6000

theorem sortsD (m : Nat) : AnyZI.SortsIn Tryz.prog Tryz.sortedD_ren Fence.wide m :=
  ⟨fun blk off cap ss W hH hblk hsz => callsIn_wide.2 (AnyM.slices_Sort_int Tryz.sortD blk off cap ss W hH hblk hsz),
   fun p cap W => callsIn_wide.2 (AnyM.slices_Sort_int_none Tryz.sortD p cap W)⟩
theorem intKeys_mOf (L : List (Int × Value)) : intKeys (mOf L) = L.map (·.1) := by
  unfold mOf intKeys
  dsimp only
  rw [List.map_map]
  rfl
section
variable {w : World} {bd bm bf : Nat} {V : Int → Value} {R : Int} {F : List Int} {s : Ds}
theorem dfiles (H : Dsk w bd bm bf V R F s) (ord : s.fs.Pairwise (fun x y => x.1 < y.1)) (hn : s.fs.length ≤ 100000) :
    Calls Tryz.prog 26 #[dp bd] w fun e w' => ∃ v, e = .returned v ∧ w'.ownsRow w.heap.size 3 1 v s.fs.length (s.fs.map fun x => Value.int .i64 x.1) ∧ Below w.heap.size w w' := by
  have hfin : ∀ ss : List Int, ss.Perm (intKeys (mOf (s.fs.map fun x => (x.1, V x.1)))) → ss.length = s.fs.length ∧ (ss.mergeSort (fun x y => decide (x ≤ y))).map encZ = s.fs.map fun x => Value.int .i64 x.1 := by
    intro ss hp
    rw [intKeys_mOf, List.map_map] at hp
    refine ⟨by simpa using hp.length_eq, ?_⟩
    rw [show ss.mergeSort (fun x y => decide (x ≤ y)) = (s.fs.map (·.1)).mergeSort (fun x y => decide (x ≤ y)) from mergeSort_of_perm_i hp, List.mergeSort_of_pairwise, List.map_map]
    · rfl
    · refine List.pairwise_map.2 (ord.imp ?_)
      intro a b h
      simp
      omega
  have hbl := H.map.lt
  have hmax : Maps.size (mOf (s.fs.map fun x => (x.1, V x.1))) ≤ maxLen := by rw [mOf_size, List.length_map]; simp only [maxLen]; omega
  have hbytes : Maps.size (mOf (s.fs.map fun x => (x.1, V x.1))) * 8 ≤ 140737488355328 := by rw [mOf_size, List.length_map]; omega
  have hown := H.map
  refine (callsIn_wide (n := 6)).1 ?_
  have hseq : SeqGives Fence.wide 2 Tryz.prog 97 #[.pointer (some ⟨w.heap.size, 0, Option.none⟩)] encZ (fun ss => ss.Perm (intKeys (mOf (s.fs.map fun x => (x.1, V x.1))))) (Maps.size (mOf (s.fs.map fun x => (x.1, V x.1)))) (w.alloc (.cells #[.map (some bm)] 116)) :=
    AnyZI.keys_gives (ρ := Tryz.keysD_ren) { Tryz.keysD with } Fence.wide _ trivial rfl (by omega) w.heap.size bm s.fs.length (mOf (s.fs.map fun x => (x.1, V x.1))) _ (by simp) (by simp) (by
      obtain ⟨es, clock, hb, Ft, hs, hD⟩ := hown
      exact ⟨es, clock, (Below.heap_alloc _ _ bm hbl).trans hb, Ft, hs, hD⟩)
  have cK : ∀ mb W, CallsIn Fence.wide 5 Tryz.prog 63 #[.map mb] W fun e w' => e = .returned (.func (.func 97) #[] #[.pointer (some ⟨W.heap.size, 0, Option.none⟩)]) ∧ w' = W.alloc (.cells #[.map mb] 116) := fun mb W => AnyZI.keys_in Tryz.keysD Fence.wide 5 trivial rfl mb W
  have cS := AnyZI.sorted_in Tryz.sortedD Fence.wide 5 trivial trivial trivial trivial rfl (by omega) (sortsD _) (enters_of Tryz.func96 (by kernel_rfl) rfl) 97 #[.pointer (some ⟨w.heap.size, 0, Option.none⟩)] trivial (enters_of Tryz.func97 (by kernel_rfl) rfl) _ _ hmax hbytes _ hseq
  change CallsIn _ _ Tryz.prog 62 _ _ _ at cS
  have cR : CallsIn Fence.wide 5 Tryz.prog 56 #[dp bd] w fun e w' => e = .returned (.bool true) ∧ w' = w := callsIn_wide.2 (dready H)
  obtain ⟨c0, c1, c2, c3, c4, c5, c6, c7, c8, hb⟩ := H.cells
  clear H
  have hfK : Fence.wide.fn 63 := trivial
  have hfS : Fence.wide.fn 62 := trivial
  have hfR : Fence.wide.fn 56 := trivial
  refine callsIn_of_wp Tryz.func26 rfl trivial ?_ rfl
  simp only [Tryz.ntmps26, List.size_toArray, List.length_cons, List.length_nil, Nat.reduceAdd, Nat.reduceSub, Array.replicate_succ, Array.replicate_zero, List.push_toArray, List.append_toArray, List.nil_append, List.cons_append]
  gi_wp2_with (first
    | (gi_at_call 56; refine cR.mono ?_; rintro e w1 ⟨rfl, hw⟩; obtain rfl := hw.symm; clear hw)
    | (gi_at_call 63; refine (cK _ _).mono ?_; rintro e w' ⟨rfl, rfl⟩)
    | (gi_at_call 62; refine cS.mono ?_; rintro e w' ⟨v, ss, rfl, hS, hrow, hnil, hb⟩))
  go_ret
  obtain ⟨e1, e2⟩ := hfin ss hS
  rw [e1, e2] at hrow
  exact ⟨v, rfl, own_lower hrow (by simp), ((Below.refl _ w).alloc (Nat.le_refl _) _).trans (hb.mono (by simp))⟩
end
/-- Bytes that are read. -/
def RdBy (w : World) (A : Option Addr) (k : Nat) (p : List Int) : Prop := p.length = k ∧ (0 < k → ∃ ad, A = some ad ∧ At8 w ad p)
theorem RdBy.below {w w' : World} {A : Option Addr} {k : Nat} {p : List Int} (h : RdBy w A k p) (hb : Below w.heap.size w w') : RdBy w' A k p :=
  ⟨h.1, fun hk => by obtain ⟨ad, e, ha⟩ := h.2 hk; exact ⟨ad, e, ha.below hb⟩⟩
theorem RdBy.of_own {w : World} {base : Nat} {A : Option Addr} {k c : Nat} {p : List Int} (h : w.ownsRow base 5 1 (.slice A k c) k (b8 p)) : RdBy w A k p := by
  have hl : p.length = k := by simpa using h.1
  refine ⟨hl, fun hk => ?_⟩
  rcases h.2 with ⟨e, e2⟩ | ⟨g, cap, cur, e, hb, hg, hnc, hm, _⟩
  · omega
  · injection e with e1 e3
    subst e1
    exact ⟨_, rfl, lt_of_heap hg, h.cells (g := g) rfl⟩
def Ds.readQ (F : List Int) (s : Ds) (n i : Int) : Pg := if s.readE F n i = 0 then s.readP n i else []
section
variable {w : World} {S : Nat → Prop} {bd : Nat} {R : Int} {F : List Int} {s : Ds}
theorem d_create (H : DR bd R F s w S) (K : DOk R s) (hm : s.made ≤ 1000000000) :
    Calls Tryz.prog 74 #[dp bd] w fun e w' => e = .returned (.tuple #[.int .i64 (if s.createE = 0 then s.made + 1 else 0), .int .i64 s.createE]) ∧ Ch w S (DR bd R F s.create) w' := by
  obtain ⟨bm, bf, V, h, rfl⟩ := H
  by_cases hl : 32768 ≤ s.fs.length
  · have e : s.createE = 2 := if_pos hl
    unfold Ds.create
    rw [e]
    refine (dcreate_full h hl).mono ?_
    rintro e w' ⟨rfl, rfl⟩
    exact ⟨rfl, Ch.same (DR_good _ _ _ _) ⟨_, _, _, h, rfl⟩ (Below.refl _ _)⟩
  · have e : s.createE = 0 := if_neg hl
    unfold Ds.create
    rw [e]
    exact dcreate_ok h (by omega) K.made hm (fun x hx => (K.num x hx).2)
theorem d_size (H : DR bd R F s w S) {n : Int} (hw : (Lit.int .i64 n).wf = true) :
    Calls Tryz.prog 19 #[dp bd, .int .i64 n] w fun e w' => e = .returned (.tuple #[.int .i64 ((s.find n).elim 0 fun l => (l.length : Int)), .int .i64 (if (s.find n).isSome then 0 else 4)]) ∧ w' = w := by
  obtain ⟨bm, bf, V, h, rfl⟩ := H
  cases hf : s.find n with
  | none => exact dsize_no h hw hf
  | some l => exact dsize_yes h hw hf
theorem d_files (H : DR bd R F s w S) (K : DOk R s) : Calls Tryz.prog 26 #[dp bd] w fun e w' => ∃ A c, e = .returned (.slice A s.fs.length c) ∧ w'.ownsRow w.heap.size 3 1 (.slice A s.fs.length c) s.fs.length (s.fs.map fun x => Value.int .i64 x.1) ∧ Below w.heap.size w w' := by
  obtain ⟨bm, bf, V, h, rfl⟩ := H
  refine (dfiles h K.ord (by have := K.len; omega)).mono ?_
  rintro e w' ⟨v, rfl, ho, b⟩
  obtain ⟨A, c, rfl⟩ := own_slice ho
  exact ⟨A, c, rfl, ho, b⟩
theorem d_del (H : DR bd R F s w S) (K : DOk R s) {n : Int} (hw : (Lit.int .i64 n).wf = true) :
    Calls Tryz.prog 57 #[dp bd, .int .i64 n] w fun e w' => e = .returned (.int .i64 (s.delE n)) ∧ Ch w S (DR bd R F (s.del n)) w' := by
  obtain ⟨bm, bf, V, h, rfl⟩ := H
  cases hf : s.find n with
  | none =>
    have e : s.delE n = 4 := by unfold Ds.delE; rw [hf]
    have e2 : s.del n = s := by unfold Ds.del; rw [hf]
    rw [e, e2]
    refine (ddel_no h hw hf).mono ?_
    rintro e w' ⟨rfl, rfl⟩
    exact ⟨rfl, Ch.same (DR_good _ _ _ _) ⟨_, _, _, h, rfl⟩ (Below.refl _ _)⟩
  | some l =>
    have e : s.delE n = 0 := by unfold Ds.delE; rw [hf]
    rw [e]
    exact ddel_yes h K hw hf
theorem d_app (H : DR bd R F s w S) (K : DOk R s) (hd : s.deeds ≤ 1000000000) {n : Int} (hw : (Lit.int .i64 n).wf = true) {A : Option Addr} {k c : Nat} {p : Pg} (hp : RdBy w A k p) (hne : ∀ ad, A = some ad → ¬ S ad.block) :
    Calls Tryz.prog 109 #[dp bd, .int .i64 n, .slice A k c] w fun e w' => e = .returned (.int .i64 (s.appE R F n p)) ∧ Ch w S (DR bd R F (s.app R F n p)) w' := by
  obtain ⟨bm, bf, V, h, rfl⟩ := H
  have same : Ch w (DS bd bm bf V s) (DR bd R F s) w := Ch.same (DR_good _ _ _ _) ⟨_, _, _, h, rfl⟩ (Below.refl _ _)
  have hkeep : ∀ {E : Int}, s.appE R F n p = E → E ≠ 0 → E ≠ 50 → s.app R F n p = s := fun e h1 h2 => by unfold Ds.app; rw [e, if_neg h1, if_neg h2]
  by_cases hk : k = 256
  · subst hk
    have hl : p.length = 256 := hp.1
    cases hf : s.find n with
    | none =>
      have e : s.appE R F n p = 4 := by unfold Ds.appE; rw [if_neg (by omega), hf]
      rw [hkeep e (by decide) (by decide), e]
      refine (dapp_none h hw hf).mono ?_
      rintro e w' ⟨rfl, rfl⟩
      exact ⟨rfl, same⟩
    | some l =>
      by_cases hu : R ≤ s.used
      · have e : s.appE R F n p = 2 := by unfold Ds.appE; rw [if_neg (by omega), hf]; exact if_pos hu
        rw [hkeep e (by decide) (by decide), e]
        refine (dapp_full h hw hf hu).mono ?_
        rintro e w' ⟨rfl, b⟩
        exact ⟨rfl, Ch.same (DR_good _ _ _ _) ⟨_, _, _, h, rfl⟩ b⟩
      · cases hc : F.contains (s.deeds + 1) with
        | true =>
          have e : s.appE R F n p = 50 := by unfold Ds.appE; rw [if_neg (by omega), hf]; dsimp only; rw [if_neg hu, hc]; rfl
          have e2 : s.app R F n p = s.deed_ := by unfold Ds.app; rw [e, if_neg (by decide), if_pos rfl]
          rw [e, e2]
          exact dapp_fault h K hd hw hf (by omega) hc
        | false =>
          have e : s.appE R F n p = 0 := by unfold Ds.appE; rw [if_neg (by omega), hf]; dsimp only; rw [if_neg hu, hc]; rfl
          have e2 : s.app R F n p = ⟨s.made, s.deeds + 1, s.reads, s.writes + 1, s.used + 1, max s.peak (s.used + 1), addPg s.fs n p⟩ := by unfold Ds.app; rw [if_pos e]
          rw [e, e2]
          obtain ⟨ad, rfl, ha⟩ := hp.2 (by omega)
          exact dapp_ok h K hd hw hf (by omega) hc ha hl (fun e => hne ad rfl (.inl e))
  · have e : s.appE R F n p = 1 := by unfold Ds.appE; exact if_pos (by rw [hp.1]; exact hk)
    rw [hkeep e (by decide) (by decide), e]
    refine (dapp_arg h hw hk).mono ?_
    rintro e w' ⟨rfl, rfl⟩
    exact ⟨rfl, same⟩
theorem row_nil (w : World) (e : TypeId) : w.ownsRow 0 e 1 (.slice none 0 0) 0 [] := ⟨rfl, .inl ⟨rfl, rfl⟩⟩
theorem Ch.plus_nil {w' : World} {R' : Res} (h : Ch w S R' w') (e : TypeId) : Ch w S (star R' (rowR e 1 (.slice none 0 0) 0 [])) w' := by
  obtain ⟨S', h1, h2, h3⟩ := h
  exact ⟨S', ⟨S', fun k => (Value.slice none 0 0).ownBlock = some k, h1, ⟨row_nil _ _, rfl⟩, fun k _ e => by simp [Value.ownBlock] at e, fun k => by simp [Value.ownBlock]⟩, h2, h3⟩
theorem d_read (H : DR bd R F s w S) (K : DOk R s) (hd : s.deeds ≤ 1000000000) {n i : Int} (hw : (Lit.int .i64 n).wf = true) :
    Calls Tryz.prog 110 #[dp bd, .int .i64 n, .int .i64 i] w fun e w' => ∃ v : Option Addr × Nat × Nat, e = .returned (.tuple #[.slice v.1 v.2.1 v.2.2, .int .i64 (s.readE F n i)]) ∧ Ch w S (star (DR bd R F (s.read F n i)) (rowR 5 1 (.slice v.1 v.2.1 v.2.2) v.2.1 (b8 (s.readQ F n i)))) w' := by
  obtain ⟨bm, bf, V, h, rfl⟩ := H
  have hE : s.readE F n i = 4 ∨ s.readE F n i = 50 ∨ s.readE F n i = 0 := by
    unfold Ds.readE
    cases s.find n with
    | none => exact .inl rfl
    | some l =>
      dsimp only
      split
      · exact .inl rfl
      · split
        · exact .inr (.inl rfl)
        · exact .inr (.inr rfl)
  rcases hE with e | e | e
  · have e2 : s.read F n i = s := by unfold Ds.read; rw [e, if_neg (by decide), if_neg (by decide)]
    have e3 : s.readQ F n i = [] := by unfold Ds.readQ; rw [e, if_neg (by decide)]
    rw [e, e2, e3]
    refine (dread_none h hw e).mono ?_
    rintro e w' ⟨rfl, rfl⟩
    exact ⟨(none, 0, 0), rfl, Ch.plus_nil (Ch.same (DR_good _ _ _ _) ⟨_, _, _, h, rfl⟩ (Below.refl _ _)) _⟩
  · have e2 : s.read F n i = s.deed_ := by unfold Ds.read; rw [e, if_neg (by decide), if_pos rfl]
    have e3 : s.readQ F n i = [] := by unfold Ds.readQ; rw [e, if_neg (by decide)]
    rw [e, e2, e3]
    refine (dread_fault h K hd hw e).mono ?_
    rintro e w' ⟨rfl, hc⟩
    exact ⟨(none, 0, 0), rfl, Ch.plus_nil hc _⟩
  · have e3 : s.readQ F n i = s.readP n i := by unfold Ds.readQ; rw [if_pos e]
    rw [e3]
    refine (dread_ok h K hd hw e).mono ?_
    rintro e' w' ⟨v, rfl, hc⟩
    exact ⟨(v.1, 256, v.2), by rw [e], hc⟩
end
theorem d_new_no {w : World} {g : Int} {A : Option Addr} {k c : Nat} (h : g < 0 ∨ 16384 < g) : Calls Tryz.prog 45 #[.int .i64 g, .slice A k c] w fun e w' => e = .returned (.tuple #[.pointer none, .int .i64 1]) ∧ w' = w := dnew_no h
end Go.Proofs.YtkbapoeilcapfaaGreat

/- the disk: a nil one; Page; the calls beside a frame. -/
namespace Go.Proofs.YtkbapoeilcapfaaGreat
open Go.RowKit Go.Maps
set_option linter.unusedVariables false
set_option linter.unusedSimpArgs false
set_option maxRecDepth 6000

abbrev NP : Value := .pointer none
theorem n_create (w : World) : Calls Tryz.prog 74 #[NP] w fun e w' => e = .returned (.tuple #[.int .i64 0, .int .i64 6]) ∧ Below w.heap.size w w' := by
  have HR := Lib.hid dready_nil
  go_enter Tryz.func74, Tryz.ntmps74
  go_wp2_with (go_at_call 56; refine (HR.out _).mono ?_; rintro e w1 ⟨rfl, hw⟩; obtain rfl := hw.symm; clear hw)
  go_ret2
  exact ⟨by trivial, Below.refl _ _⟩
theorem n_app (w : World) (n : Int) (v : Value) : Calls Tryz.prog 109 #[NP, .int .i64 n, v] w fun e w' => e = .returned (.int .i64 6) ∧ Below w.heap.size w w' := by
  have HR := Lib.hid dready_nil
  go_enter Tryz.func109, Tryz.ntmps109
  go_wp2_with (go_at_call 56; refine (HR.out _).mono ?_; rintro e w1 ⟨rfl, hw⟩; obtain rfl := hw.symm; clear hw)
  go_ret
  exact ⟨by trivial, Below.refl _ _⟩
theorem n_read (w : World) (n i : Int) : Calls Tryz.prog 110 #[NP, .int .i64 n, .int .i64 i] w fun e w' => e = .returned (.tuple #[.slice none 0 0, .int .i64 6]) ∧ Below w.heap.size w w' := by
  have HR := Lib.hid dready_nil
  go_enter Tryz.func110, Tryz.ntmps110
  go_wp2_with (go_at_call 56; refine (HR.out _).mono ?_; rintro e w1 ⟨rfl, hw⟩; obtain rfl := hw.symm; clear hw)
  go_ret2
  exact ⟨by trivial, Below.refl _ _⟩
theorem n_del (w : World) (n : Int) : Calls Tryz.prog 57 #[NP, .int .i64 n] w fun e w' => e = .returned (.int .i64 6) ∧ Below w.heap.size w w' := by
  have HR := Lib.hid dready_nil
  go_enter Tryz.func57, Tryz.ntmps57
  go_wp2_with (go_at_call 56; refine (HR.out _).mono ?_; rintro e w1 ⟨rfl, hw⟩; obtain rfl := hw.symm; clear hw)
  go_ret
  exact ⟨by trivial, Below.refl _ _⟩
theorem n_size (w : World) (n : Int) : Calls Tryz.prog 19 #[NP, .int .i64 n] w fun e w' => e = .returned (.tuple #[.int .i64 0, .int .i64 6]) ∧ Below w.heap.size w w' := by
  have HR := Lib.hid dready_nil
  go_enter Tryz.func19, Tryz.ntmps19
  go_wp2_with (go_at_call 56; refine (HR.out _).mono ?_; rintro e w1 ⟨rfl, hw⟩; obtain rfl := hw.symm; clear hw)
  go_ret2
  exact ⟨by trivial, Below.refl _ _⟩
theorem n_files (w : World) : Calls Tryz.prog 26 #[NP] w fun e w' => e = .returned (.slice none 0 0) ∧ Below w.heap.size w w' := by
  have HR := Lib.hid dready_nil
  go_enter Tryz.func26, Tryz.ntmps26
  go_wp2_with (go_at_call 56; refine (HR.out _).mono ?_; rintro e w1 ⟨rfl, hw⟩; obtain rfl := hw.symm; clear hw)
  go_ret
  exact ⟨by trivial, Below.refl _ _⟩
end Go.Proofs.YtkbapoeilcapfaaGreat

/- the disk: the calls beside a frame. -/
namespace Go.Proofs.YtkbapoeilcapfaaGreat
open Go.RowKit Go.Maps
set_option linter.unusedVariables false
set_option linter.unusedSimpArgs false
set_option maxRecDepth 6000

section
variable {w0 w : World} {Fr : Res} {bd : Nat} {R : Int} {F : List Int} {s : Ds}
theorem v_create (g : Good Fr) (H : In w0 w (star (DR bd R F s) Fr)) (K : DOk R s) (hm : s.made ≤ 1000000000) :
    Calls Tryz.prog 74 #[dp bd] w fun e w' => e = .returned (.tuple #[.int .i64 (if s.createE = 0 then s.made + 1 else 0), .int .i64 s.createE]) ∧ In w0 w' (star (DR bd R F s.create) Fr) :=
  H.call1 g fun S hS => d_create hS K hm
theorem v_del (g : Good Fr) (H : In w0 w (star (DR bd R F s) Fr)) (K : DOk R s) {n : Int} (hw : (Lit.int .i64 n).wf = true) :
    Calls Tryz.prog 57 #[dp bd, .int .i64 n] w fun e w' => e = .returned (.int .i64 (s.delE n)) ∧ In w0 w' (star (DR bd R F (s.del n)) Fr) :=
  H.call1 g fun S hS => d_del hS K hw
/-- The bytes stand in the frame. -/
theorem v_app {A : Option Addr} {k c : Nat} {p : Pg} {n : Int} (g : Good Fr) (H : In w0 w (star (DR bd R F s) (star (rowR 5 1 (.slice A k c) k (b8 p)) Fr))) (K : DOk R s) (hd : s.deeds ≤ 1000000000) (hw : (Lit.int .i64 n).wf = true) :
    Calls Tryz.prog 109 #[dp bd, .int .i64 n, .slice A k c] w fun e w' => e = .returned (.int .i64 (s.appE R F n p)) ∧ In w0 w' (star (DR bd R F (s.app R F n p)) (star (rowR 5 1 (.slice A k c) k (b8 p)) Fr)) := by
  refine H.callF1 (star_good (rowR_good _ _ _ _ _) g) fun S1 S2 h1 h2 hd2 _ => ?_
  obtain ⟨T1, T2, ⟨ho, rfl⟩, h4, hd3, hs⟩ := h2
  exact d_app h1 K hd hw (RdBy.of_own ho) (fun ad e hS => hd2 _ hS ((hs _).2 (.inl (by rw [e]; rfl))))
/-- The bytes lie below. -/
theorem v_app0 {A : Option Addr} {k c : Nat} {p : Pg} {n : Int} (g : Good Fr) (H : In w0 w (star (DR bd R F s) Fr)) (K : DOk R s) (hd : s.deeds ≤ 1000000000) (hw : (Lit.int .i64 n).wf = true) (hp : RdBy w0 A k p) :
    Calls Tryz.prog 109 #[dp bd, .int .i64 n, .slice A k c] w fun e w' => e = .returned (.int .i64 (s.appE R F n p)) ∧ In w0 w' (star (DR bd R F (s.app R F n p)) Fr) := by
  refine H.callF1 g fun S1 S2 h1 h2 hd2 hge => ?_
  by_cases hk : 0 < k
  · obtain ⟨ad, rfl, ha⟩ := hp.2 hk
    refine d_app h1 K hd hw (hp.below H.bel) (fun ad' e hS => ?_)
    injection e with e
    subst e
    have := hge _ hS
    have := ha.1
    omega
  · obtain ⟨bm, bf, V, h, rfl⟩ := h1
    have e : s.appE R F n p = 1 := by unfold Ds.appE; exact if_pos (by rw [hp.1]; omega)
    have e2 : s.app R F n p = s := by unfold Ds.app; rw [e, if_neg (by decide), if_neg (by decide)]
    rw [e, e2]
    refine (dapp_arg h hw (by omega)).mono ?_
    rintro e w' ⟨rfl, rfl⟩
    exact ⟨rfl, Ch.same (DR_good _ _ _ _) ⟨_, _, _, h, rfl⟩ (Below.refl _ _)⟩
theorem v_read {n i : Int} (g : Good Fr) (H : In w0 w (star (DR bd R F s) Fr)) (K : DOk R s) (hd : s.deeds ≤ 1000000000) (hw : (Lit.int .i64 n).wf = true) :
    Calls Tryz.prog 110 #[dp bd, .int .i64 n, .int .i64 i] w fun e w' => ∃ v : Option Addr × Nat × Nat, e = .returned (.tuple #[.slice v.1 v.2.1 v.2.2, .int .i64 (s.readE F n i)]) ∧ In w0 w' (star (DR bd R F (s.read F n i)) (star (rowR 5 1 (.slice v.1 v.2.1 v.2.2) v.2.1 (b8 (s.readQ F n i))) Fr)) := by
  refine (H.call g (Q := fun (v : Option Addr × Nat × Nat) e => e = .returned (.tuple #[.slice v.1 v.2.1 v.2.2, .int .i64 (s.readE F n i)])) fun S hS => d_read hS K hd hw).mono ?_
  rintro e w' ⟨v, h1, h2⟩
  exact ⟨v, h1, h2.assoc⟩
theorem v_size {n : Int} (g : Good Fr) (H : In w0 w (star (DR bd R F s) Fr)) (hw : (Lit.int .i64 n).wf = true) :
    Calls Tryz.prog 19 #[dp bd, .int .i64 n] w fun e w' => e = .returned (.tuple #[.int .i64 ((s.find n).elim 0 fun l => (l.length : Int)), .int .i64 (if (s.find n).isSome then 0 else 4)]) ∧ w' = w :=
  H.left.get fun S h1 => d_size h1 hw
theorem v_files (g : Good Fr) (H : In w0 w (star (DR bd R F s) Fr)) (K : DOk R s) : Calls Tryz.prog 26 #[dp bd] w fun e w' => ∃ A c, e = .returned (.slice A s.fs.length c) ∧ In w0 w' (star (DR bd R F s) (star (rowR 3 1 (.slice A s.fs.length c) s.fs.length (s.fs.map fun x => Value.int .i64 x.1)) Fr)) :=
  H.left.get fun S h1 => (d_files h1 K).mono fun e w' ⟨A, c, e1, ho, b⟩ => ⟨A, c, e1, ((H.row (star_good (DR_good _ _ _ _) g) b ho).assoc).imp fun S h => star_mono h (fun _ => id) (fun _ => star_comm)⟩
end
end Go.Proofs.YtkbapoeilcapfaaGreat
