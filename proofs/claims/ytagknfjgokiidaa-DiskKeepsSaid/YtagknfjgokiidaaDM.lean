/- the disk as plain data: what each call does, and what stays true. -/
import Derived.Test.YtagknfjgokiidaaMem
namespace Go.Proofs.Ytagknfjgokiidaa
set_option linter.unusedVariables false
set_option linter.unusedSimpArgs false

abbrev Pg := List Int
structure Ds where
  made : Int
  deeds : Int
  reads : Int
  writes : Int
  used : Int
  peak : Int
  fs : List (Int × List Pg)
  deriving DecidableEq
def Ds.new : Ds := ⟨0, 0, 0, 0, 0, 0, []⟩
def Ds.find (s : Ds) (n : Int) : Option (List Pg) := (s.fs.find? fun x => x.1 == n).map (·.2)
def addPg (fs : List (Int × List Pg)) (n : Int) (p : Pg) : List (Int × List Pg) := fs.map fun x => if x.1 = n then (x.1, x.2 ++ [p]) else x
def pagesN (fs : List (Int × List Pg)) : Int := (fs.map fun x => (x.2.length : Int)).sum
def Ds.deed_ (s : Ds) : Ds := ⟨s.made, s.deeds + 1, s.reads, s.writes, s.used, s.peak, s.fs⟩
def Ds.createE (s : Ds) : Int := if 32768 ≤ s.fs.length then 2 else 0
def Ds.create (s : Ds) : Ds := if s.createE = 0 then ⟨s.made + 1, s.deeds, s.reads, s.writes, s.used, s.peak, s.fs ++ [(s.made + 1, [])]⟩ else s
def Ds.appE (R : Int) (F : List Int) (s : Ds) (n : Int) (p : Pg) : Int :=
  if p.length ≠ 256 then 1 else match s.find n with
  | none => 4
  | some _ => if R ≤ s.used then 2 else if F.contains (s.deeds + 1) then 50 else 0
def Ds.app (R : Int) (F : List Int) (s : Ds) (n : Int) (p : Pg) : Ds :=
  if s.appE R F n p = 0 then ⟨s.made, s.deeds + 1, s.reads, s.writes + 1, s.used + 1, max s.peak (s.used + 1), addPg s.fs n p⟩
  else if s.appE R F n p = 50 then s.deed_ else s
def Ds.readE (F : List Int) (s : Ds) (n i : Int) : Int :=
  match s.find n with
  | none => 4
  | some l => if i < 0 ∨ (l.length : Int) ≤ i then 4 else if F.contains (s.deeds + 1) then 50 else 0
def Ds.readP (s : Ds) (n i : Int) : Pg := ((s.find n).getD []).getD i.toNat []
def Ds.read (F : List Int) (s : Ds) (n i : Int) : Ds :=
  if s.readE F n i = 0 then ⟨s.made, s.deeds + 1, s.reads + 1, s.writes, s.used, s.peak, s.fs⟩
  else if s.readE F n i = 50 then s.deed_ else s
def Ds.delE (s : Ds) (n : Int) : Int := match s.find n with | none => 4 | some _ => 0
def Ds.del (s : Ds) (n : Int) : Ds :=
  match s.find n with
  | none => s
  | some l => ⟨s.made, s.deeds, s.reads, s.writes, s.used - l.length, s.peak, s.fs.filter fun x => !(x.1 == n)⟩

def PgOk (p : Pg) : Prop := p.length = 256 ∧ ∀ b ∈ p, 0 ≤ b ∧ b ≤ 255
structure DOk (R : Int) (s : Ds) : Prop where
  ord : s.fs.Pairwise (fun x y => x.1 < y.1)
  num : ∀ x ∈ s.fs, 1 ≤ x.1 ∧ x.1 ≤ s.made
  made : 0 ≤ s.made
  room : 0 ≤ R ∧ R ≤ 16384
  cnt : s.used = pagesN s.fs
  used : s.used ≤ R ∧ s.used ≤ s.peak ∧ s.peak ≤ R
  acts : 0 ≤ s.reads ∧ 0 ≤ s.writes ∧ s.reads + s.writes ≤ s.deeds
  pgs : ∀ x ∈ s.fs, ∀ p ∈ x.2, PgOk p
  len : s.fs.length ≤ 32768

theorem pagesN_nil : pagesN [] = 0 := rfl
theorem pagesN_cons (x : Int × List Pg) (l : List (Int × List Pg)) : pagesN (x :: l) = x.2.length + pagesN l := by simp [pagesN]
theorem pagesN_app (l m : List (Int × List Pg)) : pagesN (l ++ m) = pagesN l + pagesN m := by simp [pagesN]
theorem pagesN_nonneg (l : List (Int × List Pg)) : 0 ≤ pagesN l := by
  induction l with
  | nil => simp [pagesN]
  | cons x t ih => rw [pagesN_cons]; omega
theorem pagesN_mem {l : List (Int × List Pg)} {x : Int × List Pg} (h : x ∈ l) : (x.2.length : Int) ≤ pagesN l := by
  induction l with
  | nil => simp at h
  | cons y t ih =>
    rw [pagesN_cons]
    rcases List.mem_cons.1 h with rfl | h
    · have := pagesN_nonneg t; omega
    · have := ih h; omega
theorem fs_inj {l : List (Int × List Pg)} (ho : l.Pairwise (fun x y => x.1 < y.1)) {a b : Int × List Pg} (ha : a ∈ l) (hb : b ∈ l) (h : a.1 = b.1) : a = b := by
  induction l with
  | nil => simp at ha
  | cons x t ih =>
    obtain ⟨h1, h2⟩ := List.pairwise_cons.1 ho
    rcases List.mem_cons.1 ha with e | ha <;> rcases List.mem_cons.1 hb with e' | hb
    · rw [e, e']
    · have := h1 _ hb; rw [e] at h; omega
    · have := h1 _ ha; rw [e'] at h; omega
    · exact ih h2 ha hb
theorem Ds.find_mem {s : Ds} {n : Int} {l : List Pg} (h : s.find n = some l) : (n, l) ∈ s.fs := by
  unfold Ds.find at h
  cases hf : s.fs.find? fun x => x.1 == n with
  | none => rw [hf] at h; cases h
  | some x =>
    rw [hf] at h
    have h1 := List.mem_of_find?_eq_some hf
    have h2 : x.1 = n := by simpa using List.find?_some hf
    have h3 : x.2 = l := by simpa using h
    rw [← h2, ← h3]
    exact h1
theorem Ds.find_none {s : Ds} {n : Int} (h : s.find n = none) : ∀ x ∈ s.fs, x.1 ≠ n := by
  unfold Ds.find at h
  intro x hx
  have h1 : (s.fs.find? fun x => x.1 == n) = none := by
    cases hf : s.fs.find? fun x => x.1 == n with
    | none => rfl
    | some x => rw [hf] at h; cases h
  have := List.find?_eq_none.1 h1 x hx
  simpa using this
theorem Ds.find_of_mem {s : Ds} (ho : s.fs.Pairwise (fun x y => x.1 < y.1)) {x : Int × List Pg} (hx : x ∈ s.fs) : s.find x.1 = some x.2 := by
  cases h : s.find x.1 with
  | none => exact absurd rfl (Ds.find_none h x hx)
  | some l =>
    have := fs_inj ho (Ds.find_mem h) hx rfl
    rw [← this]
theorem addPg_ns (fs : List (Int × List Pg)) (n : Int) (p : Pg) : (addPg fs n p).map (·.1) = fs.map (·.1) := by
  unfold addPg
  rw [List.map_map]
  refine List.map_congr_left fun x _ => ?_
  dsimp only [Function.comp]
  split <;> rfl
theorem addPg_len (fs : List (Int × List Pg)) (n : Int) (p : Pg) : (addPg fs n p).length = fs.length := by simp [addPg]
theorem addPg_ord {fs : List (Int × List Pg)} (n : Int) (p : Pg) (ho : fs.Pairwise (fun x y => x.1 < y.1)) : (addPg fs n p).Pairwise (fun x y => x.1 < y.1) := by
  have h1 : (fs.map (·.1)).Pairwise (· < ·) := List.pairwise_map.2 ho
  rw [← addPg_ns fs n p] at h1
  exact List.pairwise_map.1 h1
theorem addPg_mem {fs : List (Int × List Pg)} {n : Int} {p : Pg} {x : Int × List Pg} (h : x ∈ addPg fs n p) : (x ∈ fs ∧ x.1 ≠ n) ∨ ∃ l, (n, l) ∈ fs ∧ x = (n, l ++ [p]) := by
  unfold addPg at h
  obtain ⟨y, hy, rfl⟩ := List.mem_map.1 h
  split
  · next e => exact .inr ⟨y.2, by rw [← e]; exact hy, by rw [← e]⟩
  · next e => exact .inl ⟨hy, e⟩
theorem addPg_none {fs : List (Int × List Pg)} {n : Int} (p : Pg) (h : ∀ x ∈ fs, x.1 ≠ n) : addPg fs n p = fs := by
  unfold addPg
  conv => rhs; rw [← List.map_id fs]
  refine List.map_congr_left fun x hx => ?_
  rw [if_neg (h x hx)]
  rfl
theorem addPg_pages {fs : List (Int × List Pg)} {n : Int} {l : List Pg} (p : Pg) (ho : fs.Pairwise (fun x y => x.1 < y.1)) (hm : (n, l) ∈ fs) : pagesN (addPg fs n p) = pagesN fs + 1 := by
  induction fs with
  | nil => simp at hm
  | cons y t ih =>
    obtain ⟨h1, h2⟩ := List.pairwise_cons.1 ho
    unfold addPg
    rw [List.map_cons, pagesN_cons, pagesN_cons]
    rcases List.mem_cons.1 hm with rfl | hm
    · have : (t.map fun x => if x.1 = n then (x.1, x.2 ++ [p]) else x) = t := by
        have := addPg_none (fs := t) (n := n) p (fun x hx => by have := h1 x hx; dsimp only at this; omega)
        exact this
      rw [this, if_pos rfl]
      simp
      omega
    · have := h1 _ hm
      dsimp only at this
      have e := ih h2 hm
      unfold addPg at e
      rw [e, if_neg (by omega)]
      omega
theorem drop_pages {fs : List (Int × List Pg)} {n : Int} {l : List Pg} (ho : fs.Pairwise (fun x y => x.1 < y.1)) (hm : (n, l) ∈ fs) : pagesN (fs.filter fun x => !(x.1 == n)) = pagesN fs - l.length := by
  induction fs with
  | nil => simp at hm
  | cons y t ih =>
    obtain ⟨h1, h2⟩ := List.pairwise_cons.1 ho
    rcases List.mem_cons.1 hm with rfl | hm
    · have : t.filter (fun x => !(x.1 == n)) = t := by
        rw [List.filter_eq_self]
        intro x hx
        have := h1 x hx
        dsimp only at this
        simp
        omega
      rw [List.filter_cons_of_neg (by simp), this, pagesN_cons]
      dsimp only
      omega
    · have := h1 _ hm
      dsimp only at this
      rw [List.filter_cons_of_pos (by simp; omega), pagesN_cons, pagesN_cons, ih h2 hm]
      omega
theorem DOk.new {R : Int} (h0 : 0 ≤ R) (h1 : R ≤ 16384) : DOk R Ds.new where
  ord := by simp [Ds.new]
  num := by simp [Ds.new]
  made := by simp [Ds.new]
  room := ⟨h0, h1⟩
  cnt := by simp [Ds.new, pagesN]
  used := by simp [Ds.new]; exact h0
  acts := by simp [Ds.new]
  pgs := by simp [Ds.new]
  len := by simp [Ds.new]
theorem DOk.deed_ {R : Int} {s : Ds} (h : DOk R s) : DOk R s.deed_ :=
  ⟨h.ord, h.num, h.made, h.room, h.cnt, h.used, by have := h.acts; unfold Ds.deed_; dsimp only; omega, h.pgs, h.len⟩
theorem DOk.create {R : Int} {s : Ds} (h : DOk R s) : DOk R s.create := by
  unfold Ds.create
  split
  · next he =>
    have hl : s.fs.length < 32768 := by
      unfold Ds.createE at he
      rcases Nat.lt_or_ge s.fs.length 32768 with h | h
      · exact h
      · rw [if_pos h] at he; cases he
    refine ⟨List.pairwise_append.2 ⟨h.ord, by simp, ?_⟩, ?_, by have := h.made; dsimp only; omega, h.room, ?_, h.used, h.acts, ?_, by simp; omega⟩
    · intro x hx y hy
      obtain rfl := List.mem_singleton.1 hy
      have := h.num x hx
      dsimp only
      omega
    · intro x hx
      have hm := h.made
      rcases List.mem_append.1 hx with hx | hx
      · have := h.num x hx; dsimp only; omega
      · obtain rfl := List.mem_singleton.1 hx; dsimp only; omega
    · dsimp only
      rw [pagesN_app, pagesN_cons, pagesN_nil, h.cnt]
      simp
    · intro x hx p hp
      rcases List.mem_append.1 hx with hx | hx
      · exact h.pgs x hx p hp
      · obtain rfl := List.mem_singleton.1 hx; simp at hp
  · exact h
theorem DOk.app {R : Int} {F : List Int} {s : Ds} (h : DOk R s) (n : Int) {p : Pg} (hb : ∀ b ∈ p, 0 ≤ b ∧ b ≤ 255) : DOk R (s.app R F n p) := by
  unfold Ds.app
  split
  · next he =>
    unfold Ds.appE at he
    by_cases hp : p.length = 256
    · rw [if_neg (by omega)] at he
      cases hf : s.find n with
      | none => rw [hf] at he; cases he
      | some l =>
        rw [hf] at he
        dsimp only at he
        have hr : s.used < R := by
          rcases Decidable.em (R ≤ s.used) with h | h
          · rw [if_pos h] at he; cases he
          · omega
        have hm := Ds.find_mem hf
        refine ⟨addPg_ord n p h.ord, ?_, h.made, h.room, ?_, ?_, ?_, ?_, ?_⟩
        · intro x hx
          rcases addPg_mem hx with ⟨hx, _⟩ | ⟨l', hl', rfl⟩
          · exact h.num x hx
          · have := h.num _ hl'; exact this
        · dsimp only
          rw [addPg_pages p h.ord hm, h.cnt]
        · have := h.used
          dsimp only
          omega
        · have := h.acts
          dsimp only
          omega
        · intro x hx q hq
          rcases addPg_mem hx with ⟨hx, _⟩ | ⟨l', hl', rfl⟩
          · exact h.pgs x hx q hq
          · rcases List.mem_append.1 hq with hq | hq
            · exact h.pgs _ hl' q hq
            · rw [List.mem_singleton.1 hq]; exact ⟨hp, hb⟩
        · dsimp only
          rw [addPg_len]
          exact h.len
    · rw [if_pos hp] at he; cases he
  · split
    · exact h.deed_
    · exact h
theorem DOk.read {R : Int} {F : List Int} {s : Ds} (h : DOk R s) (n i : Int) : DOk R (s.read F n i) := by
  unfold Ds.read
  split
  · exact ⟨h.ord, h.num, h.made, h.room, h.cnt, h.used, by have := h.acts; dsimp only; omega, h.pgs, h.len⟩
  · split
    · exact h.deed_
    · exact h
theorem DOk.del {R : Int} {s : Ds} (h : DOk R s) (n : Int) : DOk R (s.del n) := by
  unfold Ds.del
  cases hf : s.find n with
  | none => exact h
  | some l =>
    have hm := Ds.find_mem hf
    refine ⟨h.ord.sublist List.filter_sublist, fun x hx => h.num x (List.mem_filter.1 hx).1, h.made, h.room, ?_, ?_, h.acts, fun x hx => h.pgs x (List.mem_filter.1 hx).1, Nat.le_trans (List.length_filter_le _ _) h.len⟩
    · dsimp only
      rw [drop_pages h.ord hm, h.cnt]
    · have := h.used
      dsimp only
      omega
theorem create_deeds (s : Ds) : s.create.deeds = s.deeds ∧ s.create.made ≤ s.made + 1 := by
  unfold Ds.create
  split
  · exact ⟨rfl, Int.le_refl _⟩
  · exact ⟨rfl, by omega⟩
theorem app_deeds (R : Int) (F : List Int) (s : Ds) (n : Int) (p : Pg) : (s.app R F n p).deeds ≤ s.deeds + 1 ∧ (s.app R F n p).made = s.made := by
  unfold Ds.app Ds.deed_
  split
  · exact ⟨Int.le_refl _, rfl⟩
  · split
    · exact ⟨Int.le_refl _, rfl⟩
    · exact ⟨by omega, rfl⟩
theorem read_deeds (F : List Int) (s : Ds) (n i : Int) : (s.read F n i).deeds ≤ s.deeds + 1 ∧ (s.read F n i).made = s.made := by
  unfold Ds.read Ds.deed_
  split
  · exact ⟨Int.le_refl _, rfl⟩
  · split
    · exact ⟨Int.le_refl _, rfl⟩
    · exact ⟨by omega, rfl⟩
theorem del_deeds (s : Ds) (n : Int) : (s.del n).deeds = s.deeds ∧ (s.del n).made = s.made := by
  unfold Ds.del
  split <;> exact ⟨rfl, rfl⟩
end Go.Proofs.Ytagknfjgokiidaa
