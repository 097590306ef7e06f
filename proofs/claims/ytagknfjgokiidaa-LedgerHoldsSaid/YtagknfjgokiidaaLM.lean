/- the ledger as plain data: what each call does, and what stays true. -/
import Derived.Test.YtagknfjgokiidaaLF
namespace Go.Proofs.Ytagknfjgokiidaa
set_option linter.unusedVariables false
set_option linter.unusedSimpArgs false

structure Acc where
  n : Int
  ab : Option Int
  grant : Int
  held : Int
  peak : Int
  granted : Int
  below : Int
  deriving DecidableEq
structure Ls where
  made : Int
  most : Int
  l : List Acc
  deriving DecidableEq
def Acc.left (a : Acc) : Int := a.grant - a.held - a.granted
def addKid (g : Int) (a : Acc) : Acc := { a with granted := a.granted + g, below := a.below + 1 }
def remKid (g : Int) (a : Acc) : Acc := { a with granted := a.granted - g, below := a.below - 1 }
def holdA (p : Int) (a : Acc) : Acc := { a with held := a.held + p, peak := max a.peak (a.held + p) }
def giveA (p : Int) (a : Acc) : Acc := { a with held := a.held - p }
def Ls.find (s : Ls) (n : Int) : Option Acc := s.l.find? fun a => a.n == n
def updL (l : List Acc) (n : Int) (f : Acc → Acc) : List Acc := l.map fun a => if a.n = n then f a else a
def sumL (l : List Acc) (f : Acc → Int) : Int := (l.map f).sum
def Ls.total (s : Ls) : Int := sumL s.l (·.held)
def Ls.openE (s : Ls) (u g : Int) : Int :=
  if g < 0 then 1 else match s.find u with
  | none => 4
  | some a => if 256 ≤ s.l.length then 2 else if a.left < g then 60 else 0
def Ls.open_ (s : Ls) (u g : Int) : Ls :=
  if s.openE u g = 0 then ⟨s.made + 1, s.most, updL s.l u (addKid g) ++ [⟨s.made + 1, some u, g, 0, 0, 0, 0⟩]⟩ else s
def Ls.closeE (s : Ls) (n : Int) : Int :=
  match s.find n with
  | none => 4
  | some a => if a.ab = none ∨ 0 < a.held ∨ 0 < a.below then 1 else 0
def Ls.close_ (s : Ls) (n : Int) : Ls :=
  if s.closeE n = 0 then match s.find n with
    | none => s
    | some a => ⟨s.made, s.most, (updL s.l (a.ab.getD 0) (remKid a.grant)).filter fun b => !(b.n == n)⟩
  else s
def Ls.takeE (s : Ls) (n p : Int) : Int :=
  if p < 0 then 1 else match s.find n with
  | none => 4
  | some a => if a.left < p then 60 else 0
def Ls.take_ (s : Ls) (n p : Int) : Ls :=
  if s.takeE n p = 0 then
    let l' := updL s.l n (holdA p)
    ⟨s.made, max s.most (sumL l' (·.held)), l'⟩
  else s
def Ls.giveE (s : Ls) (n p : Int) : Int :=
  match s.find n with
  | none => 4
  | some a => if p < 0 ∨ a.held < p then 1 else 0
def Ls.give_ (s : Ls) (n p : Int) : Ls :=
  if s.giveE n p = 0 then ⟨s.made, s.most, updL s.l n (giveA p)⟩ else s
def Ls.new (g : Int) : Ls := ⟨0, 0, [⟨0, none, g, 0, 0, 0, 0⟩]⟩

def kidSum (l : List Acc) (n : Int) : Int := sumL l fun x => if x.ab = some n then x.grant else 0
def kidCnt (l : List Acc) (n : Int) : Int := sumL l fun x => if x.ab = some n then 1 else 0
structure LOk (G : Int) (s : Ls) : Prop where
  ord : s.l.Pairwise (fun x y => x.n < y.n)
  num : ∀ x ∈ s.l, 0 ≤ x.n ∧ x.n ≤ s.made
  made : 0 ≤ s.made
  grantG : 0 ≤ G ∧ G ≤ 16384
  acc : ∀ x ∈ s.l, 0 ≤ x.held ∧ 0 ≤ x.grant ∧ x.grant ≤ 16384 ∧ x.held + x.granted ≤ x.grant ∧ x.held ≤ x.peak ∧ x.peak ≤ x.grant
  kid : ∀ x ∈ s.l, x.granted = kidSum s.l x.n ∧ x.below = kidCnt s.l x.n
  abv : ∀ x ∈ s.l, ∀ n, x.ab = some n → n ∈ s.l.map (·.n)
  root : ∀ x ∈ s.l, x.ab = none ↔ x.n = 0
  zero : ∃ x ∈ s.l, x.n = 0
  tot : sumL s.l (·.grant) - sumL s.l (·.granted) = G
  most : s.total ≤ s.most ∧ s.most ≤ G
  len : s.l.length ≤ 256

theorem sumL_nil (f : Acc → Int) : sumL [] f = 0 := rfl
theorem sumL_cons (x : Acc) (l : List Acc) (f : Acc → Int) : sumL (x :: l) f = f x + sumL l f := by simp [sumL]
theorem sumL_app (l m : List Acc) (f : Acc → Int) : sumL (l ++ m) f = sumL l f + sumL m f := by simp [sumL]
theorem sumL_nonneg {l : List Acc} {f : Acc → Int} (h : ∀ x ∈ l, 0 ≤ f x) : 0 ≤ sumL l f := by
  induction l with
  | nil => simp [sumL]
  | cons x t ih =>
    rw [sumL_cons]
    have := h x (by simp)
    have := ih (fun y hy => h y (by simp [hy]))
    omega
theorem sumL_le {l : List Acc} {f g : Acc → Int} (h : ∀ x ∈ l, f x ≤ g x) : sumL l f ≤ sumL l g := by
  induction l with
  | nil => simp [sumL]
  | cons x t ih =>
    rw [sumL_cons, sumL_cons]
    have := h x (by simp)
    have := ih (fun y hy => h y (by simp [hy]))
    omega
theorem sumL_mem {l : List Acc} {f : Acc → Int} (h : ∀ x ∈ l, 0 ≤ f x) {a : Acc} (ha : a ∈ l) : f a ≤ sumL l f := by
  induction l with
  | nil => simp at ha
  | cons x t ih =>
    rw [sumL_cons]
    have h1 := h x (by simp)
    rcases List.mem_cons.1 ha with rfl | hm
    · have := sumL_nonneg (l := t) (f := f) (fun y hy => h y (by simp [hy]))
      omega
    · have := ih (fun y hy => h y (by simp [hy])) hm
      omega
theorem sumL_cnt {l : List Acc} {f : Acc → Int} (h : ∀ x ∈ l, f x ≤ 1) : sumL l f ≤ l.length := by
  induction l with
  | nil => simp [sumL]
  | cons x t ih =>
    rw [sumL_cons]
    have := h x (by simp)
    have := ih (fun y hy => h y (by simp [hy]))
    simp
    omega
theorem sumL_congr {l : List Acc} {f g : Acc → Int} (h : ∀ x ∈ l, f x = g x) : sumL l f = sumL l g := by
  unfold sumL
  rw [List.map_congr_left h]
theorem updL_same {l : List Acc} {f : Acc → Acc} {n : Int} (g : Acc → Int) (h : ∀ a, g (f a) = g a) : sumL (updL l n f) g = sumL l g := by
  unfold sumL updL
  rw [List.map_map]
  congr 1
  refine List.map_congr_left fun x _ => ?_
  dsimp only [Function.comp]
  split
  · exact h x
  · rfl
/-- A sum once one account has turned. -/
theorem updL_sum {l : List Acc} {f : Acc → Acc} {a : Acc} (g : Acc → Int) (ho : l.Pairwise (fun x y => x.n < y.n)) (ha : a ∈ l) : sumL (updL l a.n f) g = sumL l g + g (f a) - g a := by
  induction l with
  | nil => simp at ha
  | cons x t ih =>
    obtain ⟨h1, h2⟩ := List.pairwise_cons.1 ho
    unfold updL
    rw [List.map_cons, sumL_cons, sumL_cons]
    rcases List.mem_cons.1 ha with rfl | hm
    · have : (t.map fun b => if b.n = a.n then f b else b) = t := by
        conv => rhs; rw [← List.map_id t]
        refine List.map_congr_left fun y hy => ?_
        have := h1 y hy
        rw [if_neg (by omega)]
        rfl
      rw [this, if_pos rfl]
      omega
    · have h3 := h1 a hm
      have := ih h2 hm
      unfold updL at this
      rw [this, if_neg (by omega)]
      omega
theorem dropL_sum {l : List Acc} {a : Acc} (g : Acc → Int) (ho : l.Pairwise (fun x y => x.n < y.n)) (ha : a ∈ l) : sumL (l.filter fun b => !(b.n == a.n)) g = sumL l g - g a := by
  induction l with
  | nil => simp at ha
  | cons x t ih =>
    obtain ⟨h1, h2⟩ := List.pairwise_cons.1 ho
    rw [sumL_cons]
    rcases List.mem_cons.1 ha with rfl | hm
    · have : (t.filter fun b => !(b.n == a.n)) = t := by
        rw [List.filter_eq_self]
        intro y hy
        have := h1 y hy
        simp
        omega
      simp [this]
      omega
    · have h3 := h1 a hm
      have hne : (!(x.n == a.n)) = true := by simp; omega
      rw [List.filter_cons_of_pos (by simpa using hne), sumL_cons, ih h2 hm]
      omega
theorem find_mem {s : Ls} {n : Int} {a : Acc} (h : s.find n = some a) : a ∈ s.l ∧ a.n = n := by
  unfold Ls.find at h
  exact ⟨List.mem_of_find?_eq_some h, by simpa using List.find?_some h⟩
theorem find_none {s : Ls} {n : Int} (h : s.find n = none) : ∀ x ∈ s.l, x.n ≠ n := by
  unfold Ls.find at h
  intro x hx
  have := List.find?_eq_none.1 h x hx
  simpa using this
theorem ord_inj {l : List Acc} (ho : l.Pairwise (fun x y => x.n < y.n)) {a b : Acc} (ha : a ∈ l) (hb : b ∈ l) (h : a.n = b.n) : a = b := by
  induction l with
  | nil => simp at ha
  | cons x t ih =>
    obtain ⟨h1, h2⟩ := List.pairwise_cons.1 ho
    rcases List.mem_cons.1 ha with e | ha <;> rcases List.mem_cons.1 hb with e' | hb
    · rw [e, e']
    · have := h1 _ hb; rw [e] at h; omega
    · have := h1 _ ha; rw [e'] at h; omega
    · exact ih h2 ha hb
theorem find_of_mem {s : Ls} (ho : s.l.Pairwise (fun x y => x.n < y.n)) {a : Acc} (ha : a ∈ s.l) : s.find a.n = some a := by
  cases h : s.find a.n with
  | none => exact absurd rfl (find_none h a ha)
  | some b =>
    obtain ⟨h1, h2⟩ := find_mem h
    rw [ord_inj ho h1 ha h2]
theorem updL_mem {l : List Acc} {f : Acc → Acc} {n : Int} {x : Acc} (h : x ∈ updL l n f) : (x ∈ l ∧ x.n ≠ n) ∨ ∃ y ∈ l, y.n = n ∧ x = f y := by
  unfold updL at h
  obtain ⟨y, hy, rfl⟩ := List.mem_map.1 h
  split
  · next e => exact .inr ⟨y, hy, e, rfl⟩
  · next e => exact .inl ⟨hy, e⟩
theorem updL_ns {l : List Acc} {f : Acc → Acc} {n : Int} (hf : ∀ a, (f a).n = a.n) : (updL l n f).map (·.n) = l.map (·.n) := by
  unfold updL
  rw [List.map_map]
  refine List.map_congr_left fun x _ => ?_
  dsimp only [Function.comp]
  split
  · exact hf x
  · rfl
theorem updL_ord {l : List Acc} {f : Acc → Acc} {n : Int} (hf : ∀ a, (f a).n = a.n) (ho : l.Pairwise (fun x y => x.n < y.n)) : (updL l n f).Pairwise (fun x y => x.n < y.n) := by
  have h1 : (l.map (·.n)).Pairwise (· < ·) := List.pairwise_map.2 ho
  rw [← updL_ns (n := n) hf] at h1
  exact List.pairwise_map.1 h1
theorem updL_len (l : List Acc) (n : Int) (f : Acc → Acc) : (updL l n f).length = l.length := by simp [updL]
theorem LOk.gr0 {G : Int} {s : Ls} (h : LOk G s) {x : Acc} (hx : x ∈ s.l) : 0 ≤ x.granted ∧ 0 ≤ x.below ∧ x.below ≤ 256 := by
  obtain ⟨e1, e2⟩ := h.kid x hx
  have a1 : 0 ≤ kidSum s.l x.n := sumL_nonneg fun y hy => by
    have := (h.acc y hy).2.1
    split <;> omega
  have a2 : 0 ≤ kidCnt s.l x.n := sumL_nonneg fun y hy => by split <;> omega
  have a3 : kidCnt s.l x.n ≤ s.l.length := sumL_cnt fun y hy => by split <;> omega
  have := h.len
  omega
theorem LOk.total_le {G : Int} {s : Ls} (h : LOk G s) : 0 ≤ s.total ∧ s.total ≤ G := by
  refine ⟨sumL_nonneg fun x hx => (h.acc x hx).1, ?_⟩
  have h1 : s.total + sumL s.l (·.granted) ≤ sumL s.l (·.grant) := by
    have : sumL s.l (fun x => x.held + x.granted) ≤ sumL s.l (·.grant) := sumL_le fun x hx => (h.acc x hx).2.2.2.1
    have e : sumL s.l (fun x => x.held + x.granted) = s.total + sumL s.l (·.granted) := by
      unfold Ls.total
      generalize s.l = l
      induction l with
      | nil => rfl
      | cons x t ih => rw [sumL_cons, sumL_cons, sumL_cons, ih]; omega
    omega
  have := h.tot
  omega
theorem LOk.new {G : Int} (h0 : 0 ≤ G) (h1 : G ≤ 16384) : LOk G (Ls.new G) where
  ord := by simp [Ls.new]
  num := by simp [Ls.new]
  made := by simp [Ls.new]
  grantG := ⟨h0, h1⟩
  acc := by simp [Ls.new]; omega
  kid := by simp [Ls.new, kidSum, kidCnt, sumL]
  abv := by simp [Ls.new]
  root := by simp [Ls.new]
  zero := by simp [Ls.new]
  tot := by simp [Ls.new, sumL]
  most := by simp [Ls.new, Ls.total, sumL]; omega
  len := by simp [Ls.new]
theorem LOk.open_ {G : Int} {s : Ls} (h : LOk G s) (u g : Int) : LOk G (s.open_ u g) := by
  unfold Ls.open_
  split
  · next he =>
    unfold Ls.openE at he
    have hg : 0 ≤ g := by
      rcases Decidable.em (g < 0) with h | h
      · rw [if_pos h] at he; cases he
      · omega
    rw [if_neg (by omega)] at he
    cases hf : s.find u with
    | none => rw [hf] at he; cases he
    | some a =>
      rw [hf] at he
      dsimp only at he
      obtain ⟨ha, rfl⟩ := find_mem hf
      have hl : s.l.length < 256 := by
        rcases Nat.lt_or_ge s.l.length 256 with h | h
        · exact h
        · rw [if_pos h] at he; cases he
      rw [if_neg (by omega)] at he
      have hleft : g ≤ a.left := by
        rcases Decidable.em (a.left < g) with h | h
        · rw [if_pos h] at he; cases he
        · omega
      unfold Acc.left at hleft
      clear he hf
      have hacc := h.acc a ha
      have hgr := h.gr0 ha
      have hks : ∀ m, kidSum (updL s.l a.n (addKid g)) m = kidSum s.l m := fun m => updL_same _ (fun _ => rfl)
      have hkc : ∀ m, kidCnt (updL s.l a.n (addKid g)) m = kidCnt s.l m := fun m => updL_same _ (fun _ => rfl)
      refine ⟨?_, ?_, by have := h.made; dsimp only; omega, h.grantG, ?_, ?_, ?_, ?_, ?_, ?_, ?_, ?_⟩
      · refine List.pairwise_append.2 ⟨updL_ord (fun _ => rfl) h.ord, by simp, ?_⟩
        intro x hx y hy
        obtain rfl := List.mem_singleton.1 hy
        have : x.n ∈ s.l.map (·.n) := by rw [← updL_ns (n := a.n) (f := addKid g) (fun _ => rfl)]; exact List.mem_map.2 ⟨x, hx, rfl⟩
        obtain ⟨z, hz, e⟩ := List.mem_map.1 this
        have := (h.num z hz).2
        dsimp only at *
        omega
      · intro x hx
        have hm := h.made
        rcases List.mem_append.1 hx with hx | hx
        · rcases updL_mem hx with ⟨hx, _⟩ | ⟨y, hy, _, rfl⟩
          · have := h.num x hx; dsimp only; omega
          · have := h.num y hy; unfold addKid; dsimp only; omega
        · obtain rfl := List.mem_singleton.1 hx
          dsimp only
          omega
      · intro x hx
        rcases List.mem_append.1 hx with hx | hx
        · rcases updL_mem hx with ⟨hx, _⟩ | ⟨y, hy, e, rfl⟩
          · exact h.acc x hx
          · obtain rfl := ord_inj h.ord hy ha e
            unfold addKid
            dsimp only
            omega
        · obtain rfl := List.mem_singleton.1 hx
          dsimp only
          omega
      · intro x hx
        unfold kidSum kidCnt
        rw [sumL_app, sumL_app]
        have e1 := hks x.n
        have e2 := hkc x.n
        unfold kidSum at e1
        unfold kidCnt at e2
        rw [e1, e2]
        simp only [sumL_cons, sumL_nil, Option.some.injEq]
        rcases List.mem_append.1 hx with hx | hx
        · rcases updL_mem hx with ⟨hx, hne⟩ | ⟨y, hy, e, rfl⟩
          · have := h.kid x hx
            unfold kidSum kidCnt at this
            rw [if_neg (fun e => hne e.symm), if_neg (fun e => hne e.symm)]
            omega
          · obtain rfl := ord_inj h.ord hy ha e
            have := h.kid y hy
            unfold kidSum kidCnt at this
            unfold addKid
            dsimp only
            rw [if_pos rfl, if_pos rfl]
            omega
        · obtain rfl := List.mem_singleton.1 hx
          dsimp only
          have hne : ¬ a.n = s.made + 1 := by have := (h.num a ha).2; omega
          have z1 : (sumL s.l fun x => if x.ab = some (s.made + 1) then x.grant else 0) = sumL s.l (fun _ => 0) := sumL_congr fun y hy => by
            rw [if_neg]
            intro e
            obtain ⟨z, hz, e2⟩ := List.mem_map.1 (h.abv y hy _ e)
            have := (h.num z hz).2
            omega
          have z2 : (sumL s.l fun x => if x.ab = some (s.made + 1) then 1 else 0) = sumL s.l (fun _ => 0) := sumL_congr fun y hy => by
            rw [if_neg]
            intro e
            obtain ⟨z, hz, e2⟩ := List.mem_map.1 (h.abv y hy _ e)
            have := (h.num z hz).2
            omega
          have z3 : sumL s.l (fun _ => 0) = 0 := by
            generalize s.l = l
            induction l with
            | nil => rfl
            | cons x t ih => rw [sumL_cons, ih]; rfl
          rw [z1, z2, z3, if_neg hne, if_neg hne]
          omega
      · intro x hx n hn
        dsimp only
        rw [List.map_append, updL_ns (f := addKid g) (fun _ => rfl)]
        rcases List.mem_append.1 hx with hx | hx
        · rcases updL_mem hx with ⟨hx, _⟩ | ⟨y, hy, e, rfl⟩
          · exact List.mem_append_left _ (h.abv x hx n hn)
          · exact List.mem_append_left _ (h.abv y hy n hn)
        · obtain rfl := List.mem_singleton.1 hx
          obtain rfl : a.n = n := by simpa using hn
          exact List.mem_append_left _ (List.mem_map.2 ⟨a, ha, rfl⟩)
      · intro x hx
        rcases List.mem_append.1 hx with hx | hx
        · rcases updL_mem hx with ⟨hx, _⟩ | ⟨y, hy, e, rfl⟩
          · exact h.root x hx
          · exact h.root y hy
        · obtain rfl := List.mem_singleton.1 hx
          have := h.made
          simp
          omega
      · obtain ⟨x, hx, hx0⟩ := h.zero
        have : x.n ∈ (updL s.l a.n (addKid g)).map (·.n) := by rw [updL_ns (f := addKid g) (fun _ => rfl)]; exact List.mem_map.2 ⟨x, hx, rfl⟩
        obtain ⟨z, hz, e⟩ := List.mem_map.1 this
        exact ⟨z, List.mem_append_left _ hz, by rw [e]; exact hx0⟩
      · dsimp only
        rw [sumL_app, sumL_app, updL_same (f := addKid g) (·.grant) (fun _ => rfl), updL_sum (f := addKid g) (·.granted) h.ord ha]
        simp only [sumL_cons, sumL_nil, addKid]
        have := h.tot
        omega
      · unfold Ls.total
        dsimp only
        rw [sumL_app, updL_same (f := addKid g) (·.held) (fun _ => rfl)]
        simp only [sumL_cons, sumL_nil]
        have := h.most
        unfold Ls.total at this
        omega
      · dsimp only
        rw [List.length_append, updL_len]
        simp
        omega
  · exact h
theorem LOk.keep {G : Int} {s s' : Ls} (h : LOk G s) {a : Acc} {f : Acc → Acc} (ha : a ∈ s.l) (hl : s'.l = updL s.l a.n f) (hm : s'.made = s.made)
    (h1 : ∀ x, (f x).n = x.n) (h2 : ∀ x, (f x).ab = x.ab) (h3 : ∀ x, (f x).grant = x.grant) (h4 : ∀ x, (f x).granted = x.granted) (h5 : ∀ x, (f x).below = x.below)
    (hacc : 0 ≤ (f a).held ∧ (f a).held + a.granted ≤ a.grant ∧ (f a).held ≤ (f a).peak ∧ (f a).peak ≤ a.grant) (hmost : s'.total ≤ s'.most ∧ s'.most ≤ G) : LOk G s' := by
  have hns : s'.l.map (·.n) = s.l.map (·.n) := by rw [hl, updL_ns h1]
  have back : ∀ x ∈ s'.l, ∃ y ∈ s.l, x.n = y.n ∧ x.ab = y.ab ∧ x.grant = y.grant ∧ x.granted = y.granted ∧ x.below = y.below ∧ (x = y ∨ y = a ∧ x = f a) := by
    intro x hx
    rw [hl] at hx
    rcases updL_mem hx with ⟨hx, _⟩ | ⟨y, hy, e, rfl⟩
    · exact ⟨x, hx, rfl, rfl, rfl, rfl, rfl, .inl rfl⟩
    · obtain rfl := ord_inj h.ord hy ha e
      exact ⟨y, hy, h1 y, h2 y, h3 y, h4 y, h5 y, .inr ⟨rfl, rfl⟩⟩
  have hks : ∀ m, kidSum s'.l m = kidSum s.l m := fun m => by rw [hl]; exact updL_same _ (fun x => by rw [h2, h3])
  have hkc : ∀ m, kidCnt s'.l m = kidCnt s.l m := fun m => by rw [hl]; exact updL_same _ (fun x => by rw [h2])
  refine ⟨by rw [hl]; exact updL_ord h1 h.ord, ?_, by rw [hm]; exact h.made, h.grantG, ?_, ?_, ?_, ?_, ?_, ?_, hmost, by rw [hl, updL_len]; exact h.len⟩
  · intro x hx
    obtain ⟨y, hy, e1, _⟩ := back x hx
    rw [e1, hm]
    exact h.num y hy
  · intro x hx
    obtain ⟨y, hy, e1, e2, e3, e4, e5, e | ⟨rfl, e⟩⟩ := back x hx
    · rw [e]; exact h.acc y hy
    · have := h.acc y hy
      rw [e3, e4]
      rw [e]
      omega
  · intro x hx
    obtain ⟨y, hy, e1, e2, e3, e4, e5, _⟩ := back x hx
    rw [hks, hkc, e1, e4, e5]
    exact h.kid y hy
  · intro x hx n hn
    obtain ⟨y, hy, e1, e2, _⟩ := back x hx
    rw [hns]
    exact h.abv y hy n (by rw [← e2]; exact hn)
  · intro x hx
    obtain ⟨y, hy, e1, e2, _⟩ := back x hx
    rw [e1, e2]
    exact h.root y hy
  · obtain ⟨x, hx, hx0⟩ := h.zero
    have : x.n ∈ s'.l.map (·.n) := by rw [hns]; exact List.mem_map.2 ⟨x, hx, rfl⟩
    obtain ⟨z, hz, e⟩ := List.mem_map.1 this
    exact ⟨z, hz, by rw [e]; exact hx0⟩
  · rw [hl, updL_same _ h3, updL_same _ h4]
    exact h.tot
theorem LOk.take_ {G : Int} {s : Ls} (h : LOk G s) (n p : Int) : LOk G (s.take_ n p) := by
  unfold Ls.take_
  split
  · next he =>
    unfold Ls.takeE at he
    have hp : 0 ≤ p := by
      rcases Decidable.em (p < 0) with h | h
      · rw [if_pos h] at he; cases he
      · omega
    rw [if_neg (by omega)] at he
    cases hf : s.find n with
    | none => rw [hf] at he; cases he
    | some a =>
      rw [hf] at he
      dsimp only at he
      obtain ⟨ha, rfl⟩ := find_mem hf
      have hleft : p ≤ a.left := by
        rcases Decidable.em (a.left < p) with h | h
        · rw [if_pos h] at he; cases he
        · omega
      unfold Acc.left at hleft
      clear he hf
      have hacc := h.acc a ha
      have hgr := h.gr0 ha
      have key : sumL (updL s.l a.n (holdA p)) (·.held) = s.total + p := by
        rw [updL_sum (f := holdA p) (·.held) h.ord ha]
        unfold Ls.total holdA
        dsimp only
        omega
      have tle : s.total + p ≤ G := by
        have h1 : sumL (updL s.l a.n (holdA p)) (fun x => x.held + x.granted) ≤ sumL (updL s.l a.n (holdA p)) (·.grant) := sumL_le fun x hx => by
          rcases updL_mem hx with ⟨hx, _⟩ | ⟨y, hy, e, rfl⟩
          · exact (h.acc x hx).2.2.2.1
          · obtain rfl := ord_inj h.ord hy ha e
            unfold holdA
            dsimp only
            omega
        have e : ∀ l : List Acc, sumL l (fun x => x.held + x.granted) = sumL l (·.held) + sumL l (·.granted) := by
          intro l
          induction l with
          | nil => rfl
          | cons x t ih => rw [sumL_cons, sumL_cons, sumL_cons, ih]; omega
        rw [e, key, updL_same (f := holdA p) (·.granted) (fun _ => rfl), updL_same (f := holdA p) (·.grant) (fun _ => rfl)] at h1
        have := h.tot
        omega
      refine h.keep (f := holdA p) ha rfl rfl (fun _ => rfl) (fun _ => rfl) (fun _ => rfl) (fun _ => rfl) (fun _ => rfl) (by unfold holdA; dsimp only; omega) ?_
      unfold Ls.total
      dsimp only
      rw [key]
      have := h.most
      omega
  · exact h
theorem LOk.give_ {G : Int} {s : Ls} (h : LOk G s) (n p : Int) : LOk G (s.give_ n p) := by
  unfold Ls.give_
  split
  · next he =>
    unfold Ls.giveE at he
    cases hf : s.find n with
    | none => rw [hf] at he; cases he
    | some a =>
      rw [hf] at he
      dsimp only at he
      obtain ⟨ha, rfl⟩ := find_mem hf
      have hp : ¬ (p < 0 ∨ a.held < p) := by
        rcases Decidable.em (p < 0 ∨ a.held < p) with h | h
        · rw [if_pos h] at he; cases he
        · exact h
      clear he hf
      have hacc := h.acc a ha
      have hgr := h.gr0 ha
      refine h.keep (f := giveA p) ha rfl rfl (fun _ => rfl) (fun _ => rfl) (fun _ => rfl) (fun _ => rfl) (fun _ => rfl) (by unfold giveA; dsimp only; omega) ?_
      unfold Ls.total
      dsimp only
      rw [updL_sum (f := giveA p) (·.held) h.ord ha]
      have := h.most
      unfold Ls.total at this
      unfold giveA
      dsimp only
      omega
  · exact h
theorem kid_none {l : List Acc} {n : Int} (h : kidCnt l n ≤ 0) : ∀ x ∈ l, x.ab ≠ some n := by
  intro x hx e
  have := sumL_mem (l := l) (f := fun x => if x.ab = some n then 1 else 0) (fun y _ => by split <;> omega) hx
  rw [if_pos e] at this
  unfold kidCnt at h
  omega
theorem LOk.close_ {G : Int} {s : Ls} (h : LOk G s) (n : Int) : LOk G (s.close_ n) := by
  unfold Ls.close_
  split
  · next he =>
    unfold Ls.closeE at he
    cases hf : s.find n with
    | none => exact h
    | some a =>
      rw [hf] at he
      dsimp only at he ⊢
      obtain ⟨ha, rfl⟩ := find_mem hf
      have hp : ¬ (a.ab = none ∨ 0 < a.held ∨ 0 < a.below) := by
        rcases Decidable.em (a.ab = none ∨ 0 < a.held ∨ 0 < a.below) with h | h
        · rw [if_pos h] at he; cases he
        · exact h
      clear he hf
      have hacc := h.acc a ha
      have hgr := h.gr0 ha
      have hkid := h.kid a ha
      cases hb : a.ab with
      | none => exact absurd (.inl hb) hp
      | some m =>
        dsimp only [Option.getD_some]
        have hb0 : a.below = 0 := by omega
        have hh0 : a.held = 0 := by omega
        have nok := kid_none (l := s.l) (n := a.n) (by omega)
        have hgr0 : a.granted = 0 := by
          rw [hkid.1]
          have : kidSum s.l a.n = sumL s.l (fun _ => 0) := sumL_congr fun y hy => by rw [if_neg (nok y hy)]
          rw [this]
          generalize s.l = l
          induction l with
          | nil => rfl
          | cons x t ih => rw [sumL_cons, ih]; rfl
        have hmn : m ≠ a.n := fun e => nok a ha (by rw [hb, e])
        have ha0 : a.n ≠ 0 := fun e => by
          have := (h.root a ha).2 e
          rw [hb] at this
          cases this
        obtain ⟨y, hy, rfl⟩ := List.mem_map.1 (h.abv a ha m hb)
        have ho1 := updL_ord (n := y.n) (f := remKid a.grant) (fun _ => rfl) h.ord
        have ha1 : a ∈ updL s.l y.n (remKid a.grant) := by
          unfold updL
          exact List.mem_map.2 ⟨a, ha, by rw [if_neg (fun e => hmn e.symm)]⟩
        have hsum : ∀ g : Acc → Int, (∀ x, g (remKid a.grant x) = g x) → sumL ((updL s.l y.n (remKid a.grant)).filter fun b => !(b.n == a.n)) g = sumL s.l g - g a := by
          intro g hg
          rw [dropL_sum g ho1 ha1, updL_same g hg]
        have back : ∀ x ∈ (updL s.l y.n (remKid a.grant)).filter (fun b => !(b.n == a.n)), x.n ≠ a.n ∧ ∃ z ∈ s.l, x.n = z.n ∧ x.ab = z.ab ∧ x.grant = z.grant ∧ x.held = z.held ∧ x.peak = z.peak ∧ (x = z ∧ z.n ≠ y.n ∨ z = y ∧ x = remKid a.grant y) := by
          intro x hx
          obtain ⟨h1, h2⟩ := List.mem_filter.1 hx
          refine ⟨by simpa using h2, ?_⟩
          rcases updL_mem h1 with ⟨hx, hne⟩ | ⟨z, hz, e, rfl⟩
          · exact ⟨x, hx, rfl, rfl, rfl, rfl, rfl, .inl ⟨rfl, hne⟩⟩
          · obtain rfl := ord_inj h.ord hz hy e
            exact ⟨z, hz, rfl, rfl, rfl, rfl, rfl, .inr ⟨rfl, rfl⟩⟩
        have forth : ∀ z ∈ s.l, z.n ≠ a.n → z.n ∈ ((updL s.l y.n (remKid a.grant)).filter (fun b => !(b.n == a.n))).map (·.n) := by
          intro z hz hne
          have : z.n ∈ (updL s.l y.n (remKid a.grant)).map (·.n) := by rw [updL_ns (f := remKid a.grant) (fun _ => rfl)]; exact List.mem_map.2 ⟨z, hz, rfl⟩
          obtain ⟨x, hx, e⟩ := List.mem_map.1 this
          exact List.mem_map.2 ⟨x, List.mem_filter.2 ⟨hx, by simpa [e] using hne⟩, e⟩
        refine ⟨ho1.filter _, ?_, h.made, h.grantG, ?_, ?_, ?_, ?_, ?_, ?_, ?_, ?_⟩
        · intro x hx
          obtain ⟨_, z, hz, e1, _⟩ := back x hx
          rw [e1]
          exact h.num z hz
        · intro x hx
          obtain ⟨_, z, hz, e1, e2, e3, e4, e5, ⟨rfl, _⟩ | ⟨rfl, e⟩⟩ := back x hx
          · exact h.acc x hz
          · have := h.acc z hz
            have : x.granted = z.granted - a.grant := by rw [e]; rfl
            omega
        · intro x hx
          obtain ⟨hxa, z, hz, e1, e2, e3, e4, e5, hh⟩ := back x hx
          have k1 : kidSum ((updL s.l y.n (remKid a.grant)).filter fun b => !(b.n == a.n)) x.n = kidSum s.l x.n - (if a.ab = some x.n then a.grant else 0) := hsum (fun q => if q.ab = some x.n then q.grant else 0) (fun _ => rfl)
          have k2 : kidCnt ((updL s.l y.n (remKid a.grant)).filter fun b => !(b.n == a.n)) x.n = kidCnt s.l x.n - (if a.ab = some x.n then 1 else 0) := hsum (fun q => if q.ab = some x.n then 1 else 0) (fun _ => rfl)
          dsimp only
          rw [k1, k2, hb]
          simp only [Option.some.injEq]
          have hk := h.kid z hz
          rcases hh with ⟨rfl, hne⟩ | ⟨rfl, e⟩
          · rw [if_neg (fun e => hne e.symm), if_neg (fun e => hne e.symm)]
            omega
          · rw [if_pos e1.symm, if_pos e1.symm, e1]
            have g1 : x.granted = z.granted - a.grant := by rw [e]; rfl
            have g2 : x.below = z.below - 1 := by rw [e]; rfl
            omega
        · intro x hx k hk
          obtain ⟨hxa, z, hz, e1, e2, _⟩ := back x hx
          rw [e2] at hk
          obtain ⟨u, hu, rfl⟩ := List.mem_map.1 (h.abv z hz k hk)
          exact forth u hu (fun e => nok z hz (by rw [hk, e]))
        · intro x hx
          obtain ⟨_, z, hz, e1, e2, _⟩ := back x hx
          rw [e1, e2]
          exact h.root z hz
        · obtain ⟨x, hx, hx0⟩ := h.zero
          obtain ⟨z, hz, e⟩ := List.mem_map.1 (forth x hx (by rw [hx0]; exact fun e => ha0 e.symm))
          exact ⟨z, hz, by rw [e]; exact hx0⟩
        · dsimp only
          rw [hsum (·.grant) (fun _ => rfl), dropL_sum _ ho1 ha1, updL_sum (f := remKid a.grant) (·.granted) h.ord hy]
          have := h.tot
          unfold remKid
          dsimp only
          omega
        · unfold Ls.total
          dsimp only
          rw [hsum (·.held) (fun _ => rfl)]
          have := h.most
          unfold Ls.total at this
          omega
        · dsimp only
          refine Nat.le_trans (List.length_filter_le _ _) ?_
          rw [updL_len]
          exact h.len
  · exact h
theorem give_keep {s : Ls} {n p : Int} (h : s.giveE n p ≠ 0) : s.give_ n p = s := if_neg h
theorem give_do {s : Ls} {n p : Int} (h : s.giveE n p = 0) : s.give_ n p = ⟨s.made, s.most, updL s.l n (giveA p)⟩ := if_pos h
theorem take_keep {s : Ls} {n p : Int} (h : s.takeE n p ≠ 0) : s.take_ n p = s := if_neg h
theorem take_do {s : Ls} {n p : Int} (h : s.takeE n p = 0) : s.take_ n p = ⟨s.made, max s.most (sumL (updL s.l n (holdA p)) (·.held)), updL s.l n (holdA p)⟩ := if_pos h
theorem open_keep {s : Ls} {n p : Int} (h : s.openE n p ≠ 0) : s.open_ n p = s := if_neg h
theorem open_do {s : Ls} {n p : Int} (h : s.openE n p = 0) : s.open_ n p = ⟨s.made + 1, s.most, updL s.l n (addKid p) ++ [⟨s.made + 1, some n, p, 0, 0, 0, 0⟩]⟩ := if_pos h
theorem close_keep {s : Ls} {n : Int} (h : s.closeE n ≠ 0) : s.close_ n = s := if_neg h
theorem close_do {s : Ls} {n : Int} {a : Acc} (h : s.closeE n = 0) (hf : s.find n = some a) : s.close_ n = ⟨s.made, s.most, (updL s.l (a.ab.getD 0) (remKid a.grant)).filter fun b => !(b.n == n)⟩ := by
  unfold Ls.close_
  rw [if_pos h, hf]
end Go.Proofs.Ytagknfjgokiidaa
