/- The order of values and rows: plain. -/
import Derived.Test.YtlldkdhpilcilaaSame
import Derived.Sort.Walk0
namespace Go.Proofs.Ytlldkdhpilcilaa
open Go.RowKit

def cmpV (a b : V) : Int :=
  if a.k < b.k ∨ (a.k = b.k ∧ (a.n < b.n ∨ (a.n = b.n ∧ a.s.toList < b.s.toList))) then -1
  else if a.k = b.k ∧ a.n = b.n ∧ a.s.toList = b.s.toList then 0 else 1
def cmpR : List V → List V → Int
  | [], [] => 0
  | [], _ :: _ => -1
  | _ :: _, [] => 1
  | a :: x, b :: y => if cmpV a b = 0 then cmpR x y else cmpV a b
theorem toList_inj {s t : ByteArray} (h : s.toList = t.toList) : s = t := by
  rw [ByteArray.toList_eq, ByteArray.toList_eq] at h
  cases s with | mk a => cases t with | mk b => cases a; cases b; simpa using h
theorem cmpV_zero {a b : V} : cmpV a b = 0 ↔ a = b := by
  constructor
  · intro h
    unfold cmpV at h
    split at h
    · omega
    · split at h
      · rename_i h2
        obtain ⟨e1, e2, e3⟩ := h2
        cases a; cases b
        simp only at e1 e2 e3
        rw [e1, e2, toList_inj e3]
      · omega
  · rintro rfl
    unfold cmpV
    rw [if_neg, if_pos ⟨rfl, rfl, rfl⟩]
    rintro (h | ⟨_, h | ⟨_, h⟩⟩)
    · omega
    · omega
    · exact List.lt_irrefl _ h
/-- strictly before -/
def ltV (a b : V) : Prop := a.k < b.k ∨ (a.k = b.k ∧ (a.n < b.n ∨ (a.n = b.n ∧ a.s.toList < b.s.toList)))
theorem ltV_irrefl (a : V) : ¬ ltV a a := by
  rintro (h | ⟨_, h | ⟨_, h⟩⟩)
  · omega
  · omega
  · exact List.lt_irrefl _ h
theorem ltV_trans {a b c : V} (h1 : ltV a b) (h2 : ltV b c) : ltV a c := by
  unfold ltV at *
  rcases h1 with h1 | ⟨e1, h1 | ⟨f1, h1⟩⟩ <;> rcases h2 with h2 | ⟨e2, h2 | ⟨f2, h2⟩⟩
  · left; omega
  · left; omega
  · left; omega
  · left; omega
  · right; exact ⟨by omega, .inl (by omega)⟩
  · right; exact ⟨by omega, .inl (by omega)⟩
  · left; omega
  · right; exact ⟨by omega, .inl (by omega)⟩
  · right; exact ⟨by omega, .inr ⟨by omega, List.lt_trans h1 h2⟩⟩
theorem ltV_total (a b : V) : ltV a b ∨ a = b ∨ ltV b a := by
  unfold ltV
  by_cases h1 : a.k < b.k
  · exact .inl (.inl h1)
  by_cases h2 : b.k < a.k
  · exact .inr (.inr (.inl h2))
  by_cases h3 : a.n < b.n
  · exact .inl (.inr ⟨by omega, .inl h3⟩)
  by_cases h4 : b.n < a.n
  · exact .inr (.inr (.inr ⟨by omega, .inl h4⟩))
  by_cases h5 : a.s.toList < b.s.toList
  · exact .inl (.inr ⟨by omega, .inr ⟨by omega, h5⟩⟩)
  by_cases h6 : b.s.toList < a.s.toList
  · exact .inr (.inr (.inr ⟨by omega, .inr ⟨by omega, h6⟩⟩))
  have e : a.s.toList = b.s.toList := List.le_antisymm (List.not_lt.1 h6) (List.not_lt.1 h5)
  refine .inr (.inl ?_)
  have e1 : a.k = b.k := by omega
  have e2 : a.n = b.n := by omega
  cases a; cases b
  simp only at e e1 e2
  rw [e1, e2, toList_inj e]
theorem cmpV_neg {a b : V} : cmpV a b = -1 ↔ ltV a b := by
  unfold cmpV ltV
  split
  · rename_i h; exact ⟨fun _ => h, fun _ => rfl⟩
  · rename_i h
    constructor
    · intro h2; split at h2 <;> omega
    · intro h2; exact absurd h2 h
/-- Before, or the same. -/
def leR : List V → List V → Prop
  | [], _ => True
  | _ :: _, [] => False
  | a :: x, b :: y => ltV a b ∨ (a = b ∧ leR x y)
theorem leR_iff : ∀ (x y : List V), cmpR x y ≤ 0 ↔ leR x y
  | [], [] => by simp [cmpR, leR]
  | [], _ :: _ => by simp [cmpR, leR]
  | _ :: _, [] => by simp [cmpR, leR]
  | a :: x, b :: y => by
    unfold cmpR leR
    by_cases h : cmpV a b = 0
    · have e := cmpV_zero.1 h
      subst e
      rw [if_pos h, leR_iff x y]
      constructor
      · exact fun h => .inr ⟨rfl, h⟩
      · rintro (h | ⟨_, h⟩)
        · exact absurd h (ltV_irrefl _)
        · exact h
    · rw [if_neg h]
      have hv : cmpV a b = -1 ∨ cmpV a b = 0 ∨ cmpV a b = 1 := by
        unfold cmpV
        split
        · simp
        · split <;> simp
      constructor
      · intro h2
        rcases hv with hv | hv | hv
        · exact .inl (cmpV_neg.1 hv)
        · exact absurd hv h
        · omega
      · rintro (h2 | ⟨rfl, _⟩)
        · rw [cmpV_neg.2 h2]; decide
        · exact absurd (cmpV_zero.2 rfl) h
theorem leR_refl : ∀ x : List V, leR x x
  | [] => trivial
  | _ :: x => .inr ⟨rfl, leR_refl x⟩
theorem leR_trans : ∀ {x y z : List V}, leR x y → leR y z → leR x z
  | [], _, _, _, _ => trivial
  | _ :: _, [], _, h, _ => h.elim
  | _ :: _, _ :: _, [], _, h => h.elim
  | _ :: _, _ :: _, _ :: _, h1, h2 => by
    rcases h1 with h1 | ⟨rfl, h1⟩
    · rcases h2 with h2 | ⟨rfl, _⟩
      · exact .inl (ltV_trans h1 h2)
      · exact .inl h1
    · rcases h2 with h2 | ⟨rfl, h2⟩
      · exact .inl h2
      · exact .inr ⟨rfl, leR_trans h1 h2⟩
theorem leR_antisymm : ∀ {x y : List V}, leR x y → leR y x → x = y
  | [], [], _, _ => rfl
  | [], _ :: _, _, h => h.elim
  | _ :: _, [], h, _ => h.elim
  | a :: x, b :: y, h1, h2 => by
    rcases h1 with h1 | ⟨rfl, h1⟩
    · rcases h2 with h2 | ⟨rfl, h2⟩
      · exact absurd (ltV_trans h1 h2) (ltV_irrefl _)
      · exact absurd h1 (ltV_irrefl _)
    · rcases h2 with h2 | ⟨_, h2⟩
      · exact absurd h2 (ltV_irrefl _)
      · rw [leR_antisymm h1 h2]
theorem leR_total : ∀ (x y : List V), leR x y ∨ leR y x
  | [], _ => .inl trivial
  | _ :: _, [] => .inr trivial
  | a :: x, b :: y => by
    rcases ltV_total a b with h | rfl | h
    · exact .inl (.inl h)
    · rcases leR_total x y with h | h
      · exact .inl (.inr ⟨rfl, h⟩)
      · exact .inr (.inr ⟨rfl, h⟩)
    · exact .inr (.inl h)
/-- Two sorted lists with the same members are one. -/
theorem sorted_perm : ∀ {l m : List (List V)}, l.Perm m → l.Pairwise leR → m.Pairwise leR → l = m
  | [], m, hp, _, _ => (List.Perm.nil_eq hp)
  | a :: l, [], hp, _, _ => by simpa using hp.length_eq
  | a :: l, b :: m, hp, h1, h2 => by
    rw [List.pairwise_cons] at h1 h2
    have e : a = b := by
      have ha : a ∈ b :: m := hp.subset List.mem_cons_self
      have hb : b ∈ a :: l := hp.symm.subset List.mem_cons_self
      have l1 : leR b a := by
        rcases List.mem_cons.1 ha with e | e
        · rw [e]; exact leR_refl _
        · exact h2.1 a e
      have l2 : leR a b := by
        rcases List.mem_cons.1 hb with e | e
        · rw [e]; exact leR_refl _
        · exact h1.1 b e
      exact leR_antisymm l2 l1
    subst e
    rw [sorted_perm (List.Perm.cons_inv hp) h1.2 h2.2]
end Go.Proofs.Ytlldkdhpilcilaa
