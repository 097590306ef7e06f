/- pages, plainly: what bytes are a page of rows. -/
import Derived.Test.YtlldkdhpilcilaaScanA
namespace Go.Proofs.Ytlldkdhpilcilaa
open Go.RowKit
set_option linter.unusedVariables false
set_option linter.unusedSimpArgs false

def flat (rows : List (List V)) : List Int := rows.flatMap encR
def usedN (rows : List (List V)) : Nat := 1 + (flat rows).length + 2 * rows.length
def offAt (rows : List (List V)) (i : Nat) : Nat := 1 + (flat (rows.take i)).length
/-- p is the page of rows. -/
structure PG (p : List Int) (rows : List (List V)) : Prop where
  len : p.length = 256
  fit : usedN rows ≤ 256
  head : p.take (1 + (flat rows).length) = (rows.length : Int) :: flat rows
  zero : ∀ j, 1 + (flat rows).length ≤ j → j < 256 - 2 * rows.length → p.getD j 0 = 0
  slot : ∀ i, i < rows.length → p.getD (256 - 2 * (i + 1)) 0 = ((offAt rows i / 256 : Nat) : Int) ∧ p.getD (256 - 2 * (i + 1) + 1) 0 = ((offAt rows i % 256 : Nat) : Int)
theorem flat_append (a b : List (List V)) : flat (a ++ b) = flat a ++ flat b := by simp [flat]
theorem flat_cons (r : List V) (b : List (List V)) : flat (r :: b) = encR r ++ flat b := by simp [flat]
theorem getD_take {p : List Int} {n j : Nat} (h : j < n) : (p.take n).getD j 0 = p.getD j 0 := by
  rw [List.getD_eq_getElem?_getD, List.getD_eq_getElem?_getD, List.getElem?_take_of_lt h]
theorem getD_drop (p : List Int) (n j : Nat) : (p.drop n).getD j 0 = p.getD (n + j) 0 := by
  rw [List.getD_eq_getElem?_getD, List.getD_eq_getElem?_getD, List.getElem?_drop]
theorem ext_getD {p q : List Int} (hl : p.length = q.length) (h : ∀ j, j < p.length → p.getD j 0 = q.getD j 0) : p = q := by
  refine List.ext_getElem hl fun j h1 h2 => ?_
  have := h j h1
  rwa [List.getD_eq_getElem?_getD, List.getD_eq_getElem?_getD, List.getElem?_eq_getElem h1, List.getElem?_eq_getElem h2] at this
theorem PG.unique {p q : List Int} {rows : List (List V)} (hp : PG p rows) (hq : PG q rows) : p = q := by
  refine ext_getD (by rw [hp.len, hq.len]) fun j hj => ?_
  rw [hp.len] at hj
  have hu := hp.fit
  unfold usedN at hu
  by_cases h1 : j < 1 + (flat rows).length
  · rw [← getD_take (p := p) h1, ← getD_take (p := q) h1, hp.head, hq.head]
  · by_cases h2 : j < 256 - 2 * rows.length
    · rw [hp.zero j (by omega) h2, hq.zero j (by omega) h2]
    · obtain ⟨i, hi, hj2⟩ : ∃ i, i < rows.length ∧ (j = 256 - 2 * (i + 1) ∨ j = 256 - 2 * (i + 1) + 1) := ⟨(255 - j) / 2, by omega, by omega⟩
      rcases hj2 with rfl | rfl
      · rw [(hp.slot i hi).1, (hq.slot i hi).1]
      · rw [(hp.slot i hi).2, (hq.slot i hi).2]
theorem all_isZ {l : List Int} : l.all isZ = true ↔ ∀ j, l.getD j 0 = 0 := by
  rw [List.all_eq_true]
  constructor
  · intro h j
    rcases Nat.lt_or_ge j l.length with hl | hl
    · rw [List.getD_eq_getElem?_getD, List.getElem?_eq_getElem hl]
      exact of_decide_eq_true (h _ (List.getElem_mem hl))
    · rw [List.getD_eq_getElem?_getD, List.getElem?_eq_none hl]
      rfl
  · intro h x hx
    obtain ⟨j, hj, rfl⟩ := List.getElem_of_mem hx
    have := h j
    rw [List.getD_eq_getElem?_getD, List.getElem?_eq_getElem hj] at this
    exact decide_eq_true this
theorem take_split {l x : List Int} {m n : Nat} (h : l.take m = x) (hx : x.length = m) (hmn : m ≤ n) : l.take n = x ++ (l.drop m).take (n - m) := by
  have : n = m + (n - m) := by omega
  rw [this, List.take_add, h]
  congr 2
  omega
theorem take_flat_step {p : List Int} {a : Nat} {r : List V} {rs : List (List V)} (h : (p.drop a).take (flat (r :: rs)).length = flat (r :: rs)) : (p.drop a).take (encR r).length = encR r ∧ (p.drop (a + (encR r).length)).take (flat rs).length = flat rs := by
  rw [flat_cons, List.length_append] at h
  constructor
  · have := congrArg (List.take (encR r).length) h
    rwa [List.take_take, Nat.min_eq_left (by omega), List.take_left] at this
  · have := congrArg (List.drop (encR r).length) h
    rwa [List.drop_left, List.drop_take, List.drop_drop, Nat.add_sub_cancel_left] at this
theorem scanA_sound (p : List Int) (en : Nat) (hb : isB p) (hen : en ≤ p.length) : ∀ (k i a : Nat) (acc rows : List (List V)) (a' : Nat), a ≤ en → scanA p en k i a acc = some (rows, a') →
    ∃ rs, rows = acc ++ rs ∧ rs.length = k ∧ (∀ r ∈ rs, rowOk r = true) ∧ a' = a + (flat rs).length ∧ a' ≤ en ∧ (p.drop a).take (flat rs).length = flat rs ∧ (∀ j, j < k → startS p (i + j) = ((a + (flat (rs.take j)).length : Nat) : Int)) ∧ ((p.drop a').take (en - a')).all isZ = true
  | 0, i, a, acc, rows, a', ha, h => by
    unfold scanA at h
    split at h
    · next hz =>
      simp only [Option.some.injEq, Prod.mk.injEq] at h
      obtain ⟨rfl, rfl⟩ := h
      exact ⟨[], by simp, rfl, by simp, by simp [flat], ha, by simp [flat], fun j hj => absurd hj (by omega), hz⟩
    · cases h
  | k + 1, i, a, acc, rows, a', ha, h => by
    rw [scanA_succ] at h
    split at h
    · cases h
    · next r m e =>
      obtain ⟨h1, h2, h3, h4⟩ := decR_sound ((hb.drop a).take _) e
      rw [List.length_take, List.length_drop] at h4
      split at h
      · next hs =>
        obtain ⟨rs, e1, e2, e3, e4, e5, e6, e7, e8⟩ := scanA_sound p en hb hen k (i + 1) (a + m) _ rows a' (by omega) h
        have hm : (p.drop a).take m = encR r := by
          rw [← h2, List.take_take, Nat.min_eq_left (by omega)]
        refine ⟨r :: rs, by simp [e1], by simp [e2], ?_, by rw [flat_cons, List.length_append]; omega, e5, ?_, ?_, e8⟩
        · intro s hs
          rcases List.mem_cons.1 hs with rfl | hs
          · exact h1
          · exact e3 s hs
        · rw [flat_cons, List.length_append, take_split hm h3.symm (by omega), List.drop_drop, ← h3, Nat.add_sub_cancel_left, e6]
        · intro j hj
          rcases j with _ | j
          · simpa [flat] using hs
          · have := e7 j (by omega)
            rw [show i + (j + 1) = i + 1 + j by omega, this, List.take_succ_cons, flat_cons, List.length_append]
            omega
      · cases h
theorem scanA_compl (p : List Int) (en : Nat) (hen : en ≤ p.length) : ∀ (rs : List (List V)) (i a : Nat) (acc : List (List V)), (∀ r ∈ rs, rowOk r = true) → a + (flat rs).length ≤ en → (p.drop a).take (flat rs).length = flat rs → (∀ j, j < rs.length → startS p (i + j) = ((a + (flat (rs.take j)).length : Nat) : Int)) →
    ((p.drop (a + (flat rs).length)).take (en - (a + (flat rs).length))).all isZ = true → scanA p en rs.length i a acc = some (acc ++ rs, a + (flat rs).length)
  | [], i, a, acc, _, _, _, _, hz => by
    simp only [flat, List.flatMap_nil, List.length_nil, Nat.add_zero] at hz ⊢
    unfold scanA
    rw [if_pos hz, List.append_nil]
  | r :: rs, i, a, acc, hok, hle, htk, hst, hz => by
    obtain ⟨h1, h2⟩ := take_flat_step htk
    rw [flat_cons, List.length_append] at hle hz ⊢
    have hd : decR ((p.drop a).take (en - a)) = some (r, (encR r).length) := by
      rw [take_split h1 rfl (by omega)]
      exact decR_enc r (hok r (by simp)) _
    show scanA p en (rs.length + 1) i a acc = _
    rw [scanA_succ, hd]
    have h0 := hst 0 (by simp)
    simp only [flat, List.take_zero, List.flatMap_nil, List.length_nil, Nat.add_zero] at h0
    dsimp only
    rw [if_pos h0, scanA_compl p en hen rs (i + 1) (a + (encR r).length) _ (fun s hs => hok s (by simp [hs])) (by omega) h2 ?_ (by rw [Nat.add_assoc]; exact hz)]
    · simp
      omega
    · intro j hj
      have := hst (j + 1) (by simp; omega)
      rw [show i + 1 + j = i + (j + 1) by omega, this, List.take_succ_cons, flat_cons, List.length_append]
      omega
theorem startS_iff {p : List Int} (hb : isB p) (i a : Nat) (ha : a < 65536) : startS p i = (a : Int) ↔ (p.getD (256 - 2 * (i + 1)) 0 = ((a / 256 : Nat) : Int) ∧ p.getD (256 - 2 * (i + 1) + 1) 0 = ((a % 256 : Nat) : Int)) := by
  have h0 := getD_isB hb (256 - 2 * (i + 1))
  have h1 := getD_isB hb (256 - 2 * (i + 1) + 1)
  unfold startS
  omega
theorem head_of {p : List Int} (h : 0 < p.length) : p.take 1 = [p.getD 0 0] := by
  cases p with
  | nil => simp at h
  | cons x t => rfl
theorem scanS_sound {p : List Int} (hb : isB p) {rows : List (List V)} {a : Nat} (h : scanS p = some (rows, a)) : PG p rows ∧ (∀ r ∈ rows, rowOk r = true) ∧ a = 1 + (flat rows).length := by
  unfold scanS at h
  split at h
  · next hc =>
    obtain ⟨hl, hk⟩ := hc
    obtain ⟨k, hkk⟩ : ∃ k, k = (p.getD 0 0).toNat := ⟨_, rfl⟩
    have h0 := getD_isB hb 0
    rw [← hkk] at h hk
    have hp0 : p.getD 0 0 = (k : Int) := by omega
    obtain ⟨rs, e1, e2, e3, e4, e5, e6, e7, e8⟩ := scanA_sound p (256 - 2 * k) hb (by omega) k 0 1 [] rows a (by omega) h
    obtain rfl : rows = rs := by simpa using e1
    subst e2
    refine ⟨⟨hl, by unfold usedN; omega, ?_, ?_, ?_⟩, e3, e4⟩
    · rw [List.take_add, e6, head_of (by omega), hp0]
      rfl
    · intro j h1 h2
      have := all_isZ.1 e8 (j - a)
      rw [getD_take (by omega), getD_drop] at this
      rwa [show a + (j - a) = j by omega] at this
    · intro i hi
      have := e7 i hi
      rw [Nat.zero_add] at this
      have hle : (flat (rows.take i)).length ≤ (flat rows).length := by
        conv => rhs; rw [← List.take_append_drop i rows, flat_append, List.length_append]
        omega
      exact (startS_iff hb i (offAt rows i) (by unfold offAt; omega)).1 this
  · cases h
theorem offAt_le {rows : List (List V)} (i : Nat) : offAt rows i ≤ 1 + (flat rows).length := by
  unfold offAt
  conv => rhs; rw [← List.take_append_drop i rows, flat_append, List.length_append]
  omega
theorem PG.p0 {p : List Int} {rows : List (List V)} (h : PG p rows) : p.getD 0 0 = (rows.length : Int) := by
  have := congrArg (fun l => l.getD 0 0) h.head
  rw [getD_take (by omega)] at this
  exact this
theorem PG.flat_ {p : List Int} {rows : List (List V)} (h : PG p rows) : (p.drop 1).take (flat rows).length = flat rows := by
  have := congrArg (List.drop 1) h.head
  rw [List.drop_take] at this
  simpa using this
theorem scanS_compl {p : List Int} (hb : isB p) {rows : List (List V)} (hp : PG p rows) (hok : ∀ r ∈ rows, rowOk r = true) : scanS p = some (rows, 1 + (flat rows).length) := by
  have hu := hp.fit
  unfold usedN at hu
  have hk : (p.getD 0 0).toNat = rows.length := by rw [hp.p0]; simp
  unfold scanS
  rw [hk, if_pos ⟨hp.len, by omega⟩, scanA_compl p (256 - 2 * rows.length) (by rw [hp.len]; omega) rows 0 1 [] hok (by omega) hp.flat_]
  · rfl
  · intro j hj
    rw [Nat.zero_add]
    have := offAt_le (rows := rows) j
    exact (startS_iff hb j (offAt rows j) (by omega)).2 (hp.slot j hj)
  · rw [all_isZ]
    intro j
    by_cases hj : j < 256 - 2 * rows.length - (1 + (flat rows).length)
    · rw [getD_take hj, getD_drop]
      exact hp.zero _ (by omega) (by omega)
    · rw [List.getD_eq_getElem?_getD, List.getElem?_eq_none (by rw [List.length_take]; omega)]
      rfl
theorem PG.rows_unique {p : List Int} (hb : isB p) {r1 r2 : List (List V)} (h1 : PG p r1) (h2 : PG p r2) (o1 : ∀ r ∈ r1, rowOk r = true) (o2 : ∀ r ∈ r2, rowOk r = true) : r1 = r2 := by
  have a := scanS_compl hb h1 o1
  rw [scanS_compl hb h2 o2] at a
  simp only [Option.some.injEq, Prod.mk.injEq] at a
  exact a.1.symm
theorem PG.nil : PG (List.replicate 256 0) [] := by
  refine ⟨List.length_replicate, by decide, rfl, ?_, fun i hi => absurd hi (Nat.not_lt_zero i)⟩
  intro j _ _
  rw [List.getD_eq_getElem?_getD, List.getElem?_replicate]
  split <;> rfl
/-- A row behind all. -/
def addP (p : List Int) (a : Nat) (e : List Int) : List Int :=
  (((p.set 0 (p.getD 0 0 + 1)).take a ++ e ++ (p.drop (a + e.length))).set (256 - 2 * (p.getD 0 0).toNat - 2) ((a / 256 : Nat) : Int)).set (256 - 2 * (p.getD 0 0).toNat - 2 + 1) ((a % 256 : Nat) : Int)
theorem getD_set (l : List Int) (i j : Nat) (x : Int) : (l.set i x).getD j 0 = if i = j ∧ j < l.length then x else l.getD j 0 := by
  rw [List.getD_eq_getElem?_getD, List.getElem?_set, List.getD_eq_getElem?_getD]
  by_cases h : i = j
  · subst h
    by_cases h2 : i < l.length
    · simp [h2]
    · simp [h2]
  · simp [h]
theorem PG.add {p : List Int} {rows : List (List V)} (hp : PG p rows) (r : List V) (hf : usedN (rows ++ [r]) ≤ 256) : PG (addP p (1 + (flat rows).length) (encR r)) (rows ++ [r]) := by
  have hfl : flat (rows ++ [r]) = flat rows ++ encR r := by rw [flat_append]; simp [flat]
  have hu := hf
  unfold usedN at hu
  rw [hfl, List.length_append, List.length_append] at hu
  simp only [List.length_cons, List.length_nil] at hu
  have hk : (p.getD 0 0).toNat = rows.length := by rw [hp.p0]; simp
  obtain ⟨a, ha⟩ : ∃ a, a = 1 + (flat rows).length := ⟨_, rfl⟩
  obtain ⟨n, hn⟩ : ∃ n, n = (encR r).length := ⟨_, rfl⟩
  have hl0 : ((p.set 0 (p.getD 0 0 + 1)).take a).length = a := by rw [List.length_take, List.length_set, hp.len]; omega
  obtain ⟨q, hq⟩ : ∃ q, q = (p.set 0 (p.getD 0 0 + 1)).take a ++ encR r ++ (p.drop (a + n)) := ⟨_, rfl⟩
  have hql : q.length = 256 := by rw [hq, List.length_append, List.length_append, hl0, List.length_drop, hp.len]; omega
  have hqt : q.take (a + n) = (p.set 0 (p.getD 0 0 + 1)).take a ++ encR r := by
    rw [hq]
    exact List.take_left' (by rw [List.length_append, hl0, hn])
  have hqd : ∀ j, a + n ≤ j → q.getD j 0 = p.getD j 0 := by
    intro j hj
    have : q.drop (a + n) = p.drop (a + n) := by
      rw [hq]
      exact List.drop_left' (by rw [List.length_append, hl0, hn])
    have h2 := congrArg (fun l => l.getD (j - (a + n)) 0) this
    simp only [getD_drop] at h2
    rwa [show a + n + (j - (a + n)) = j by omega] at h2
  have hh : (p.set 0 (p.getD 0 0 + 1)).take a = ((rows.length + 1 : Nat) : Int) :: flat rows := by
    have h1 := hp.head
    rw [← ha] at h1
    rw [List.take_set, h1, hp.p0]
    rfl
  unfold addP
  rw [← ha, ← hn, ← hq, hk]
  obtain ⟨s, hs⟩ : ∃ s, s = 256 - 2 * rows.length - 2 := ⟨_, rfl⟩
  rw [← hs]
  have hrl : (rows ++ [r]).length = rows.length + 1 := by simp
  refine ⟨by simp [hql], hf, ?_, ?_, ?_⟩
  · rw [hfl, List.length_append, hrl, show 1 + ((flat rows).length + (encR r).length) = a + n by omega, List.take_set_of_le (by omega), List.take_set_of_le (by omega), hqt, hh]
    rfl
  · intro j h1 h2
    rw [hfl, List.length_append] at h1
    rw [hrl] at h2
    rw [getD_set, if_neg (by omega), getD_set, if_neg (by omega), hqd j (by omega)]
    exact hp.zero j (by omega) (by omega)
  · intro i hi
    rw [hrl] at hi
    rw [getD_set, getD_set, getD_set, getD_set, List.length_set, hql]
    by_cases hik : i < rows.length
    · have ho : offAt (rows ++ [r]) i = offAt rows i := by
        unfold offAt
        rw [List.take_append_of_le_length (by omega)]
      rw [if_neg (by omega), if_neg (by omega), if_neg (by omega), if_neg (by omega), hqd _ (by omega), hqd _ (by omega), ho]
      exact hp.slot i hik
    · obtain rfl : i = rows.length := by omega
      have ho : offAt (rows ++ [r]) rows.length = a := by
        unfold offAt
        rw [List.take_left, ha]
      rw [if_neg (by omega), if_pos (by omega), if_pos (by omega), ho]
      exact ⟨rfl, rfl⟩
end Go.Proofs.Ytlldkdhpilcilaa
