/- Compare, in full. -/
import Derived.Test.YtlldkdhpilcilaaOrd
namespace Go.Proofs.Ytlldkdhpilcilaa
open Go.RowKit

theorem cmp1_walk (a b : V) (w : World) (ha : a.s.size ≤ 9223372036854775807) (hb : b.s.size ≤ 9223372036854775807) : Calls Try.prog 63 #[.agg #[.int .i64 a.k, .int .i64 a.n, .string a.s], .agg #[.int .i64 b.k, .int .i64 b.n, .string b.s]] w fun e w' => e = .returned (.int .i64 (cmpV a b)) ∧ Below w.heap.size w w' := by
  have hbel : ∀ o1 o2, Below w.heap.size w ((w.alloc o1).alloc o2) := fun o1 o2 => ((Below.refl _ _).alloc (Nat.le_refl _) _).alloc (by simp) _
  obtain ⟨k, n, s⟩ := a
  obtain ⟨k', n', s'⟩ := b
  dsimp only at ha hb ⊢
  by_cases h1 : k < k'
  · have HX := Lib.hid (show cmpV ⟨k, n, s⟩ ⟨k', n', s'⟩ = -1 from cmpV_neg.2 (.inl h1))
    go_enter Try.func63, Try.ntmps63
    go_wp2
    go_ret
    exact ⟨by rw [HX.out]; rfl, hbel _ _⟩
  by_cases h2 : k' < k
  · have HX := Lib.hid (show cmpV ⟨k, n, s⟩ ⟨k', n', s'⟩ = 1 by
      unfold cmpV; dsimp only; rw [if_neg (by omega), if_neg (by omega)])
    have hk : (k == k') = false := by simp; omega
    go_enter Try.func63, Try.ntmps63
    go_wp2
    go_ret
    exact ⟨by rw [HX.out]; rfl, hbel _ _⟩
  obtain rfl : k = k' := by omega
  clear h1 h2
  by_cases h3 : n < n'
  · have HX := Lib.hid (show cmpV ⟨k, n, s⟩ ⟨k, n', s'⟩ = -1 from cmpV_neg.2 (.inr ⟨rfl, .inl h3⟩))
    go_enter Try.func63, Try.ntmps63
    go_wp2
    go_ret
    exact ⟨by rw [HX.out]; rfl, hbel _ _⟩
  by_cases h4 : n' < n
  · have HX := Lib.hid (show cmpV ⟨k, n, s⟩ ⟨k, n', s'⟩ = 1 by
      unfold cmpV; dsimp only; rw [if_neg (by omega), if_neg (by omega)])
    have hk : (n == n') = false := by simp; omega
    go_enter Try.func63, Try.ntmps63
    go_wp2
    go_ret
    exact ⟨by rw [HX.out]; rfl, hbel _ _⟩
  obtain rfl : n = n' := by omega
  clear h3 h4
  by_cases h5 : s.toList < s'.toList
  · have HX := Lib.hid (show cmpV ⟨k, n, s⟩ ⟨k, n, s'⟩ = -1 from cmpV_neg.2 (.inr ⟨rfl, .inr ⟨rfl, h5⟩⟩))
    have hl : Op.bytesLess s.toList s'.toList = true := by rw [bytesLess_eq]; exact decide_eq_true h5
    clear h5
    go_enter Try.func63, Try.ntmps63
    go_wp2
    go_ret
    exact ⟨by rw [HX.out]; rfl, hbel _ _⟩
  have hl : Op.bytesLess s.toList s'.toList = false := by rw [bytesLess_eq]; exact decide_eq_false h5
  by_cases h6 : s = s'
  · subst h6
    have HX := Lib.hid (show cmpV ⟨k, n, s⟩ ⟨k, n, s⟩ = 0 from cmpV_zero.2 rfl)
    clear h5
    go_enter Try.func63, Try.ntmps63
    go_wp2
    go_ret
    exact ⟨by rw [HX.out]; rfl, hbel _ _⟩
  · have HX := Lib.hid (show cmpV ⟨k, n, s⟩ ⟨k, n, s'⟩ = 1 by
      unfold cmpV
      dsimp only
      rw [if_neg, if_neg (fun h => h6 (toList_inj h.2.2))]
      rintro (h | ⟨_, h | ⟨_, h⟩⟩)
      · omega
      · omega
      · exact h5 h)
    have hq : (s.toList == s'.toList) = false := by
      rw [beq_eq_false_iff_ne]
      exact fun h => h6 (toList_inj h)
    clear h5
    go_enter Try.func63, Try.ntmps63
    go_wp2
    go_ret
    exact ⟨by rw [HX.out]; rfl, hbel _ _⟩
theorem cmpR_drop {x y : List V} {k : Nat} {a b : V} (ha : x[k]? = some a) (hb : y[k]? = some b) : cmpR (x.drop k) (y.drop k) = if cmpV a b = 0 then cmpR (x.drop (k + 1)) (y.drop (k + 1)) else cmpV a b := by
  obtain ⟨h1, e1⟩ := List.getElem?_eq_some_iff.1 ha
  obtain ⟨h2, e2⟩ := List.getElem?_eq_some_iff.1 hb
  rw [List.drop_eq_getElem_cons h1, List.drop_eq_getElem_cons h2, e1, e2]
  rfl
theorem cmp_walk {w : World} {A A2 : Option Addr} {n n2 c c2 : Nat} (x y : List V) (hr : RdV w A n x) (hr2 : RdV w A2 n2 y) :
    Calls Try.prog 54 #[.slice A n c, .slice A2 n2 c2] w fun e w' => e = .returned (.int .i64 (cmpR x y)) ∧ Below w.heap.size w w' := by
  have hn := hr.max
  have hn2 := hr2.max
  have hlx := hr.len
  have hly := hr2.len
  obtain ⟨E, hE⟩ : ∃ E, E = cmpR x y := ⟨_, rfl⟩
  rw [← hE]
  have HE := Lib.hid hE
  clear hE
  go_enter Try.func54, Try.ntmps54
  go_wp2
  go_loopw [5] (fun i wr => ∃ k : Nat, k ≤ n ∧ k ≤ n2 ∧ i = .int .i64 k ∧ cmpR (x.drop k) (y.drop k) = E ∧ Below w.heap.size w wr) (fun i _ => n - (intOf i).toNat)
  case atStart => exact ⟨0, by omega, by omega, rfl, HE.out.symm, Below.refl _ _⟩
  case round =>
    obtain ⟨k, hk, hk2, rfl, hE, bel⟩ := hrel
    by_cases hlt : k < n
    · by_cases hlt2 : k < n2
      · obtain ⟨ad, a, rfl, had, ha, hs, d0, d1, d2⟩ := hr.at_ bel hlt
        obtain ⟨ad2, b, rfl, had2, hb, hs2, e0, e1, e2⟩ := hr2.at_ bel hlt2
        have HC := fun W => cmp1_walk a b W hs hs2
        have HD := cmpR_drop ha hb
        rw [hE] at HD
        obtain ⟨q, hq⟩ : ∃ q, q = cmpV a b := ⟨_, rfl⟩
        rw [← hq] at HC HD
        have HC := Lib.hid HC
        by_cases hq0 : q = 0
        · subst hq0
          rw [if_pos rfl] at HD
          have HD := Lib.hid HD
          clear hr hr2 ha hb hq hE
          go_wp2
          go_region_with (go_at_call 63; refine (HC.out _).mono ?_; rintro e w1 ⟨rfl, b1⟩)
          all_goals
            have b2 : Below w.heap.size w w1 := (below_drew bel).trans (b1.mono bel.size)
            go_wp2
            go_roundw
          all_goals first
            | exact ⟨k + 1, by omega, by omega, by go_num, HD.out.symm, b2⟩
            | (simp [intOf]; omega)
        · rw [if_neg hq0] at HD
          have HD := Lib.hid HD
          have hqt : (q != 0) = true := by simpa using hq0
          clear hr hr2 ha hb hq hE
          go_wp2
          go_region_with (go_at_call 63; refine (HC.out _).mono ?_; rintro e w1 ⟨rfl, b1⟩)
          all_goals
            have b2 : Below w.heap.size w w1 := (below_drew bel).trans (b1.mono bel.size)
            go_wp2
            go_ret
            exact ⟨by rw [HD.out]; rfl, b2⟩
      · obtain rfl : k = n2 := by omega
        have HF : E = 1 := by
          rw [← hE, List.drop_eq_getElem_cons (show k < x.length by omega), List.drop_eq_nil_of_le (show y.length ≤ k by omega)]
          rfl
        have HF := Lib.hid HF
        clear hr hr2 hE
        go_wp2
        go_ret
        exact ⟨by rw [HF.out]; rfl, bel⟩
    · obtain rfl : k = n := by omega
      by_cases hlt2 : k < n2
      · have HF : E = -1 := by
          rw [← hE, List.drop_eq_nil_of_le (show x.length ≤ k by omega), List.drop_eq_getElem_cons (show k < y.length by omega)]
          rfl
        have HF := Lib.hid HF
        clear hr hr2 hE
        go_wp2
        go_ret
        exact ⟨by rw [HF.out]; rfl, bel⟩
      · obtain rfl : k = n2 := by omega
        have HF : E = 0 := by
          rw [← hE, List.drop_eq_nil_of_le (show x.length ≤ k by omega), List.drop_eq_nil_of_le (show y.length ≤ k by omega)]
          rfl
        have HF := Lib.hid HF
        clear hr hr2 hE
        go_wp2
        go_ret
        exact ⟨by rw [HF.out]; rfl, bel⟩
end Go.Proofs.Ytlldkdhpilcilaa
