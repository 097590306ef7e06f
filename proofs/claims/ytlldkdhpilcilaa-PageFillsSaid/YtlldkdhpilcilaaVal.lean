/- value.Check, and the document's. -/
import Derived.Test.YtlldkdhpilcilaaV
import Derived.WalkLawsBesides
import Derived.Laws.StructEq
namespace Go.Proofs.Ytlldkdhpilcilaa
open Go.RowKit

def vErr (v : V) : Int := if vOk v then 0 else 10
def VPost (v : V) (w : World) (e : Ending) (w' : World) : Prop := e = .returned (.int .i64 (vErr v)) ∧ Below w.heap.size w w'
def CPost (v : V) (w : World) (e : Ending) (w' : World) : Prop := e = .returned (.bool (vOk v)) ∧ Below w.heap.size w w'
theorem ret_int {k : IntKind} {a b : Int} (h : a = b) : Ending.returned (.int k a) = .returned (.int k b) := by rw [h]
theorem ret_bool {a b : Bool} (h : a = b) : Ending.returned (.bool a) = .returned (.bool b) := by rw [h]
theorem empty_iff (s : ByteArray) : s.toList.isEmpty = decide (s.size = 0) := by
  rw [ByteArray.toList_eq]
  have h : s.size = s.data.toList.length := by simp
  rw [h]
  cases s.data.toList <;> simp

set_option maxHeartbeats 1000000 in
theorem vcheck_e (k n : Int) (s : ByteArray) (w : World) (hz : s.size = 0) : Calls Try.prog 70 #[.agg #[.int .i64 k, .int .i64 n, .string s]] w (VPost ⟨k, n, s⟩ w) := by
  have hE : s.toList.isEmpty = true := by rw [empty_iff]; simpa using hz
  have HZ := Lib.hid hz
  clear hz
  by_cases h0 : k = 0
  · subst h0
    go_enter Try.func70, Try.ntmps70
    go_wp2
    all_goals
      go_ret
      have hz := HZ.out
      refine ⟨ret_int ?_, (Below.refl _ _).alloc (Nat.le_refl _) _⟩
      first
        | (show (0 : Int) = _; unfold vErr vOk; rw [if_pos (decide_eq_true (by dsimp only; first | omega | (simp; done) | (simp; omega)))])
        | (show (10 : Int) = _; unfold vErr vOk; rw [if_neg (fun h => by have h := of_decide_eq_true h; dsimp only at h; omega)])
  by_cases h1 : k = 1
  · subst h1
    go_enter Try.func70, Try.ntmps70
    go_wp2
    all_goals
      go_ret
      have hz := HZ.out
      refine ⟨ret_int ?_, (Below.refl _ _).alloc (Nat.le_refl _) _⟩
      first
        | (show (0 : Int) = _; unfold vErr vOk; rw [if_pos (decide_eq_true (by dsimp only; first | omega | (simp; done) | (simp; omega)))])
        | (show (10 : Int) = _; unfold vErr vOk; rw [if_neg (fun h => by have h := of_decide_eq_true h; dsimp only at h; omega)])
  by_cases h2 : k = 2
  · subst h2
    go_enter Try.func70, Try.ntmps70
    go_wp2
    all_goals
      go_ret
      have hz := HZ.out
      refine ⟨ret_int ?_, (Below.refl _ _).alloc (Nat.le_refl _) _⟩
      first
        | (show (0 : Int) = _; unfold vErr vOk; rw [if_pos (decide_eq_true (by dsimp only; first | omega | (simp; done) | (simp; omega)))])
        | (show (10 : Int) = _; unfold vErr vOk; rw [if_neg (fun h => by have h := of_decide_eq_true h; dsimp only at h; omega)])
  by_cases h3 : k = 3
  · subst h3
    by_cases hn : n = 0
    · subst hn
      by_cases hl : s.size ≤ 64
      · have hd : decide ((s.size : Int) ≤ 64) = true := by simp; omega
        go_enter Try.func70, Try.ntmps70
        go_wp2
        all_goals
          go_ret
          have hz := HZ.out
          refine ⟨ret_int ?_, (Below.refl _ _).alloc (Nat.le_refl _) _⟩
          first
            | (show (0 : Int) = _; unfold vErr vOk; rw [if_pos (decide_eq_true (by dsimp only; first | omega | (simp; done) | (simp; omega)))])
            | (show (10 : Int) = _; unfold vErr vOk; rw [if_neg (fun h => by have h := of_decide_eq_true h; dsimp only at h; omega)])
      · have hd : decide ((s.size : Int) ≤ 64) = false := by simp; omega
        go_enter Try.func70, Try.ntmps70
        go_wp2
        all_goals
          go_ret
          have hz := HZ.out
          refine ⟨ret_int ?_, (Below.refl _ _).alloc (Nat.le_refl _) _⟩
          first
            | (show (0 : Int) = _; unfold vErr vOk; rw [if_pos (decide_eq_true (by dsimp only; first | omega | (simp; done) | (simp; omega)))])
            | (show (10 : Int) = _; unfold vErr vOk; rw [if_neg (fun h => by have h := of_decide_eq_true h; dsimp only at h; omega)])
    · have hnb : (n == 0) = false := beq_eq_false_iff_ne.2 hn
      go_enter Try.func70, Try.ntmps70
      go_wp2
      all_goals
        go_ret
        have hz := HZ.out
        refine ⟨ret_int ?_, (Below.refl _ _).alloc (Nat.le_refl _) _⟩
        first
          | (show (0 : Int) = _; unfold vErr vOk; rw [if_pos (decide_eq_true (by dsimp only; first | omega | (simp; done) | (simp; omega)))])
          | (show (10 : Int) = _; unfold vErr vOk; rw [if_neg (fun h => by have h := of_decide_eq_true h; dsimp only at h; omega)])
  have b0 : (k == 0) = false := beq_eq_false_iff_ne.2 h0
  have b1 : (k == 1) = false := beq_eq_false_iff_ne.2 h1
  have b2 : (k == 2) = false := beq_eq_false_iff_ne.2 h2
  have b3 : (k == 3) = false := beq_eq_false_iff_ne.2 h3
  go_enter Try.func70, Try.ntmps70
  go_wp2
  all_goals
    go_ret
    have hz := HZ.out
    refine ⟨ret_int ?_, (Below.refl _ _).alloc (Nat.le_refl _) _⟩
    first
      | (show (0 : Int) = _; unfold vErr vOk; rw [if_pos (decide_eq_true (by dsimp only; first | omega | (simp; done) | (simp; omega)))])
      | (show (10 : Int) = _; unfold vErr vOk; rw [if_neg (fun h => by have h := of_decide_eq_true h; dsimp only at h; omega)])

set_option maxHeartbeats 1000000 in
theorem vcheck_n (k n : Int) (s : ByteArray) (w : World) (hz : ¬ s.size = 0) (hs : s.size ≤ 9223372036854775807) : Calls Try.prog 70 #[.agg #[.int .i64 k, .int .i64 n, .string s]] w (VPost ⟨k, n, s⟩ w) := by
  have hE : s.toList.isEmpty = false := by rw [empty_iff]; simpa using hz
  have HZ := Lib.hid hz
  clear hz
  by_cases h0 : k = 0
  · subst h0
    go_enter Try.func70, Try.ntmps70
    go_wp2
    all_goals
      go_ret
      have hz := HZ.out
      refine ⟨ret_int ?_, (Below.refl _ _).alloc (Nat.le_refl _) _⟩
      first
        | (show (0 : Int) = _; unfold vErr vOk; rw [if_pos (decide_eq_true (by dsimp only; first | omega | (simp; done) | (simp; omega)))])
        | (show (10 : Int) = _; unfold vErr vOk; rw [if_neg (fun h => by have h := of_decide_eq_true h; dsimp only at h; omega)])
  by_cases h1 : k = 1
  · subst h1
    go_enter Try.func70, Try.ntmps70
    go_wp2
    all_goals
      go_ret
      have hz := HZ.out
      refine ⟨ret_int ?_, (Below.refl _ _).alloc (Nat.le_refl _) _⟩
      first
        | (show (0 : Int) = _; unfold vErr vOk; rw [if_pos (decide_eq_true (by dsimp only; first | omega | (simp; done) | (simp; omega)))])
        | (show (10 : Int) = _; unfold vErr vOk; rw [if_neg (fun h => by have h := of_decide_eq_true h; dsimp only at h; omega)])
  by_cases h2 : k = 2
  · subst h2
    go_enter Try.func70, Try.ntmps70
    go_wp2
    all_goals
      go_ret
      have hz := HZ.out
      refine ⟨ret_int ?_, (Below.refl _ _).alloc (Nat.le_refl _) _⟩
      first
        | (show (0 : Int) = _; unfold vErr vOk; rw [if_pos (decide_eq_true (by dsimp only; first | omega | (simp; done) | (simp; omega)))])
        | (show (10 : Int) = _; unfold vErr vOk; rw [if_neg (fun h => by have h := of_decide_eq_true h; dsimp only at h; omega)])
  by_cases h3 : k = 3
  · subst h3
    by_cases hn : n = 0
    · subst hn
      by_cases hl : s.size ≤ 64
      · have hd : decide ((s.size : Int) ≤ 64) = true := by simp; omega
        go_enter Try.func70, Try.ntmps70
        go_wp2
        all_goals
          go_ret
          have hz := HZ.out
          refine ⟨ret_int ?_, (Below.refl _ _).alloc (Nat.le_refl _) _⟩
          first
            | (show (0 : Int) = _; unfold vErr vOk; rw [if_pos (decide_eq_true (by dsimp only; first | omega | (simp; done) | (simp; omega)))])
            | (show (10 : Int) = _; unfold vErr vOk; rw [if_neg (fun h => by have h := of_decide_eq_true h; dsimp only at h; omega)])
      · have hd : decide ((s.size : Int) ≤ 64) = false := by simp; omega
        go_enter Try.func70, Try.ntmps70
        go_wp2
        all_goals
          go_ret
          have hz := HZ.out
          refine ⟨ret_int ?_, (Below.refl _ _).alloc (Nat.le_refl _) _⟩
          first
            | (show (0 : Int) = _; unfold vErr vOk; rw [if_pos (decide_eq_true (by dsimp only; first | omega | (simp; done) | (simp; omega)))])
            | (show (10 : Int) = _; unfold vErr vOk; rw [if_neg (fun h => by have h := of_decide_eq_true h; dsimp only at h; omega)])
    · have hnb : (n == 0) = false := beq_eq_false_iff_ne.2 hn
      go_enter Try.func70, Try.ntmps70
      go_wp2
      all_goals
        go_ret
        have hz := HZ.out
        refine ⟨ret_int ?_, (Below.refl _ _).alloc (Nat.le_refl _) _⟩
        first
          | (show (0 : Int) = _; unfold vErr vOk; rw [if_pos (decide_eq_true (by dsimp only; first | omega | (simp; done) | (simp; omega)))])
          | (show (10 : Int) = _; unfold vErr vOk; rw [if_neg (fun h => by have h := of_decide_eq_true h; dsimp only at h; omega)])
  have b0 : (k == 0) = false := beq_eq_false_iff_ne.2 h0
  have b1 : (k == 1) = false := beq_eq_false_iff_ne.2 h1
  have b2 : (k == 2) = false := beq_eq_false_iff_ne.2 h2
  have b3 : (k == 3) = false := beq_eq_false_iff_ne.2 h3
  go_enter Try.func70, Try.ntmps70
  go_wp2
  all_goals
    go_ret
    have hz := HZ.out
    refine ⟨ret_int ?_, (Below.refl _ _).alloc (Nat.le_refl _) _⟩
    first
      | (show (0 : Int) = _; unfold vErr vOk; rw [if_pos (decide_eq_true (by dsimp only; first | omega | (simp; done) | (simp; omega)))])
      | (show (10 : Int) = _; unfold vErr vOk; rw [if_neg (fun h => by have h := of_decide_eq_true h; dsimp only at h; omega)])

theorem vcheck (v : V) (w : World) (hs : v.s.size ≤ 9223372036854775807) : Calls Try.prog 70 #[v.val] w (VPost v w) := by
  obtain ⟨k, n, s⟩ := v
  by_cases hz : s.size = 0
  · exact vcheck_e k n s w hz
  · exact vcheck_n k n s w hz hs

set_option maxHeartbeats 1000000 in
theorem vcheckRef_e (k n : Int) (s : ByteArray) (w : World) (hz : s.size = 0) : Calls Try.prog 51 #[.agg #[.int .i64 k, .int .i64 n, .string s]] w (CPost ⟨k, n, s⟩ w) := by
  have hE : s.toList.isEmpty = true := by rw [empty_iff]; simpa using hz
  have HZ := Lib.hid hz
  clear hz
  by_cases h0 : k = 0
  · subst h0
    go_enter Try.func51, Try.ntmps51
    go_wp2
    all_goals
      go_ret
      have hz := HZ.out
      refine ⟨ret_bool ?_, (Below.refl _ _).alloc (Nat.le_refl _) _⟩
      first
        | (show true = _; unfold vOk; symm; rw [decide_eq_true_iff]; dsimp only; omega)
        | (show false = _; unfold vOk; symm; rw [decide_eq_false_iff_not]; dsimp only; omega)
        | (show decide _ = _; unfold vOk; rw [decide_eq_decide]; dsimp only; omega)
  by_cases h1 : k = 1
  · subst h1
    go_enter Try.func51, Try.ntmps51
    go_wp2
    all_goals
      go_ret
      have hz := HZ.out
      refine ⟨ret_bool ?_, (Below.refl _ _).alloc (Nat.le_refl _) _⟩
      first
        | (show true = _; unfold vOk; symm; rw [decide_eq_true_iff]; dsimp only; omega)
        | (show false = _; unfold vOk; symm; rw [decide_eq_false_iff_not]; dsimp only; omega)
        | (show decide _ = _; unfold vOk; rw [decide_eq_decide]; dsimp only; omega)
  by_cases h2 : k = 2
  · subst h2
    go_enter Try.func51, Try.ntmps51
    go_wp2
    all_goals
      go_ret
      have hz := HZ.out
      refine ⟨ret_bool ?_, (Below.refl _ _).alloc (Nat.le_refl _) _⟩
      first
        | (show true = _; unfold vOk; symm; rw [decide_eq_true_iff]; dsimp only; omega)
        | (show false = _; unfold vOk; symm; rw [decide_eq_false_iff_not]; dsimp only; omega)
        | (show decide _ = _; unfold vOk; rw [decide_eq_decide]; dsimp only; omega)
  by_cases h3 : k = 3
  · subst h3
    go_enter Try.func51, Try.ntmps51
    go_wp2
    all_goals
      go_ret
      have hz := HZ.out
      refine ⟨ret_bool ?_, (Below.refl _ _).alloc (Nat.le_refl _) _⟩
      first
        | (show true = _; unfold vOk; symm; rw [decide_eq_true_iff]; dsimp only; omega)
        | (show false = _; unfold vOk; symm; rw [decide_eq_false_iff_not]; dsimp only; omega)
        | (show decide _ = _; unfold vOk; rw [decide_eq_decide]; dsimp only; omega)
  have b0 : (k == 0) = false := beq_eq_false_iff_ne.2 h0
  have b1 : (k == 1) = false := beq_eq_false_iff_ne.2 h1
  have b2 : (k == 2) = false := beq_eq_false_iff_ne.2 h2
  have b3 : (k == 3) = false := beq_eq_false_iff_ne.2 h3
  go_enter Try.func51, Try.ntmps51
  go_wp2
  all_goals
    go_ret
    have hz := HZ.out
    refine ⟨ret_bool ?_, (Below.refl _ _).alloc (Nat.le_refl _) _⟩
    first
      | (show true = _; unfold vOk; symm; rw [decide_eq_true_iff]; dsimp only; omega)
      | (show false = _; unfold vOk; symm; rw [decide_eq_false_iff_not]; dsimp only; omega)
      | (show decide _ = _; unfold vOk; rw [decide_eq_decide]; dsimp only; omega)

set_option maxHeartbeats 1000000 in
theorem vcheckRef_n (k n : Int) (s : ByteArray) (w : World) (hz : ¬ s.size = 0) (hs : s.size ≤ 9223372036854775807) : Calls Try.prog 51 #[.agg #[.int .i64 k, .int .i64 n, .string s]] w (CPost ⟨k, n, s⟩ w) := by
  have hE : s.toList.isEmpty = false := by rw [empty_iff]; simpa using hz
  have HZ := Lib.hid hz
  clear hz
  by_cases h0 : k = 0
  · subst h0
    go_enter Try.func51, Try.ntmps51
    go_wp2
    all_goals
      go_ret
      have hz := HZ.out
      refine ⟨ret_bool ?_, (Below.refl _ _).alloc (Nat.le_refl _) _⟩
      first
        | (show true = _; unfold vOk; symm; rw [decide_eq_true_iff]; dsimp only; omega)
        | (show false = _; unfold vOk; symm; rw [decide_eq_false_iff_not]; dsimp only; omega)
        | (show decide _ = _; unfold vOk; rw [decide_eq_decide]; dsimp only; omega)
  by_cases h1 : k = 1
  · subst h1
    go_enter Try.func51, Try.ntmps51
    go_wp2
    all_goals
      go_ret
      have hz := HZ.out
      refine ⟨ret_bool ?_, (Below.refl _ _).alloc (Nat.le_refl _) _⟩
      first
        | (show true = _; unfold vOk; symm; rw [decide_eq_true_iff]; dsimp only; omega)
        | (show false = _; unfold vOk; symm; rw [decide_eq_false_iff_not]; dsimp only; omega)
        | (show decide _ = _; unfold vOk; rw [decide_eq_decide]; dsimp only; omega)
  by_cases h2 : k = 2
  · subst h2
    go_enter Try.func51, Try.ntmps51
    go_wp2
    all_goals
      go_ret
      have hz := HZ.out
      refine ⟨ret_bool ?_, (Below.refl _ _).alloc (Nat.le_refl _) _⟩
      first
        | (show true = _; unfold vOk; symm; rw [decide_eq_true_iff]; dsimp only; omega)
        | (show false = _; unfold vOk; symm; rw [decide_eq_false_iff_not]; dsimp only; omega)
        | (show decide _ = _; unfold vOk; rw [decide_eq_decide]; dsimp only; omega)
  by_cases h3 : k = 3
  · subst h3
    go_enter Try.func51, Try.ntmps51
    go_wp2
    all_goals
      go_ret
      have hz := HZ.out
      refine ⟨ret_bool ?_, (Below.refl _ _).alloc (Nat.le_refl _) _⟩
      first
        | (show true = _; unfold vOk; symm; rw [decide_eq_true_iff]; dsimp only; omega)
        | (show false = _; unfold vOk; symm; rw [decide_eq_false_iff_not]; dsimp only; omega)
        | (show decide _ = _; unfold vOk; rw [decide_eq_decide]; dsimp only; omega)
  have b0 : (k == 0) = false := beq_eq_false_iff_ne.2 h0
  have b1 : (k == 1) = false := beq_eq_false_iff_ne.2 h1
  have b2 : (k == 2) = false := beq_eq_false_iff_ne.2 h2
  have b3 : (k == 3) = false := beq_eq_false_iff_ne.2 h3
  go_enter Try.func51, Try.ntmps51
  go_wp2
  all_goals
    go_ret
    have hz := HZ.out
    refine ⟨ret_bool ?_, (Below.refl _ _).alloc (Nat.le_refl _) _⟩
    first
      | (show true = _; unfold vOk; symm; rw [decide_eq_true_iff]; dsimp only; omega)
      | (show false = _; unfold vOk; symm; rw [decide_eq_false_iff_not]; dsimp only; omega)
      | (show decide _ = _; unfold vOk; rw [decide_eq_decide]; dsimp only; omega)

theorem vcheckRef (v : V) (w : World) (hs : v.s.size ≤ 9223372036854775807) : Calls Try.prog 51 #[v.val] w (CPost v w) := by
  obtain ⟨k, n, s⟩ := v
  by_cases hz : s.size = 0
  · exact vcheckRef_e k n s w hz
  · exact vcheckRef_n k n s w hz hs
end Go.Proofs.Ytlldkdhpilcilaa
