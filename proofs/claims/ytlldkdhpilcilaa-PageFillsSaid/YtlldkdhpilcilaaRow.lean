/- row.Check, and the document's. -/
import Derived.Test.YtlldkdhpilcilaaVal
namespace Go.Proofs.Ytlldkdhpilcilaa
open Go.RowKit

def rErr (r : List V) : Int := if rowOk r then 0 else 20
theorem vcheck_yes (v : V) (w : World) (hs : v.s.size ≤ 9223372036854775807) (h : vOk v = true) : Calls Try.prog 70 #[v.val] w fun e w' => e = .returned (.int .i64 0) ∧ Below w.heap.size w w' :=
  (vcheck v w hs).mono fun _ _ ⟨a, b⟩ => ⟨by rw [a, vErr, if_pos h], b⟩
theorem vcheck_no (v : V) (w : World) (hs : v.s.size ≤ 9223372036854775807) (h : vOk v = false) : Calls Try.prog 70 #[v.val] w fun e w' => e = .returned (.int .i64 10) ∧ Below w.heap.size w w' :=
  (vcheck v w hs).mono fun _ _ ⟨a, b⟩ => ⟨by rw [a, vErr, if_neg (by simp [h])], b⟩

theorem odd_yes (v : V) (w : World) (hs : v.s.size ≤ 9223372036854775807) (h : vOk v = true) : Calls Try.prog 69 #[v.val] w fun e w' => e = .returned (.bool false) ∧ Below w.heap.size w w' := by
  have hv := fun w => vcheck_yes v w hs h
  obtain ⟨k, n, s⟩ := v
  unfold V.val at hv ⊢
  dsimp only at hv hs ⊢
  have HV := Lib.hid hv
  clear hv h
  go_enter Try.func69, Try.ntmps69
  go_wp2_with (go_at_call 70; refine (HV.out _).mono ?_; rintro e w1 ⟨rfl, b1⟩)
  go_ret
  exact ⟨rfl, ((Below.refl _ _).alloc (Nat.le_refl _) _).trans (b1.mono (by simp))⟩
theorem odd_no (v : V) (w : World) (hs : v.s.size ≤ 9223372036854775807) (h : vOk v = false) : Calls Try.prog 69 #[v.val] w fun e w' => e = .returned (.bool true) ∧ Below w.heap.size w w' := by
  have hv := fun w => vcheck_no v w hs h
  obtain ⟨k, n, s⟩ := v
  unfold V.val at hv ⊢
  dsimp only at hv hs ⊢
  have HV := Lib.hid hv
  clear hv h
  go_enter Try.func69, Try.ntmps69
  go_wp2_with (go_at_call 70; refine (HV.out _).mono ?_; rintro e w1 ⟨rfl, b1⟩)
  go_ret
  exact ⟨rfl, ((Below.refl _ _).alloc (Nat.le_refl _) _).trans (b1.mono (by simp))⟩

def IPost (b : Bool) (w : World) (e : Ending) (w' : World) : Prop := ∃ i : Int, e = .returned (.int .i64 i) ∧ decide (0 ≤ i) = b ∧ Below w.heap.size w w'
theorem idx_walk {w : World} {A : Option Addr} {n c : Nat} (r : List V) (hr : RdV w A n r) :
    Calls Try.prog 76 #[.slice A n c, .func (.func 69) #[] #[]] w (IPost (!r.all vOk) w) := by
  have hn := hr.max
  have HL := Lib.hid hr.len
  go_enter Try.func76, Try.ntmps76
  go_wp2
  go_loopw [8] (fun i wr => ∃ k : Nat, k ≤ n ∧ i = .int .i64 k ∧ (r.take k).all vOk = true ∧ Below w.heap.size w wr) (fun i _ => n - (intOf i).toNat)
  case atStart => exact ⟨0, Nat.zero_le _, rfl, rfl, Below.refl _ _⟩
  case round =>
    obtain ⟨k, hk, rfl, hall, bel⟩ := hrel
    have HA := Lib.hid hall
    clear hall
    by_cases hlt : k < n
    · obtain ⟨ad, v, rfl, had, hv, hs, d0, d1, d2⟩ := hr.at_ bel hlt
      have HV := Lib.hid hv
      clear hr hv
      cases ho : vOk v with
      | true =>
        have HO := Lib.hid (fun w => odd_yes v w hs ho)
        have H2 := Lib.hid ho
        clear ho
        go_wp2_with (go_at_call 69; refine (HO.out _).mono ?_; rintro e w1 ⟨rfl, b1⟩)
        go_roundw
        case rel => exact ⟨k + 1, by omega, by go_num, by rw [all_take HV.out, HA.out, H2.out]; rfl, bel.trans (b1.mono bel.size)⟩
        case measure => simp [intOf]; omega
      | false =>
        have HO := Lib.hid (fun w => odd_no v w hs ho)
        have H2 := Lib.hid (all_false HV.out ho)
        clear ho
        go_wp2_with (go_at_call 69; refine (HO.out _).mono ?_; rintro e w1 ⟨rfl, b1⟩)
        go_ret
        exact ⟨k, rfl, by rw [H2.out]; simp, bel.trans (b1.mono bel.size)⟩
    · go_wp2
      go_ret
      have h := HA.out
      rw [List.take_of_length_le (by have := HL.out; omega)] at h
      exact ⟨-1, rfl, by rw [h]; rfl, bel⟩
theorem con_walk {w : World} {A : Option Addr} {n c : Nat} (r : List V) (hr : RdV w A n r) :
    Calls Try.prog 71 #[.slice A n c, .func (.func 69) #[] #[]] w fun e w' => e = .returned (.bool (!r.all vOk)) ∧ Below w.heap.size w w' := by
  have HI := Lib.hid (idx_walk (c := c) r hr)
  clear hr
  go_enter Try.func71, Try.ntmps71
  go_wp2_with (go_at_call 76; refine HI.out.mono ?_; rintro e w1 ⟨i, rfl, hi, b1⟩; have H := Lib.hid hi; clear hi)
  go_ret
  exact ⟨by rw [← H.out]; rfl, b1⟩
theorem rcheck {w : World} {A : Option Addr} {n c : Nat} (r : List V) (hr : RdV w A n r) :
    Calls Try.prog 59 #[.slice A n c] w fun e w' => e = .returned (.int .i64 (rErr r)) ∧ Below w.heap.size w w' := by
  have hn := hr.max
  have HL := Lib.hid hr.len
  by_cases hle : n ≤ 32
  · cases ha : r.all vOk with
    | true =>
      have HX := Lib.hid (show rErr r = 0 by have := HL.out; simp [rErr, rowOk, ha]; omega)
      have HI := con_walk (c := c) r hr
      rw [ha] at HI
      have HI := Lib.hid HI
      clear hr ha
      go_enter Try.func59, Try.ntmps59
      go_wp2_with (go_at_call 71; refine HI.out.mono ?_; rintro e w1 ⟨rfl, b1⟩)
      go_ret
      exact ⟨by rw [HX.out]; rfl, b1⟩
    | false =>
      have HX := Lib.hid (show rErr r = 20 by simp [rErr, rowOk, ha])
      have HI := con_walk (c := c) r hr
      rw [ha] at HI
      have HI := Lib.hid HI
      clear hr ha
      go_enter Try.func59, Try.ntmps59
      go_wp2_with (go_at_call 71; refine HI.out.mono ?_; rintro e w1 ⟨rfl, b1⟩)
      go_ret
      exact ⟨by rw [HX.out]; rfl, b1⟩
  · have HX := Lib.hid (show rErr r = 20 by have := HL.out; simp [rErr, rowOk]; intro; omega)
    clear hr
    go_enter Try.func59, Try.ntmps59
    go_wp2
    go_ret
    exact ⟨by rw [HX.out]; rfl, Below.refl _ _⟩

theorem vref_at (v : V) (w : World) (hs : v.s.size ≤ 9223372036854775807) (b : Bool) (h : vOk v = b) : Calls Try.prog 51 #[.agg #[.int .i64 v.k, .int .i64 v.n, .string v.s]] w fun e w' => e = .returned (.bool b) ∧ Below w.heap.size w w' :=
  (vcheckRef v w hs).mono fun _ _ ⟨a, b⟩ => ⟨by rw [a, h], b⟩
theorem rcheckRef {w : World} {A : Option Addr} {n c : Nat} (r : List V) (hr : RdV w A n r) :
    Calls Try.prog 17 #[.slice A n c] w fun e w' => e = .returned (.bool (rowOk r)) ∧ Below w.heap.size w w' := by
  have hn := hr.max
  have HL := Lib.hid hr.len
  go_enter Try.func17, Try.ntmps17
  go_wp2
  go_loopw [3] (fun i wr => ∃ k : Nat, k ≤ n ∧ i = .int .i64 k ∧ (r.take k).all vOk = true ∧ Below w.heap.size w wr) (fun i _ => n - (intOf i).toNat)
  case atStart => exact ⟨0, Nat.zero_le _, rfl, rfl, Below.refl _ _⟩
  case round =>
    obtain ⟨k, hk, rfl, hall, bel⟩ := hrel
    have HA := Lib.hid hall
    clear hall
    by_cases hlt : k < n
    · obtain ⟨ad, v, rfl, had, hv, hs, d0, d1, d2⟩ := hr.at_ bel hlt
      have HV := Lib.hid hv
      clear hr hv
      cases ho : vOk v with
      | true =>
        have HO := Lib.hid (fun w => vref_at v w hs true ho)
        have H2 := Lib.hid ho
        clear ho
        go_wp2_with (go_at_call 51; refine (HO.out _).mono ?_; rintro e w1 ⟨rfl, b1⟩)
        go_roundw
        case rel => exact ⟨k + 1, by omega, by go_num, by rw [all_take HV.out, HA.out, H2.out]; rfl, bel.trans (b1.mono bel.size)⟩
        case measure => simp [intOf]; omega
      | false =>
        have HO := Lib.hid (fun w => vref_at v w hs false ho)
        have H2 := Lib.hid (show rowOk r = false by rw [rowOk, all_false HV.out ho]; simp)
        clear ho
        go_wp2_with (go_at_call 51; refine (HO.out _).mono ?_; rintro e w1 ⟨rfl, b1⟩)
        go_ret
        exact ⟨by rw [H2.out]; rfl, bel.trans (b1.mono bel.size)⟩
    · have h := HA.out
      rw [List.take_of_length_le (by have := HL.out; omega)] at h
      have H2 := Lib.hid (show rowOk r = decide (n ≤ 32) by rw [rowOk, h, HL.out]; simp)
      clear h hr
      go_wp2
      go_ret
      refine ⟨?_, bel⟩
      rw [H2.out]
      first | rfl | (show Ending.returned (.bool (decide ((n : Int) ≤ 32))) = _; congr 2; rw [decide_eq_decide]; omega)
end Go.Proofs.Ytlldkdhpilcilaa
