/- page.Check, Count, Rows, Get, Room, New, fits. -/
import Derived.Test.YtlldkdhpilcilaaPgt
namespace Go.Proofs.Ytlldkdhpilcilaa
open Go.RowKit
set_option linter.unusedVariables false
set_option linter.unusedSimpArgs false

/-- Bytes that are read. -/
structure RdB (w : World) (A : Option Addr) (n c : Nat) (p : List Int) : Prop where
  rd : Rd1 w A n (u8s p)
  isb : isB p
  cap : n ≤ c
  c64 : c ≤ 9223372036854775807
theorem RdB.below {w w' : World} {A : Option Addr} {n c : Nat} {p : List Int} (h : RdB w A n c p) (b : Below w.heap.size w w') : RdB w' A n c p := ⟨h.rd.below b, h.isb, h.cap, h.c64⟩
theorem RdB.turn {S : Nat → Prop} {w w' : World} {A : Option Addr} {n c : Nat} {p : List Int} (h : RdB w A n c p) (ht : Turn S w w') (hs : ∀ ad, A = some ad → ¬ S ad.block) : RdB w' A n c p := ⟨h.rd.turn ht hs, h.isb, h.cap, h.c64⟩
theorem rowOk_mem {r : List V} (h : rowOk r = true) {v : V} (hv : v ∈ r) : vOk v = true := by
  unfold rowOk at h
  simp only [Bool.and_eq_true, List.all_eq_true] at h
  exact h.2 v hv
theorem vOk_size {v : V} (h : vOk v = true) : v.s.size ≤ 9223372036854775807 := by
  unfold vOk at h
  have h := of_decide_eq_true h
  omega
section
variable {w : World} {A : Option Addr} {n c : Nat} {p : List Int}
theorem scan_none (h : RdB w A n c p) (hs : scanS p = none) : Calls Try.prog 55 #[.slice A n c] w fun e w' => e = .returned (.tuple #[.slice none 0 0, .int .i64 0, .int .i64 40]) ∧ Below w.heap.size w w' := by
  refine (scan_walk h.rd h.isb h.cap h.c64).mono ?_
  intro e w' H
  unfold ScanP at H
  rw [hs] at H
  exact H
theorem scan_some (h : RdB w A n c p) {rows : List (List V)} {a : Nat} (hs : scanS p = some (rows, a)) : Calls Try.prog 55 #[.slice A n c] w fun e w' => ∃ B c' hds, e = .returned (.tuple #[.slice B rows.length c', .int .i64 a, .int .i64 0]) ∧ w'.ownsRow w.heap.size 24 1 (.slice B rows.length c') rows.length hds ∧ OwnRs w' w.heap.size hds rows ∧ Below w.heap.size w w' := by
  refine (scan_walk h.rd h.isb h.cap h.c64).mono ?_
  intro e w' H
  unfold ScanP at H
  rw [hs] at H
  obtain ⟨⟨B, c', hds, h1, h2, h3⟩, h4⟩ := H
  exact ⟨B, c', hds, h1, h2, h3, h4⟩
theorem pcheck_no (h : RdB w A n c p) (hs : scanS p = none) : Calls Try.prog 41 #[.slice A n c] w fun e w' => e = .returned (.int .i64 40) ∧ Below w.heap.size w w' := by
  have H := Lib.hid (scan_none h hs)
  clear h hs
  go_enter Try.func41, Try.ntmps41
  go_wp2_with (go_at_call 55; refine H.out.mono ?_; rintro e w1 ⟨rfl, b1⟩)
  go_ret
  exact ⟨by trivial, b1⟩
theorem pcheck_yes (h : RdB w A n c p) {rows : List (List V)} {a : Nat} (hs : scanS p = some (rows, a)) : Calls Try.prog 41 #[.slice A n c] w fun e w' => e = .returned (.int .i64 0) ∧ Below w.heap.size w w' := by
  have H := Lib.hid (scan_some h hs)
  clear h hs
  go_enter Try.func41, Try.ntmps41
  go_wp2_with (go_at_call 55; refine H.out.mono ?_; rintro e w1 ⟨B, c', hds, rfl, _, _, b1⟩)
  go_ret
  exact ⟨by trivial, b1⟩
theorem pcount_no (h : RdB w A n c p) (hs : scanS p = none) : Calls Try.prog 36 #[.slice A n c] w fun e w' => e = .returned (.int .i64 0) ∧ Below w.heap.size w w' := by
  have H := Lib.hid (scan_none h hs)
  clear h hs
  go_enter Try.func36, Try.ntmps36
  go_wp2_with (go_at_call 55; refine H.out.mono ?_; rintro e w1 ⟨rfl, b1⟩)
  go_ret
  exact ⟨by trivial, b1⟩
theorem pcount_yes (h : RdB w A n c p) {rows : List (List V)} {a : Nat} (hs : scanS p = some (rows, a)) : Calls Try.prog 36 #[.slice A n c] w fun e w' => e = .returned (.int .i64 rows.length) ∧ Below w.heap.size w w' := by
  have H := Lib.hid (scan_some h hs)
  clear h hs
  go_enter Try.func36, Try.ntmps36
  go_wp2_with (go_at_call 55; refine H.out.mono ?_; rintro e w1 ⟨B, c', hds, rfl, _, _, b1⟩)
  go_ret
  exact ⟨by trivial, b1⟩
theorem prows_no (h : RdB w A n c p) (hs : scanS p = none) : Calls Try.prog 38 #[.slice A n c] w fun e w' => e = .returned (.tuple #[.slice none 0 0, .int .i64 40]) ∧ Below w.heap.size w w' := by
  have H := Lib.hid (scan_none h hs)
  clear h hs
  go_enter Try.func38, Try.ntmps38
  go_wp2_with (go_at_call 55; refine H.out.mono ?_; rintro e w1 ⟨rfl, b1⟩)
  go_ret2
  exact ⟨by trivial, b1⟩
theorem prows_yes (h : RdB w A n c p) {rows : List (List V)} {a : Nat} (hs : scanS p = some (rows, a)) : Calls Try.prog 38 #[.slice A n c] w fun e w' => ∃ B c' hds, e = .returned (.tuple #[.slice B rows.length c', .int .i64 0]) ∧ w'.ownsRow w.heap.size 24 1 (.slice B rows.length c') rows.length hds ∧ OwnRs w' w.heap.size hds rows ∧ Below w.heap.size w w' := by
  have H := Lib.hid (scan_some h hs)
  clear h hs
  go_enter Try.func38, Try.ntmps38
  go_wp2_with (go_at_call 55; refine H.out.mono ?_; rintro e w1 ⟨B, c', hds, rfl, h1, h2, b1⟩; have G := Lib.hid (And.intro h1 (And.intro h2 b1)); clear h1 h2 b1)
  go_ret2
  exact ⟨_, _, _, by trivial, G.out⟩
theorem pget_no (h : RdB w A n c p) (hs : scanS p = none) (i : Int) : Calls Try.prog 39 #[.slice A n c, .int .i64 i] w fun e w' => e = .returned (.tuple #[.slice none 0 0, .int .i64 40]) ∧ Below w.heap.size w w' := by
  have H := Lib.hid (prows_no h hs)
  clear h hs
  go_enter Try.func39, Try.ntmps39
  go_wp2_with (go_at_call 38; refine H.out.mono ?_; rintro e w1 ⟨rfl, b1⟩)
  go_ret2
  exact ⟨by trivial, b1⟩
theorem pget_none (h : RdB w A n c p) {rows : List (List V)} {a : Nat} (hs : scanS p = some (rows, a)) (i : Int) (hi : ¬ (0 ≤ i ∧ i < rows.length)) : Calls Try.prog 39 #[.slice A n c, .int .i64 i] w fun e w' => e = .returned (.tuple #[.slice none 0 0, .int .i64 4]) ∧ Below w.heap.size w w' := by
  have H := Lib.hid (prows_yes h hs)
  clear h hs
  by_cases h0 : i < 0
  · clear hi
    go_enter Try.func39, Try.ntmps39
    go_wp2_with (go_at_call 38; refine H.out.mono ?_; rintro e w1 ⟨B, c', hds, rfl, _, _, b1⟩)
    go_ret2
    exact ⟨by trivial, b1⟩
  · have h1 : (rows.length : Int) ≤ i := by omega
    have h2 : 0 ≤ i := by omega
    have d0 : decide (i < 0) = false := decide_eq_false h0
    clear hi
    go_enter Try.func39, Try.ntmps39
    go_wp2_with (go_at_call 38; refine H.out.mono ?_; rintro e w1 ⟨B, c', hds, rfl, _, _, b1⟩)
    go_ret2
    exact ⟨by trivial, b1⟩
theorem pget_yes (h : RdB w A n c p) {rows : List (List V)} {a : Nat} (hs : scanS p = some (rows, a)) {i : Nat} {r : List V} (hi : rows[i]? = some r) : Calls Try.prog 39 #[.slice A n c, .int .i64 i] w fun e w' => ∃ B m c', e = .returned (.tuple #[.slice B m c', .int .i64 0]) ∧ RdV w' B m r ∧ Below w.heap.size w w' := by
  have H := Lib.hid (prows_yes h hs)
  have hil : i < rows.length := (List.getElem?_eq_some_iff.1 hi).1
  have HI := Lib.hid hi
  have h2 : (0 : Int) ≤ i := by omega
  have d0 : decide ((i : Int) < 0) = false := decide_eq_false (by omega)
  clear h hs hi
  go_enter Try.func39, Try.ntmps39
  go_wp2_with (go_at_call 38; refine H.out.mono ?_; rintro e w1 ⟨B, c', hds, rfl, h1, h2, b1⟩; have G := Lib.hid (And.intro h2 b1); obtain ⟨adx, hxa, hxb, hxc⟩ := (Rd1.of_own h1).2.at2 hil; subst hxa; obtain ⟨x, hx⟩ : ∃ x, hds[i]? = some x := ⟨_, List.getElem?_eq_getElem (by rw [h2.len]; exact hil)⟩; have hrow := h2.own i x _ hx HI.out; obtain ⟨Bx, cx, hxe⟩ := own_slice hrow; subst hxe; rw [hx] at hxc; have HR := Lib.hid (RdV.of_own hrow (fun v hv => vOk_size (rowOk_mem (h2.ok _ (List.mem_of_getElem? HI.out)) hv))).2; clear h1 h2 b1 hx hrow)
  go_ret2
  exact ⟨_, _, _, by trivial, HR.out, G.out.2⟩
end
end Go.Proofs.Ytlldkdhpilcilaa
