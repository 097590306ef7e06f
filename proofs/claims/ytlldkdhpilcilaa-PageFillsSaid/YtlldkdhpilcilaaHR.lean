/- the number and the part of a row. -/
import Derived.Test.YtlldkdhpilcilaaHB
namespace Go.Proofs.Ytlldkdhpilcilaa
open Go.RowKit

def mayB (level fan : Int) : Bool := decide (0 ≤ level ∧ level ≤ 8 ∧ 1 ≤ fan ∧ fan ≤ 64)
theorem may_yes (w : World) (level fan : Int) (h1 : 0 ≤ level) (h2 : level ≤ 8) (h3 : 1 ≤ fan) (h4 : fan ≤ 64) : Calls Try.prog 52 #[.int .i64 level, .int .i64 fan] w fun e w' => e = .returned (.int .i64 0) ∧ w' = w := by
  go_enter Try.func52, Try.ntmps52
  go_wp2
  go_ret
  exact ⟨rfl, rfl⟩
theorem may_no (w : World) (level fan : Int) (h : ¬ (0 ≤ level ∧ level ≤ 8 ∧ 1 ≤ fan ∧ fan ≤ 64)) : Calls Try.prog 52 #[.int .i64 level, .int .i64 fan] w fun e w' => e = .returned (.int .i64 1) ∧ w' = w := by
  by_cases h1 : level < 0
  · clear h
    go_enter Try.func52, Try.ntmps52
    go_wp2
    go_ret
    exact ⟨rfl, rfl⟩
  by_cases h2 : 8 < level
  · clear h
    go_enter Try.func52, Try.ntmps52
    go_wp2
    go_ret
    exact ⟨rfl, rfl⟩
  by_cases h3 : fan < 1
  · clear h
    go_enter Try.func52, Try.ntmps52
    go_wp2
    go_ret
    exact ⟨rfl, rfl⟩
  have h4 : 64 < fan := by omega
  clear h
  go_enter Try.func52, Try.ntmps52
  go_wp2
  go_ret
  exact ⟨rfl, rfl⟩
theorem refmay_yes (w : World) (level fan : Int) (h1 : 0 ≤ level) (h2 : level ≤ 8) (h3 : 1 ≤ fan) (h4 : fan ≤ 64) : Calls Try.prog 20 #[.int .i64 level, .int .i64 fan] w fun e w' => e = .returned (.bool true) ∧ w' = w := by
  go_enter Try.func20, Try.ntmps20
  go_wp2
  go_ret
  exact ⟨rfl, rfl⟩
theorem refmay_no (w : World) (level fan : Int) (h : ¬ (0 ≤ level ∧ level ≤ 8 ∧ 1 ≤ fan ∧ fan ≤ 64)) : Calls Try.prog 20 #[.int .i64 level, .int .i64 fan] w fun e w' => e = .returned (.bool false) ∧ w' = w := by
  by_cases h1 : level < 0
  · clear h
    go_enter Try.func20, Try.ntmps20
    go_wp2
    go_ret
    exact ⟨rfl, rfl⟩
  by_cases h2 : 8 < level
  · clear h
    go_enter Try.func20, Try.ntmps20
    go_wp2
    go_ret
    exact ⟨rfl, rfl⟩
  by_cases h3 : fan < 1
  · clear h
    go_enter Try.func20, Try.ntmps20
    go_wp2
    go_ret
    exact ⟨rfl, rfl⟩
  have h4 : 64 < fan := by omega
  have h5 : decide (fan ≤ 64) = false := by simp; omega
  clear h
  go_enter Try.func20, Try.ntmps20
  go_wp2
  go_ret
  exact ⟨rfl, rfl⟩

theorem row_bad {w : World} {A : Option Addr} {n c : Nat} (seed : Int) (r : List V) (hr : RdV w A n r) (hk : rowOk r = false) :
    Calls Try.prog 14 #[.int .u64 seed, .slice A n c] w fun e w' => e = .returned (.tuple #[.int .u64 0, .int .i64 20]) ∧ Below w.heap.size w w' := by
  have HP := Lib.hid (rput_bad (c := c) r hr hk)
  clear hr hk
  go_enter Try.func14, Try.ntmps14
  go_wp2_with (go_at_call 48; refine HP.out.mono ?_; rintro e w1 ⟨rfl, b1⟩)
  go_ret2
  exact ⟨rfl, b1⟩
theorem row_ok {w : World} {A : Option Addr} {n c : Nat} (seed : Int) (r : List V) (hr : RdV w A n r) (hk : rowOk r = true) :
    Calls Try.prog 14 #[.int .u64 seed, .slice A n c] w fun e w' => e = .returned (.tuple #[.int .u64 (hashB seed (encR r)), .int .i64 0]) ∧ Below w.heap.size w w' := by
  have HP := Lib.hid (rput_ok (c := c) r hr hk)
  clear hr hk
  go_enter Try.func14, Try.ntmps14
  go_wp2_with (first
    | (go_at_call 48; refine HP.out.mono ?_; rintro e w1 ⟨v1, rfl, h1, b1⟩; obtain ⟨A1, c1, rfl⟩ := own_slice h1; have HB := Lib.hid (bytes_walk (c := c1) seed (encR r) (Rd1.of_own h1).2))
    | (go_at_call 15; refine HB.out.mono ?_; rintro e w2 ⟨rfl, b2⟩))
  go_ret2
  exact ⟨rfl, b1.trans (b2.mono b1.size)⟩

def seedAt (seed level : Int) : Int := IntKind.u64.wrap (seed + level * 2654435769)
def partN (seed level fan : Int) (r : List V) : Int := wrap64 ((hashB (seedAt seed level) (encR r)).tmod fan)
theorem part_arg (w : World) (seed level fan : Int) (v : Value) (h : ¬ (0 ≤ level ∧ level ≤ 8 ∧ 1 ≤ fan ∧ fan ≤ 64)) :
    Calls Try.prog 19 #[.int .u64 seed, .int .i64 level, .int .i64 fan, v] w fun e w' => e = .returned (.tuple #[.int .i64 0, .int .i64 1]) ∧ w' = w := by
  have HM := Lib.hid (may_no w level fan h)
  clear h
  go_enter Try.func19, Try.ntmps19
  go_wp2_with (go_at_call 52; refine HM.out.mono ?_; rintro e w1 ⟨rfl, rfl⟩)
  go_ret2
  exact ⟨rfl, rfl⟩
theorem part_bad {w : World} {A : Option Addr} {n c : Nat} (seed level fan : Int) (r : List V) (hr : RdV w A n r) (hk : rowOk r = false) (h1 : 0 ≤ level) (h2 : level ≤ 8) (h3 : 1 ≤ fan) (h4 : fan ≤ 64) :
    Calls Try.prog 19 #[.int .u64 seed, .int .i64 level, .int .i64 fan, .slice A n c] w fun e w' => e = .returned (.tuple #[.int .i64 0, .int .i64 20]) ∧ Below w.heap.size w w' := by
  have HM := Lib.hid (may_yes w level fan h1 h2 h3 h4)
  have HR := Lib.hid (fun s => row_bad (c := c) s r hr hk)
  clear hr hk
  go_enter Try.func19, Try.ntmps19
  go_wp2_with (first
    | (go_at_call 52; refine HM.out.mono ?_; rintro e w1 ⟨rfl, rfl⟩)
    | (go_at_call 14; refine (HR.out _).mono ?_; rintro e w1 ⟨rfl, b1⟩))
  go_ret2
  exact ⟨rfl, b1⟩
theorem part_ok {w : World} {A : Option Addr} {n c : Nat} (seed level fan : Int) (r : List V) (hr : RdV w A n r) (hk : rowOk r = true) (h1 : 0 ≤ level) (h2 : level ≤ 8) (h3 : 1 ≤ fan) (h4 : fan ≤ 64) :
    Calls Try.prog 19 #[.int .u64 seed, .int .i64 level, .int .i64 fan, .slice A n c] w fun e w' => e = .returned (.tuple #[.int .i64 (partN seed level fan r), .int .i64 0]) ∧ Below w.heap.size w w' := by
  have HM := Lib.hid (may_yes w level fan h1 h2 h3 h4)
  have HR := Lib.hid (fun s => row_ok (c := c) s r hr hk)
  clear hr hk
  go_enter Try.func19, Try.ntmps19
  go_wp2_with (first
    | (go_at_call 52; refine HM.out.mono ?_; rintro e w1 ⟨rfl, rfl⟩)
    | (go_at_call 14; refine (HR.out _).mono ?_; rintro e w1 ⟨rfl, b1⟩))
  go_ret2
  exact ⟨rfl, b1⟩
theorem refpart_ok {w : World} {A : Option Addr} {n c : Nat} (seed level fan : Int) (r : List V) (hr : RdV w A n r) (hk : rowOk r = true) (h1 : 0 ≤ level) (h2 : level ≤ 8) (h3 : 1 ≤ fan) (h4 : fan ≤ 64) :
    Calls Try.prog 21 #[.int .u64 seed, .int .i64 level, .int .i64 fan, .slice A n c] w fun e w' => e = .returned (.int .i64 (partN seed level fan r)) ∧ Below w.heap.size w w' := by
  have HP := Lib.hid (refput (c := c) r hr hk)
  clear hr hk
  go_enter Try.func21, Try.ntmps21
  go_wp2_with (first
    | (go_at_call 18; refine HP.out.mono ?_; rintro e w1 ⟨v1, rfl, h1, b1⟩; obtain ⟨A1, c1, rfl⟩ := own_slice h1; have HB := Lib.hid (fun s => refbytes (c := c1) s (encR r) (Rd1.of_own h1).2))
    | (go_at_call 16; refine (HB.out _).mono ?_; rintro e w2 ⟨rfl, b2⟩))
  go_ret
  exact ⟨rfl, b1.trans (b2.mono b1.size)⟩
end Go.Proofs.Ytlldkdhpilcilaa
