/- HashSeeds: the walk. -/
import Derived.Test.YtlldkdhpilcilaaLives
import Derived.Test.YtlldkdhpilcilaaOpen
namespace Go.Proofs.Ytlldkdhpilcilaa
open Go.RowKit

theorem u64_wrap_wrap (x : Int) : IntKind.u64.wrap (IntKind.u64.wrap x) = IntKind.u64.wrap x := by
  simp [IntKind.wrap, IntKind.signed]
theorem part_seed (seed level fan : Int) (r : List V) : partN (IntKind.u64.wrap (seed + level * 2654435769)) 0 fan r = partN seed level fan r := by
  have e : seedAt (IntKind.u64.wrap (seed + level * 2654435769)) 0 = seedAt seed level := by
    unfold seedAt
    rw [show IntKind.u64.wrap (seed + level * 2654435769) + 0 * 2654435769 = IntKind.u64.wrap (seed + level * 2654435769) by omega, u64_wrap_wrap]
  unfold partN
  rw [e]

set_option maxHeartbeats 1000000 in
theorem HashSeeds.walk {w : World} (seed : Int) (_ : (Lit.int .u64 seed).wf = true) (level : Int) (_ : (Lit.int .i64 level).wf = true) (fan : Int) (_ : (Lit.int .i64 fan).wf = true) (A2 : Option Addr) (n2 c2 : Nat) (r : List V) (hr : RdV w A2 n2 r)
    (A : Option Addr) (n c : Nat) (bs : List Int) (hb : Rd1 w A n (u8s bs) ∧ ∀ y ∈ bs, (Lit.int .u8 y).wf = true) :
    Calls Try.prog 7 #[.int .u64 seed, .int .i64 level, .int .i64 fan, .slice A2 n2 c2, .slice A n c] w fun e w' => e = .returned (.bool true) ∧ Below w.heap.size w w' := by
  have hn := hb.1.2.1
  have hn2 := hr.max
  have HL := Lib.hid lives_walk

  by_cases h1 : 1000 < n
  · clear hb hr
    go_enter Try.func7, Try.ntmps7
    go_wp2_with (go_at_call 13; refine (HL.out _).mono ?_; rintro e w1 ⟨rfl, b1⟩)
    go_ret
    exact ⟨rfl, b1⟩
  by_cases h2 : 50 < n2
  · clear hb hr
    go_enter Try.func7, Try.ntmps7
    go_wp2_with (go_at_call 13; refine (HL.out _).mono ?_; rintro e w1 ⟨rfl, b1⟩)
    go_ret
    exact ⟨rfl, b1⟩
  by_cases hm : 0 ≤ level ∧ level ≤ 8 ∧ 1 ≤ fan ∧ fan ≤ 64
  · obtain ⟨m1, m2, m3, m4⟩ := hm
    have HM := Lib.hid (fun W => refmay_yes W level fan m1 m2 m3 m4)
    have HC := rcheckRef (c := c2) r hr
    cases hok : rowOk r with
    | true =>
      rw [hok] at HC
      have HC := Lib.hid HC
      obtain ⟨P, hP⟩ : ∃ P, P = partN seed level fan r := ⟨_, rfl⟩
      obtain ⟨X, hX⟩ : ∃ X, X = hashB seed bs := ⟨_, rfl⟩
      obtain ⟨H, hH⟩ : ∃ H, H = hashB seed (encR r) := ⟨_, rfl⟩
      have HP1 := fun (W : World) (h : RdV W A2 n2 r) => part_ok (c := c2) seed level fan r h hok m1 m2 m3 m4
      have HP2 := fun (W : World) (h : RdV W A2 n2 r) => part_ok (c := c2) (IntKind.u64.wrap (seed + level * 2654435769)) 0 fan r h hok (by omega) (by omega) m3 m4
      rw [part_seed] at HP2
      rw [← hP] at HP1 HP2
      have HP1 := Lib.hid HP1
      have HP2 := Lib.hid HP2
      have HB1 := Lib.hid (fun (W : World) A' c' (h : Rd1 W A' (encR r).length (u8s (encR r))) => hH ▸ bytes_walk (c := c') seed (encR r) h)
      have HB := Lib.hid (fun (W : World) (h : Rd1 W A n (u8s bs)) => hX ▸ bytes_walk (c := c) seed bs h)
      have HRB := Lib.hid (fun (W : World) (h : Rd1 W A n (u8s bs)) => hX ▸ refbytes (c := c) seed bs h)
      have HRow := Lib.hid (fun (W : World) (h : RdV W A2 n2 r) => hH ▸ row_ok (c := c2) seed r h hok)
      have HPut := Lib.hid (fun (W : World) (h : RdV W A2 n2 r) => refput (c := c2) r h hok)
      have HD := Lib.hid (And.intro hb.1 hr)
      clear hok hH hX hP hb hr
      go_enter Try.func7, Try.ntmps7
      go_wp2_with (first
        | (go_at_call 20; refine (HM.out _).mono ?_; rintro e w0 ⟨rfl, hw⟩; obtain rfl := hw.symm; clear hw)
        | (go_at_call 17; refine HC.out.mono ?_; rintro e w1 ⟨rfl, B1⟩)
        | (go_at_call 19; (with_reducible refine (HP1.out _ (HD.out.2.below B1)).mono ?_); rintro e w2 ⟨rfl, b⟩; have B2 := B1.trans (b.mono B1.size); clear b)
        | (go_at_call 19; refine (HP2.out _ (HD.out.2.below B2)).mono ?_; rintro e w3 ⟨rfl, b⟩; have B3 := B2.trans (b.mono B2.size); clear b)
        | (go_at_call 14; refine (HRow.out _ (HD.out.2.below B3)).mono ?_; rintro e w4 ⟨rfl, b⟩; have B4 := B3.trans (b.mono B3.size); clear b)
        | (go_at_call 13; refine (HL.out _).mono ?_; rintro e w5 ⟨rfl, b⟩; have B5 := B4.trans (b.mono B4.size); clear b)
        | (go_at_call 18; refine (HPut.out _ (HD.out.2.below B5)).mono ?_; rintro e w6 ⟨v6, rfl, o6, b⟩; have B6 := B5.trans (b.mono B5.size); obtain ⟨A6, c6, rfl⟩ := own_slice o6; have r6 := (Rd1.of_own o6).2; clear o6 b)
        | (go_at_call 15; (with_reducible refine (HB1.out _ _ _ r6).mono ?_); rintro e w7 ⟨rfl, b⟩; have B7 := B6.trans (b.mono B6.size); clear b)
        | (go_at_call 15; refine (HB.out _ (HD.out.1.below B7)).mono ?_; rintro e w8 ⟨rfl, b⟩; have B8 := B7.trans (b.mono B7.size); clear b)
        | (go_at_call 16; refine (HRB.out _ (HD.out.1.below B8)).mono ?_; rintro e w9 ⟨rfl, b⟩; have B9 := B8.trans (b.mono B8.size); clear b))
      go_ret
      exact ⟨by trivial, B9⟩
    | false =>
      rw [hok] at HC
      have HC := Lib.hid HC
      clear hok hb hr
      go_enter Try.func7, Try.ntmps7
      go_wp2_with (first
        | (go_at_call 20; refine (HM.out _).mono ?_; rintro e w0 ⟨rfl, hw⟩; obtain rfl := hw.symm; clear hw)
        | (go_at_call 17; refine HC.out.mono ?_; rintro e w1 ⟨rfl, B1⟩)
        | (go_at_call 13; refine (HL.out _).mono ?_; rintro e w5 ⟨rfl, b⟩; have B5 := B1.trans (b.mono B1.size); clear b))
      go_ret
      exact ⟨by trivial, B5⟩
  · have HM := Lib.hid (fun W => refmay_no W level fan hm)
    clear hr hb hm
    go_enter Try.func7, Try.ntmps7
    go_wp2_with (first
      | (go_at_call 20; refine (HM.out _).mono ?_; rintro e w0 ⟨rfl, hw⟩; obtain rfl := hw.symm; clear hw)
      | (go_at_call 13; refine (HL.out _).mono ?_; rintro e w5 ⟨rfl, b1⟩))
    go_ret
    exact ⟨by trivial, b1⟩
end Go.Proofs.Ytlldkdhpilcilaa
