/- HashBytes, HashParts, HashSeeds: the walks. -/
import Derived.Test.YtlldkdhpilcilaaLives
import Derived.Test.YtlldkdhpilcilaaOpen
namespace Go.Proofs.Ytlldkdhpilcilaa
open Go.RowKit

theorem HashBytes.walk {w : World} (seed : Int) (_ : (Lit.int .u64 seed).wf = true) (A : Option Addr) (n c : Nat) (bs : List Int) (hb : Rd1 w A n (u8s bs) ∧ ∀ y ∈ bs, (Lit.int .u8 y).wf = true) (A2 : Option Addr) (n2 c2 : Nat) (r : List V) (hr : RdV w A2 n2 r) :
    Calls Try.prog 3 #[.int .u64 seed, .slice A n c, .slice A2 n2 c2] w fun e w' => e = .returned (.bool true) ∧ Below w.heap.size w w' := by
  have hn := hb.1.2.1
  have hn2 := hr.max
  by_cases h1 : 5000 < n
  · clear hb hr
    go_enter Try.func3, Try.ntmps3
    go_wp2_with (go_at_call 13; refine (lives_walk _).mono ?_; rintro e w1 ⟨rfl, b1⟩)
    go_ret
    exact ⟨rfl, b1⟩
  by_cases h2 : 100 < n2
  · clear hb hr
    go_enter Try.func3, Try.ntmps3
    go_wp2_with (go_at_call 13; refine (lives_walk _).mono ?_; rintro e w1 ⟨rfl, b1⟩)
    go_ret
    exact ⟨rfl, b1⟩
  obtain ⟨X, hX⟩ : ∃ X, X = hashB seed bs := ⟨_, rfl⟩
  have HB := Lib.hid (fun (W : World) (h : Rd1 W A n (u8s bs)) => hX ▸ bytes_walk (c := c) seed bs h)
  have HRB := Lib.hid (fun (W : World) (h : Rd1 W A n (u8s bs)) => hX ▸ refbytes (c := c) seed bs h)
  have HC := fun (W : World) (h : RdV W A2 n2 r) => rcheckRef (c := c2) r h
  have HL := Lib.hid lives_walk
  have HD := Lib.hid (And.intro hb.1 hr)
  cases hok : rowOk r with
  | true =>
    rw [hok] at HC
    have HC := Lib.hid HC
    obtain ⟨H, hH⟩ : ∃ H, H = hashB seed (encR r) := ⟨_, rfl⟩
    have HRow := Lib.hid (fun (W : World) (h : RdV W A2 n2 r) => hH ▸ row_ok (c := c2) seed r h hok)
    have HPut := Lib.hid (fun (W : World) (h : RdV W A2 n2 r) => refput (c := c2) r h hok)
    have HR2 := Lib.hid (fun (W : World) A c (h : Rd1 W A (encR r).length (u8s (encR r))) => hH ▸ refbytes (c := c) seed (encR r) h)
    clear hok hH hX hb hr
    go_enter Try.func3, Try.ntmps3
    go_wp2_with (first
      | (go_at_call 14; refine (HRow.out _ HD.out.2).mono ?_; rintro e w1 ⟨rfl, B1⟩)
      | (go_at_call 13; refine (HL.out _).mono ?_; rintro e w2 ⟨rfl, b⟩; have B2 := B1.trans (b.mono B1.size); clear b)
      | (go_at_call 15; refine (HB.out _ (HD.out.1.below B2)).mono ?_; rintro e w3 ⟨rfl, b⟩; have B3 := B2.trans (b.mono B2.size); clear b)
      | (go_at_call 16; (with_reducible refine (HRB.out _ (HD.out.1.below B3)).mono ?_); rintro e w4 ⟨rfl, b⟩; have B4 := B3.trans (b.mono B3.size); clear b)
      | (go_at_call 17; refine (HC.out _ (HD.out.2.below B4)).mono ?_; rintro e w5 ⟨rfl, b⟩; have B5 := B4.trans (b.mono B4.size); clear b)
      | (go_at_call 18; refine (HPut.out _ (HD.out.2.below B5)).mono ?_; rintro e w6 ⟨v6, rfl, o6, b⟩; have B6 := B5.trans (b.mono B5.size); obtain ⟨A6, c6, rfl⟩ := own_slice o6; have r6 := (Rd1.of_own o6).2; clear o6 b)
      | (go_at_call 16; refine (HR2.out _ _ _ r6).mono ?_; rintro e w7 ⟨rfl, b⟩; have B7 := B6.trans (b.mono B6.size); clear b))
    go_ret
    exact ⟨by trivial, B7⟩
  | false =>
    rw [hok] at HC
    have HC := Lib.hid HC
    have HRow := Lib.hid (fun (W : World) (h : RdV W A2 n2 r) => row_bad (c := c2) seed r h hok)
    clear hok hX hb hr
    go_enter Try.func3, Try.ntmps3
    go_wp2_with (first
      | (go_at_call 14; refine (HRow.out _ HD.out.2).mono ?_; rintro e w1 ⟨rfl, B1⟩)
      | (go_at_call 13; refine (HL.out _).mono ?_; rintro e w2 ⟨rfl, b⟩; have B2 := B1.trans (b.mono B1.size); clear b)
      | (go_at_call 15; refine (HB.out _ (HD.out.1.below B2)).mono ?_; rintro e w3 ⟨rfl, b⟩; have B3 := B2.trans (b.mono B2.size); clear b)
      | (go_at_call 16; (with_reducible refine (HRB.out _ (HD.out.1.below B3)).mono ?_); rintro e w4 ⟨rfl, b⟩; have B4 := B3.trans (b.mono B3.size); clear b)
      | (go_at_call 17; refine (HC.out _ (HD.out.2.below B4)).mono ?_; rintro e w5 ⟨rfl, b⟩; have B5 := B4.trans (b.mono B4.size); clear b))
    go_ret
    exact ⟨by trivial, B5⟩

theorem HashParts.walk {w : World} (seed : Int) (_ : (Lit.int .u64 seed).wf = true) (level : Int) (wl : (Lit.int .i64 level).wf = true) (fan : Int) (wf : (Lit.int .i64 fan).wf = true) (A2 : Option Addr) (n2 c2 : Nat) (r : List V) (hr : RdV w A2 n2 r) :
    Calls Try.prog 4 #[.int .u64 seed, .int .i64 level, .int .i64 fan, .slice A2 n2 c2] w fun e w' => e = .returned (.bool true) ∧ Below w.heap.size w w' := by
  have hn2 := hr.max
  by_cases h2 : 100 < n2
  · clear hr
    go_enter Try.func4, Try.ntmps4
    go_wp2_with (go_at_call 13; refine (lives_walk _).mono ?_; rintro e w1 ⟨rfl, b1⟩)
    go_ret
    exact ⟨rfl, b1⟩
  have HC := fun (W : World) (h : RdV W A2 n2 r) => rcheckRef (c := c2) r h
  have HL := Lib.hid lives_walk
  have HD := Lib.hid hr
  by_cases hm : 0 ≤ level ∧ level ≤ 8 ∧ 1 ≤ fan ∧ fan ≤ 64
  · obtain ⟨m1, m2, m3, m4⟩ := hm
    have HM := Lib.hid (fun W => refmay_yes W level fan m1 m2 m3 m4)
    cases hok : rowOk r with
    | true =>
      rw [hok] at HC
      have HC := Lib.hid HC
      have hpr := part_range seed level fan r m3 m4
      have HP := fun (W : World) (h : RdV W A2 n2 r) => part_ok (c := c2) seed level fan r h hok m1 m2 m3 m4
      have HQ := fun (W : World) (h : RdV W A2 n2 r) => refpart_ok (c := c2) seed level fan r h hok m1 m2 m3 m4
      obtain ⟨H, hH⟩ : ∃ H, H = partN seed level fan r := ⟨_, rfl⟩
      rw [← hH] at hpr HP HQ
      have HP := Lib.hid HP
      have HQ := Lib.hid HQ
      obtain ⟨p1, p2⟩ := hpr
      have p3 : decide (0 ≤ H) = true := decide_eq_true p1
      have p4 : decide (H < fan) = true := decide_eq_true p2
      clear hok hr hH wl wf
      go_enter Try.func4, Try.ntmps4
      go_wp2_with (first
        | (go_at_call 19; refine (HP.out _ HD.out).mono ?_; rintro e w1 ⟨rfl, B1⟩)
        | (go_at_call 13; refine (HL.out _).mono ?_; rintro e w2 ⟨rfl, b⟩; have B2 := B1.trans (b.mono B1.size); clear b)
        | (go_at_call 20; refine (HM.out _).mono ?_; rintro e w3 ⟨rfl, hw⟩; obtain rfl := hw.symm; clear hw)
        | (go_at_call 17; refine (HC.out _ (HD.out.below B2)).mono ?_; rintro e w5 ⟨rfl, b⟩; have B5 := B2.trans (b.mono B2.size); clear b)
        | (go_at_call 21; refine (HQ.out _ (HD.out.below B5)).mono ?_; rintro e w7 ⟨rfl, b⟩; have B7 := B5.trans (b.mono B5.size); clear b))
      go_ret
      exact ⟨by trivial, B7⟩
    | false =>
      rw [hok] at HC
      have HC := Lib.hid HC
      have HP := Lib.hid (fun (W : World) (h : RdV W A2 n2 r) => part_bad (c := c2) seed level fan r h hok m1 m2 m3 m4)
      clear hok hr wl wf
      go_enter Try.func4, Try.ntmps4
      go_wp2_with (first
        | (go_at_call 19; refine (HP.out _ HD.out).mono ?_; rintro e w1 ⟨rfl, B1⟩)
        | (go_at_call 13; refine (HL.out _).mono ?_; rintro e w2 ⟨rfl, b⟩; have B2 := B1.trans (b.mono B1.size); clear b)
        | (go_at_call 20; refine (HM.out _).mono ?_; rintro e w3 ⟨rfl, hw⟩; obtain rfl := hw.symm; clear hw)
        | (go_at_call 17; refine (HC.out _ (HD.out.below B2)).mono ?_; rintro e w5 ⟨rfl, b⟩; have B5 := B2.trans (b.mono B2.size); clear b))
      go_ret
      exact ⟨by trivial, B5⟩
  · have HM := Lib.hid (fun W => refmay_no W level fan hm)
    have HP := Lib.hid (fun W v => part_arg W seed level fan v hm)
    clear hr hm HC wl wf
    go_enter Try.func4, Try.ntmps4
    go_wp2_with (first
      | (go_at_call 19; refine (HP.out _ _).mono ?_; rintro e w1 ⟨rfl, hw⟩; obtain rfl := hw.symm; clear hw)
      | (go_at_call 13; refine (HL.out _).mono ?_; rintro e w2 ⟨rfl, B2⟩)
      | (go_at_call 20; refine (HM.out _).mono ?_; rintro e w3 ⟨rfl, hw⟩; obtain rfl := hw.symm; clear hw))
    go_ret
    exact ⟨by trivial, B2⟩
end Go.Proofs.Ytlldkdhpilcilaa
