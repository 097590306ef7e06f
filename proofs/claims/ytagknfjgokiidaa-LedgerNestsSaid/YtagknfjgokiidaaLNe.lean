/- LedgerNests: the walk. -/
import Derived.Test.YtagknfjgokiidaaLR
import Derived.Test.YtagknfjgokiidaaLP
namespace Go.Proofs.Ytagknfjgokiidaa
open Go.RowKit Go.Maps
set_option linter.unusedVariables false
set_option linter.unusedSimpArgs false

set_option maxHeartbeats 4000000 in
theorem LedgerNests.walk {w : World} (G : Int) (wG : (Lit.int .i64 G).wf = true) : Calls Try.prog 8 #[.int .i64 G] w fun e w' => e = .returned (.bool true) ∧ Below w.heap.size w w' := by
  have HLv := Lib.hid lives_walk
  by_cases hG : G < 0 ∨ 200 < G
  · have hd : (decide (G < 0) || decide (200 < G)) = true := by simpa using hG
    by_cases h0 : G < 0
    · clear hG hd
      go_enter Try.func8, Try.ntmps8
      go_wp2_with (go_at_call 25; (with_reducible refine (HLv.out _).mono ?_); rintro e w1 ⟨rfl, b1⟩)
      go_ret
      exact ⟨by trivial, b1⟩
    · have h2 : 200 < G := by omega
      clear hG hd
      go_enter Try.func8, Try.ntmps8
      go_wp2_with (go_at_call 25; (with_reducible refine (HLv.out _).mono ?_); rintro e w1 ⟨rfl, b1⟩)
      go_ret
      exact ⟨by trivial, b1⟩
  · obtain ⟨N, hN⟩ : ∃ N : Nat, (N : Int) = G := ⟨G.toNat, by omega⟩
    have hN2 : N ≤ 200 := by omega
    subst hN
    clear hG
    have CN := Lib.hid (lv_new (w := w) (g := (N : Int)) (by omega) (by omega))
    have K0 := Lib.hid (LOk.new (G := (N : Int)) (by omega) (by omega))
    rw [nest_new] at CN K0
    go_enter Try.func8, Try.ntmps8
    go_wp2_with (first
      | (go_at_call 24; (with_reducible refine CN.out.mono ?_); rintro e w1 ⟨bl, rfl, V0⟩; have V0 := Lib.hid V0)
      | (go_at_call 25; (with_reducible refine (HLv.out _).mono ?_); rintro e w2 ⟨rfl, b2⟩; have V2 := Lib.hid (V0.out.below (B := 0) b2); clear b2))
    go_loopw [5] (fun y wr => ∃ (i : Nat), i ≤ N ∧ y = .int .i64 ((i : Int) + 1) ∧ Hid (LV w.heap.size w wr bl (nS N i i i i i (i + 1))) ∧ Hid (LOk N (nS N i i i i i (i + 1)))) (fun y _ => N + 1 - (intOf y).toNat)
    case atStart => exact ⟨0, by omega, rfl, V2, K0⟩
    case round =>
      obtain ⟨i, hi, rfl, HV, HK⟩ := hrel
      by_cases hlt : i < N
      · have C1 := Lib.hid (show Calls Try.prog 26 #[lp bl, .int .i64 (i : Int), .int .i64 ((N : Int) - ((i : Int) + 1))] wr fun e w' => e = .returned (.tuple #[.int .i64 ((i : Int) + 1), .int .i64 0]) ∧ LV w.heap.size w w' bl (nS N ((i : Int) + 1) i i i (i + 1) (i + 2)) from by
          have h := nest_open (G := (N : Int)) (i := i) (by omega) (by omega)
          have := lv_open HV.out HK.out (by unfold nS; dsimp only; omega) (n := (i : Int)) (g := (N : Int) - ((i : Int) + 1)) (WalkArith.wf_i64 (by omega)) (WalkArith.wf_i64 (by omega))
          rw [h.1, h.2, if_pos rfl] at this
          exact this)
        have K1 := HK.out.open_ (i : Int) ((N : Int) - ((i : Int) + 1))
        rw [(nest_open (G := (N : Int)) (i := i) (by omega) (by omega)).2] at K1
        have C2 := Lib.hid (fun W (h : LV w.heap.size w W bl (nS N ((i : Int) + 1) i i i (i + 1) (i + 2))) => show Calls Try.prog 28 #[lp bl, .int .i64 (i : Int), .int .i64 2] W fun e w' => e = .returned (.int .i64 60) ∧ LV w.heap.size w w' bl (nS N ((i : Int) + 1) i i i (i + 1) (i + 2)) from by
          have e := nest_take2 (G := (N : Int)) (i := i) (by omega)
          have := lv_take h K1 (n := (i : Int)) (g := 2) (WalkArith.wf_i64 (by omega)) (by decide)
          rw [take_keep (by rw [e]; decide), e] at this
          exact this)
        have h3 := nest_take1 (G := (N : Int)) (i := i) (by omega)
        have K2 := K1.take_ (i : Int) 1
        rw [h3.2] at K2
        have C3 := Lib.hid (fun W (h : LV w.heap.size w W bl (nS N ((i : Int) + 1) i i i (i + 1) (i + 2))) => show Calls Try.prog 28 #[lp bl, .int .i64 (i : Int), .int .i64 1] W fun e w' => e = .returned (.int .i64 0) ∧ LV w.heap.size w w' bl (nS N ((i : Int) + 1) ((i : Int) + 1) (i + 1) (i + 1) (i + 1) (i + 2)) from by
          have := lv_take h K1 (n := (i : Int)) (g := 1) (WalkArith.wf_i64 (by omega)) (by decide)
          rw [h3.1, h3.2] at this
          exact this)
        have K2 := Lib.hid K2
        clear K1 h3
        go_wp2_with (first
          | (go_at_call 26; (with_reducible refine C1.out.mono ?_); rintro e w3 ⟨rfl, V1⟩; have V1 := Lib.hid V1)
          | (go_at_call 28; (with_reducible refine (C2.out _ V1.out).mono ?_); rintro e w4 ⟨rfl, V3⟩; have V3 := Lib.hid V3)
          | (go_at_call 28; (with_reducible refine (C3.out _ V3.out).mono ?_); rintro e w5 ⟨rfl, V4⟩; have V4 := Lib.hid V4))
        go_roundw
        case measure => simp [intOf]; omega
        exact ⟨i + 1, by omega, by go_num, V4, K2⟩
      · obtain rfl : i = N := by omega
        have C1 := Lib.hid (show Calls Try.prog 35 #[lp bl] wr fun e w' => e = .returned (.int .i64 (i : Int)) ∧ LV w.heap.size w w' bl (nS i i i i i i (i + 1)) from by
          have := lv_total HV.out HK.out
          rw [nest_total] at this
          exact this)
        have C2 := Lib.hid (fun W (h : LV w.heap.size w W bl (nS i i i i i i (i + 1))) => show Calls Try.prog 27 #[lp bl, .int .i64 0] W fun e w' => e = .returned (.int .i64 1) ∧ LV w.heap.size w w' bl (nS i i i i i i (i + 1)) from by
          have e := nest_close0 (G := (i : Int)) (made := (i : Int)) (most := (i : Int)) (h := i) (p := i) (g := i) (N := i + 1) (by omega)
          have := lv_close h HK.out (n := 0) (by decide)
          rw [close_keep (by rw [e]; decide), e] at this
          exact this)
        go_wp2_with (first
          | (go_at_call 35; (with_reducible refine C1.out.mono ?_); rintro e w3 ⟨rfl, V1⟩; have V1 := Lib.hid V1)
          | (go_at_call 27; (with_reducible refine (C2.out _ V1.out).mono ?_); rintro e w4 ⟨rfl, V3⟩; have V3 := Lib.hid V3))
        have HK0 := HK
        clear HV C1 C2 V1 HK
        go_loopw [8] (fun y wq => ∃ (j : Nat), j ≤ i ∧ y = .int .i64 (j : Int) ∧ Hid (LV w.heap.size w wq bl (nS i i i j i j (j + 1))) ∧ Hid (LOk i (nS i i i j i j (j + 1)))) (fun y _ => (intOf y).toNat)
        case atStart => exact ⟨i, by omega, rfl, V3, HK0⟩
        case round =>
          clear V3 HK0
          obtain ⟨j, hj, rfl, HV, HK⟩ := hrel
          rcases j with _ | j
          · have C1 := Lib.hid (fun W (h : LV w.heap.size w W bl (nS i i i 0 i 0 (0 + 1))) => show Calls Try.prog 35 #[lp bl] W fun e w' => e = .returned (.int .i64 0) ∧ LV w.heap.size w w' bl (nS i i i 0 i 0 (0 + 1)) from by
              have := lv_total h HK.out
              rw [nest_total] at this
              exact this)
            have C2 := Lib.hid (fun W (h : LV w.heap.size w W bl (nS i i i 0 i 0 (0 + 1))) => show Calls Try.prog 33 #[lp bl, .int .i64 0] W fun e w' => e = .returned (.int .i64 (i : Int)) ∧ LV w.heap.size w w' bl (nS i i i 0 i 0 (0 + 1)) from by
              have := lv_left h HK.out (n := 0) (by decide)
              rw [nest_left0 (by omega)] at this
              exact this)
            have C3 := Lib.hid (fun W (h : LV w.heap.size w W bl (nS i i i 0 i 0 (0 + 1))) => show Calls Try.prog 36 #[lp bl] W fun e w' => e = .returned (.int .i64 (i : Int)) ∧ LV w.heap.size w w' bl (nS i i i 0 i 0 (0 + 1)) from lv_most h HK.out)
            go_wp2_with (first
              | (go_at_call 35; (with_reducible refine (C1.out _ HV.out).mono ?_); rintro e w5 ⟨rfl, V1⟩; have V1 := Lib.hid V1)
              | (go_at_call 33; (with_reducible refine (C2.out _ V1.out).mono ?_); rintro e w6 ⟨rfl, V2⟩; have V2 := Lib.hid V2)
              | (go_at_call 36; (with_reducible refine (C3.out _ V2.out).mono ?_); rintro e w7 ⟨rfl, V3⟩; have V3 := Lib.hid V3))
            go_ret
            exact ⟨by trivial, V3.out.bel⟩
          · have C1 := Lib.hid (show Calls Try.prog 27 #[lp bl, .int .i64 (j : Int)] wr fun e w' => e = .returned (.int .i64 1) ∧ LV w.heap.size w w' bl (nS i i i (j + 1) i (j + 1) (j + 2)) from by
              have e := nest_closeHeld (G := (i : Int)) (made := (i : Int)) (most := (i : Int)) (p := i) (j := j)
              have := lv_close HV.out HK.out (n := (j : Int)) (WalkArith.wf_i64 (by omega))
              rw [close_keep (by rw [e]; decide), e] at this
              exact this)
            have h2 := nest_close (G := (i : Int)) (made := (i : Int)) (most := (i : Int)) (p := i) (j := j)
            have C2 := Lib.hid (fun W (h : LV w.heap.size w W bl (nS i i i (j + 1) i (j + 1) (j + 2))) => show Calls Try.prog 27 #[lp bl, .int .i64 ((j : Int) + 1)] W fun e w' => e = .returned (.int .i64 0) ∧ LV w.heap.size w w' bl (nS i i i (j + 1) i j (j + 1)) from by
              have := lv_close h HK.out (n := (j : Int) + 1) (WalkArith.wf_i64 (by omega))
              rw [h2.1, h2.2] at this
              exact this)
            have K2 := HK.out.close_ ((j : Int) + 1)
            rw [h2.2] at K2
            have h3 := nest_give (G := (i : Int)) (made := (i : Int)) (most := (i : Int)) (p := i) (j := j)
            have C3 := Lib.hid (fun W (h : LV w.heap.size w W bl (nS i i i (j + 1) i j (j + 1))) => show Calls Try.prog 29 #[lp bl, .int .i64 (j : Int), .int .i64 1] W fun e w' => e = .returned (.int .i64 0) ∧ LV w.heap.size w w' bl (nS i i i j i j (j + 1)) from by
              have := lv_give h K2 (n := (j : Int)) (g := 1) (WalkArith.wf_i64 (by omega)) (by decide)
              rw [h3.1, h3.2] at this
              exact this)
            have K3 := K2.give_ (j : Int) 1
            rw [h3.2] at K3
            have K3 := Lib.hid K3
            clear K2 h2 h3
            go_wp2_with (first
              | (go_at_call 27; (with_reducible refine C1.out.mono ?_); rintro e w5 ⟨rfl, V1⟩; have V1 := Lib.hid V1)
              | (go_at_call 27; (with_reducible refine (C2.out _ V1.out).mono ?_); rintro e w6 ⟨rfl, V2⟩; have V2 := Lib.hid V2)
              | (go_at_call 29; (with_reducible refine (C3.out _ V2.out).mono ?_); rintro e w7 ⟨rfl, V3⟩; have V3 := Lib.hid V3))
            go_roundw
            case measure => simp [intOf]
            exact ⟨j, by omega, by go_num, V3, K3⟩
end Go.Proofs.Ytagknfjgokiidaa
