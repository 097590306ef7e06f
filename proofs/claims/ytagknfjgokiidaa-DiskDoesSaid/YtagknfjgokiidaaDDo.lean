/- DiskDoes: the walk. -/
import Derived.Test.YtagknfjgokiidaaDK
namespace Go.Proofs.Ytagknfjgokiidaa
open Go.RowKit Go.Maps
set_option linter.unusedVariables false
set_option linter.unusedSimpArgs false
set_option maxRecDepth 6000

set_option maxHeartbeats 8000000 in
theorem DiskDoes.walk {w : World} (R : Int) (wR : (Lit.int .i64 R).wf = true) (A : Option Addr) (k c : Nat) (F : List Int) (hr : RdI w A k F) (B : Option Addr) (n d : Nat) (xs : List Op4) (hl : RdO4 w B n xs) :
    Calls Try.prog 3 #[.int .i64 R, .slice A k c, .slice B n d] w fun e w' => e = .returned (.bool true) ∧ Below w.heap.size w w' := by
  have HLv := Lib.hid dlives
  have hk := hr.2.1
  have hn := hl.2.1
  by_cases h100 : 100 < k
  · have h1 : (100 : Int) < k := by omega
    clear h100 hr hl
    go_enter Try.func3, Try.ntmps3
    go_wp2_with (go_at_call 10; (with_reducible refine (HLv.out _).mono ?_); rintro e w2 ⟨rfl, b⟩)
    go_ret
    exact ⟨by trivial, b⟩
  · by_cases hR : R < 0 ∨ 16384 < R
    · have C0 := Lib.hid (dnew_no (w := w) (g := R) (A := A) (k := k) (c := c) hR)
      have C1 := Lib.hid (xnew_no (w := w) (g := R) (A := A) (k := k) (c := c) hR)
      have h1 : ¬ (100 : Int) < k := by omega
      clear h100 hr hl hR
      go_enter Try.func3, Try.ntmps3
      go_wp2_with (first
        | (go_at_call 11; (with_reducible refine C0.out.mono ?_); rintro e w1 ⟨rfl, hw⟩; obtain rfl := hw.symm; clear hw C0)
        | (go_at_call 12; (with_reducible refine C1.out.mono ?_); rintro e w1 ⟨rfl, hw⟩; obtain rfl := hw.symm; clear hw C1)
        | (go_at_call 10; (with_reducible refine (HLv.out _).mono ?_); rintro e w2 ⟨rfl, b⟩))
      go_loopw [10] (fun y wr => y = .int .i64 0 ∧ Hid (Below w.heap.size w wr)) (fun y _ => 0)
      case atStart => exact ⟨rfl, b⟩
      case round =>
        clear b
        obtain ⟨rfl, HB⟩ := hrel
        go_wp2
        all_goals
          go_ret
          exact ⟨by trivial, HB.out⟩
    · have hF : F.length ≤ 100 := by have := hr.1; omega
      have C0 := Lib.hid (show Calls Try.prog 11 #[.int .i64 R, .slice A k c] w fun e w' => ∃ bd, e = .returned (.tuple #[dp bd, .int .i64 0]) ∧ In w w' (star (DR bd R F Ds.new) emp) from
        (dnew_yes (by omega) (by omega) hr).mono fun e w' ⟨bd, h1, h2⟩ => ⟨bd, h1, (In.start' (Below.refl _ _) h2).imp fun S => star_emp⟩)
      have C1 := Lib.hid (fun bd W (h : In w W (star (DR bd R F Ds.new) emp)) => show Calls Try.prog 12 #[.int .i64 R, .slice A k c] W fun e w' => ∃ bx, e = .returned (dp bx) ∧ In w w' (star (DR bd R F Ds.new) (star (XR bx R F Ds.new) emp)) from by
        have gA := star_good (DR_good bd R F Ds.new) emp_good
        have h2 : In w W (star emp (star (DR bd R F Ds.new) emp)) := (h.imp fun S => star_emp).comm
        refine (h2.call (X := Nat) (A' := fun bx => XR bx R F Ds.new) (Q := fun bx e => e = .returned (dp bx)) gA fun S hS => ?_).mono fun e w' ⟨bx, e1, e2⟩ => ⟨bx, e1, e2.swap⟩
        have : S = fun _ => False := sets_eq fun j => ⟨fun h => hS j h, fun h => h.elim⟩
        rw [this]
        exact xnew_yes (by omega) (by omega) (by omega) (hr.below h.bel))
      have K0 := Lib.hid (DOk.new (R := R) (by omega) (by omega))
      have HL := Lib.hid hl
      have h1 : decide ((100 : Int) < k) = false := by simp; omega
      have hR0 : 0 ≤ R := by omega
      have hR1 : R ≤ 16384 := by omega
      clear h100 hr hl hR
      go_enter Try.func3, Try.ntmps3
      go_wp2_with (first
        | (go_at_call 11; (with_reducible refine C0.out.mono ?_); rintro e w1 ⟨bd, rfl, V⟩; have V0 := Lib.hid V; clear V C0)
        | (go_at_call 12; (with_reducible refine (C1.out _ _ V0.out).mono ?_); rintro e w1 ⟨bx, rfl, V⟩; have V1 := Lib.hid V; clear V C1 V0)
        | (go_at_call 10; (with_reducible refine (HLv.out _).mono ?_); rintro e w2 ⟨rfl, b⟩; have V2 := Lib.hid (V1.out.below (star_good (DR_good _ _ _ _) (star_good (XR_good _ _ _ _) emp_good)) b); clear b V1))
      go_loopw [10] (fun y wr => ∃ (i : Nat) (s : Ds), i ≤ n ∧ i ≤ 80 ∧ y = .int .i64 (i : Int) ∧ Hid (In w wr (star (DR bd R F s) (star (XR bx R F s) emp))) ∧ Hid (DOk R s) ∧ s.made ≤ i ∧ s.deeds ≤ i) (fun y _ => n - (intOf y).toNat)
      case atStart => exact ⟨0, _, by omega, by omega, rfl, V2, K0, by simp [Ds.new], by simp [Ds.new]⟩
      case round =>
        clear V2 K0
        obtain ⟨i, s, hi, hi2, rfl, HV, HK, hmd, hdd⟩ := hrel
        by_cases hlt : i < n
        · by_cases h80 : i < 80
          · obtain ⟨ad, x, hxi, rfl, had, _, hc0, hc1, hc2, hc3⟩ := (HL.out.below HV.out.bel).at_ hlt
            have hx := HL.out.2.2.1 x (List.mem_of_getElem? hxi)
            have gE : Good (star (DR bd R F s) (star (XR bx R F s) emp)) := star_good (DR_good _ _ _ _) (star_good (XR_good _ _ _ _) emp_good)
            have hxn := hx.n
            by_cases hbig : 1000 < x.n
            · have hb1 : (1000 : Int) < x.n := by omega
              obtain ⟨xk, xf, xi, xA, xn, xc, xp⟩ := x
              dsimp only at hc0 hc1 hc2 hc3 hb1
              replace hc3 : wr.cell? ⟨(ad.add (i * 4)).block, (ad.add (i * 4)).off + 3, none⟩ = some (.slice xA xn xc) := hc3
              clear hc0 hc1 hc2 hx hxi hxn hbig gE
              go_wp2
              go_roundw
              case measure => simp [intOf]; omega
              case rel => exact ⟨i + 1, s, by omega, by omega, by go_num, HV, HK, by omega, by omega⟩
            · have hb1 : decide ((1000 : Int) < x.n) = false := by simp; omega
              have CD := Lib.hid (do_walk emp_good HV.out HK.out (by omega) (by omega) hF hx)
              have hK2 := HK.out.doD (F := F) hx.b
              have hmd2 := doD_made R F s x
              obtain ⟨s', hs'⟩ : ∃ s', s' = doD R F s x := ⟨_, rfl⟩
              rw [← hs'] at CD hK2 hmd2
              have CA := Lib.hid (fun W (h : In w W (star (DR bd R F s') (star (XR bx R F s') emp))) => alike_walk emp_good h hK2 (by omega) hx.f)
              have HK2 := Lib.hid hK2
              have HB := Lib.hid (fun W (b : Below wr.heap.size wr W) => (show W.cell? ((ad.add (i * 4)).add 1) = some (.int .i64 x.f) from (b.cell (by rw [add_blk, add_blk]; exact had)).trans hc1))
              have HX := Lib.hid (fun W (h : In w W (star (DR bd R F s') (star (XR bx R F s') emp))) => (show W.cell? ((ad.add (i * 4)).add 1) = some (.int .i64 x.f) from by
                obtain ⟨ad', y, hy, e, _, _, _, g1, _⟩ := (HL.out.below h.bel).at_ hlt
                injection e with e
                subst e
                rw [hxi] at hy
                injection hy with hy
                subst hy
                exact g1))
              unfold Op4.val at CD
              obtain ⟨xk, xf, xi, xA, xn, xc, xp⟩ := x
              dsimp only at hc0 hc1 hc2 hc3 hb1 CD CA HX
              replace hc1 : wr.cell? ⟨(ad.add (i * 4)).block, (ad.add (i * 4)).off + 1, none⟩ = some (.int .i64 xf) := hc1
              replace hc2 : wr.cell? ⟨(ad.add (i * 4)).block, (ad.add (i * 4)).off + 2, none⟩ = some (.int .i64 xi) := hc2
              replace hc3 : wr.cell? ⟨(ad.add (i * 4)).block, (ad.add (i * 4)).off + 3, none⟩ = some (.slice xA xn xc) := hc3
              clear hx hxi hxn hbig gE hs' hK2 HV HK HB
              go_wp2_with (first
                | (go_at_call 13; (with_reducible refine CD.out.mono ?_); rintro e w3 ⟨rfl, V⟩; have V3 := Lib.hid V; clear V CD; have z1 : w3.cell? ⟨(ad.add (i * 4)).block, (ad.add (i * 4)).off + 1, none⟩ = some (.int .i64 xf) := HX.out _ V3.out)
                | (go_at_call 14; (with_reducible refine (CA.out _ V3.out).mono ?_); rintro e w4 ⟨rfl, V⟩; have V4 := Lib.hid V; clear V CA))
              go_roundw
              case measure => simp [intOf]; omega
              case rel => exact ⟨i + 1, s', by omega, by omega, by go_num, V4, HK2, by omega, by omega⟩
          · have VB := Lib.hid HV.out.bel
            clear HV HK
            go_wp2
            go_ret
            exact ⟨by trivial, VB.out⟩
        · obtain rfl : i = n := by omega
          have VB := Lib.hid HV.out.bel
          clear HV HK
          go_wp2
          go_ret
          exact ⟨by trivial, VB.out⟩
end Go.Proofs.Ytagknfjgokiidaa
