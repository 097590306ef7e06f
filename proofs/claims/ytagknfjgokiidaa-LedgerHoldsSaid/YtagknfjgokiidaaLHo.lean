/- LedgerHolds: the walk. -/
import Derived.Test.YtagknfjgokiidaaLH
namespace Go.Proofs.Ytagknfjgokiidaa
open Go.RowKit Go.Maps Go.Deep
set_option linter.unusedVariables false
set_option linter.unusedSimpArgs false

theorem RdO.below {w w' : World} {A : Option Addr} {n : Nat} {xs : List Op3} (h : RdO w A n xs) (hb : Below w.heap.size w w') : RdO w' A n xs := by
  refine ⟨h.1, h.2.1, h.2.2.1, fun hn => ?_⟩
  obtain ⟨ad, e, hlt, hc⟩ := h.2.2.2 hn
  refine ⟨ad, e, Nat.lt_of_lt_of_le hlt hb.size, fun i x hx => ?_⟩
  obtain ⟨h0, h1, h2⟩ := hc i x hx
  exact ⟨(hb.cell (by rw [addr_block]; exact hlt)).trans h0, (hb.cell (by rw [addr_block, addr_block]; exact hlt)).trans h1, (hb.cell (by rw [addr_block, addr_block]; exact hlt)).trans h2⟩
theorem RdO.at_ {w : World} {A : Option Addr} {n : Nat} {xs : List Op3} (h : RdO w A n xs) {k : Nat} (hk : k < n) : ∃ (ad : Addr) (x : Op3), A = some ad ∧ ad.block < w.heap.size ∧ x.wf ∧ w.cell? (ad.add (k * 3)) = some (.int .i64 x.k) ∧ w.cell? ((ad.add (k * 3)).add 1) = some (.int .i64 x.n) ∧ w.cell? ((ad.add (k * 3)).add 2) = some (.int .i64 x.p) := by
  obtain ⟨ad, e, hlt, hc⟩ := h.2.2.2 (by omega)
  have hl : k < xs.length := by have := h.1; omega
  have := hc k _ (List.getElem?_eq_getElem hl)
  exact ⟨ad, _, e, hlt, h.2.2.1 _ (List.getElem_mem hl), this⟩
/-- A slice of one-cell elements that is read. -/
def Rd1 (w : World) (A : Option Addr) (n : Nat) (xs : List Value) : Prop :=
  xs.length = n ∧ n ≤ 9223372036854775807 ∧ (0 < n → ∃ ad, A = some ad ∧ ad.block < w.heap.size ∧ ∀ j u, xs[j]? = some u → w.cell? (ad.add j) = some u)
theorem Rd1.of_own {w : World} {base : Nat} {e : TypeId} {A : Option Addr} {n m c : Nat} {xs : List Value} (h : w.ownsRow base e 1 (.slice A m c) n xs) : m = n ∧ Rd1 w A n xs := by
  have hl : xs.length = n := by simpa using h.1
  rcases h.2 with ⟨e, rfl⟩ | ⟨g, cap, cur, e, hb, hg, hnc, hm, _⟩
  · injection e with e1 e2
    exact ⟨e2, hl, by omega, fun h => absurd h (by omega)⟩
  · injection e with e1 e2
    subst e1
    refine ⟨e2, hl, by simp only [maxLen] at hm; omega, fun hn => ⟨_, rfl, lt_of_heap hg, h.cells (g := g) rfl⟩⟩
theorem Rd1.get {w w' : World} {A : Option Addr} {n k : Nat} {xs : List Value} {u : Value} (h : Rd1 w A n xs) (hb : Below w.heap.size w w') (hk : xs[k]? = some u) : ∃ ad, A = some ad ∧ w'.cell? (ad.add k) = some u := by
  obtain ⟨hl, _⟩ := List.getElem?_eq_some_iff.1 hk
  obtain ⟨ad, e, hlt, hc⟩ := h.2.2 (by have := h.1; omega)
  exact ⟨ad, e, (hb.cell (by rw [addr_block]; exact hlt)).trans (hc k u hk)⟩
/-- What a call of the kind x.k does. -/
def doS (s : Ls) (x : Op3) : Ls :=
  if x.k = 1 then s.open_ x.n x.p else if x.k = 2 then s.close_ x.n else if x.k = 3 then s.take_ x.n x.p else if x.k = 4 then s.give_ x.n x.p else s
theorem LOk.doS {G : Int} {s : Ls} (h : LOk G s) (x : Op3) : LOk G (doS s x) := by
  unfold Go.Proofs.Ytagknfjgokiidaa.doS
  split
  · exact h.open_ _ _
  · split
    · exact h.close_ _
    · split
      · exact h.take_ _ _
      · split
        · exact h.give_ _ _
        · exact h
theorem doS_made (s : Ls) (x : Op3) : (doS s x).made ≤ s.made + 1 := by
  unfold doS
  split
  · unfold Ls.open_
    split
    · dsimp only; omega
    · omega
  · split
    · unfold Ls.close_
      split
      · split <;> first | omega | (dsimp only; omega)
      · omega
    · split
      · unfold Ls.take_
        split <;> first | omega | (dsimp only; omega)
      · split
        · unfold Ls.give_
          split <;> first | omega | (dsimp only; omega)
        · omega
def psum (s : Ls) (k : Nat) : Int := sumL (s.l.take k) (·.held)
theorem psum_step {s : Ls} {k : Nat} {a : Acc} (h : s.l[k]? = some a) : psum s (k + 1) = psum s k + a.held := by
  unfold psum
  rw [List.take_add_one, h, sumL_app]
  simp [sumL]
theorem psum_end (s : Ls) : psum s s.l.length = s.total := by
  unfold psum
  rw [List.take_length]
  rfl
theorem psum_le {G : Int} {s : Ls} (h : LOk G s) (k : Nat) : 0 ≤ psum s k ∧ psum s k ≤ 16384 := by
  have h1 : 0 ≤ psum s k := sumL_nonneg fun x hx => (h.acc x (List.mem_of_mem_take hx)).1
  have h2 : psum s k + sumL (s.l.drop k) (·.held) = s.total := by
    unfold psum Ls.total
    rw [← sumL_app, List.take_append_drop]
  have h3 : 0 ≤ sumL (s.l.drop k) (·.held) := sumL_nonneg fun x hx => (h.acc x (List.mem_of_mem_drop hx)).1
  have := h.total_le
  have := h.grantG
  omega
set_option maxRecDepth 6000 in
set_option maxHeartbeats 8000000 in
theorem LedgerHolds.walk {w : World} (G : Int) (wG : (Lit.int .i64 G).wf = true) (A : Option Addr) (n c : Nat) (xs : List Op3) (hl : RdO w A n xs) : Calls Try.prog 7 #[.int .i64 G, .slice A n c] w fun e w' => e = .returned (.bool true) ∧ Below w.heap.size w w' := by
  have HLv := Lib.hid lives_walk
  have hn := hl.2.1
  by_cases hG : G < 0 ∨ 16384 < G
  · have CN := Lib.hid (new_no (w := w) hG)
    clear hl
    go_enter Try.func7, Try.ntmps7
    go_wp2_with (first
      | (go_at_call 24; (with_reducible refine CN.out.mono ?_); rintro e w1 ⟨rfl, hw⟩; obtain rfl := hw.symm; clear hw)
      | (go_at_call 25; (with_reducible refine (HLv.out _).mono ?_); rintro e w3 ⟨rfl, b3⟩; first | (have b2 := b1.trans (b3.mono b1.size)) | (have b1 := b3)))
    go_ret
    exact ⟨by trivial, b2⟩
  · have CN := Lib.hid (lv_new (w := w) (g := G) (by omega) (by omega))
    have K0 := Lib.hid (LOk.new (G := G) (by omega) (by omega))
    have HL := Lib.hid hl
    have hG0 : 0 ≤ G := by omega
    have hG1 : G ≤ 16384 := by omega
    clear hl hG
    go_enter Try.func7, Try.ntmps7
    go_wp2_with (first
      | (go_at_call 24; (with_reducible refine CN.out.mono ?_); rintro e w1 ⟨bl, rfl, V0⟩; have V0 := Lib.hid V0)
      | (go_at_call 25; (with_reducible refine (HLv.out _).mono ?_); rintro e w2 ⟨rfl, b2⟩; have V2 := Lib.hid (V0.out.below (B := 0) b2); clear b2))
    go_loopw [7] (fun y wr => ∃ (i : Nat) (s : Ls), i ≤ n ∧ i ≤ 100 ∧ y = .int .i64 (i : Int) ∧ Hid (LV w.heap.size w wr bl s) ∧ Hid (LOk G s) ∧ s.made ≤ i) (fun y _ => n - (intOf y).toNat)
    case atStart => exact ⟨0, _, by omega, by omega, rfl, V2, K0, by simp [Ls.new]⟩
    case round =>
      clear V2 V0
      obtain ⟨i, s, hi, hi2, rfl, HV, HK, hmd⟩ := hrel
      by_cases hlt : i < n
      · by_cases h100 : i < 100
        · obtain ⟨ad, x, rfl, had, hxw, hc0, hc1, hc2⟩ := (HL.out.below HV.out.bel).at_ hlt
          have hz := HV.out.le
          obtain ⟨xk, xn, xp⟩ := x
          obtain ⟨hw0, hw1, hw2⟩ := hxw
          dsimp only at hc0 hc1 hc2 hw0 hw1 hw2
          replace hc1 : wr.cell? ⟨(ad.add (i * 3)).block, (ad.add (i * 3)).off + 1, none⟩ = some (.int .i64 xn) := hc1
          replace hc2 : wr.cell? ⟨(ad.add (i * 3)).block, (ad.add (i * 3)).off + 2, none⟩ = some (.int .i64 xp) := hc2
          obtain ⟨s', hs'⟩ : ∃ s', s' = doS s ⟨xk, xn, xp⟩ := ⟨_, rfl⟩
          have HK' := HK.out.doS ⟨xk, xn, xp⟩
          have hmd' := doS_made s ⟨xk, xn, xp⟩
          rw [← hs'] at HK' hmd'
          have HK' := Lib.hid HK'
          unfold doS at hs'
          dsimp only at hs'
          have VX : Hid (LV w.heap.size w (wr.alloc (.cells #[.int .i64 xk, .int .i64 xn, .int .i64 xp] 58)) bl s) := HV.out.below (B := 0) ((Below.refl _ _).alloc (Nat.le_refl _) _)
          rcases (show xk = 1 ∨ xk = 2 ∨ xk = 3 ∨ xk = 4 ∨ (xk ≠ 1 ∧ xk ≠ 2 ∧ xk ≠ 3 ∧ xk ≠ 4) by omega) with q | q | q | q | ⟨q1, q2, q3, q4⟩
          · subst q
            rw [if_pos rfl] at hs'
            have C := Lib.hid (show Calls Try.prog 26 #[lp bl, .int .i64 xn, .int .i64 xp] (wr.alloc (.cells #[.int .i64 1, .int .i64 xn, .int .i64 xp] 58)) fun e w' => (∃ a b : Int, e = .returned (.tuple #[.int .i64 a, .int .i64 b])) ∧ LV w.heap.size w w' bl s' from by
              refine (lv_open VX.out HK.out (by omega) hw1 hw2).mono ?_
              rintro e w' ⟨rfl, h⟩
              exact ⟨⟨_, _, rfl⟩, by rw [hs']; exact h⟩)
            clear hs' VX
            go_upto_region 17 with (go_at_call 26; (with_reducible refine C.out.mono ?_); rintro e w4 ⟨⟨a9, b9, rfl⟩, V4⟩; have V4 := Lib.hid V4; clear C)
            clear hc0 hc1 hc2 hw0 hw1 hw2 HV HK
            have CA := Lib.hid (lv_accounts V4.out HK'.out)
            go_upto_region 20 with (go_at_call 30; (with_reducible refine CA.out.mono ?_); rintro e w5 ⟨A9, c9, rfl, ho5, _, V5⟩; have V5 := Lib.hid V5; have HO5 := Lib.hid (Rd1.of_own ho5).2; clear ho5 CA V4)
            go_loopw [10, 11] (fun sm y wq => ∃ (k : Nat), k ≤ s'.l.length ∧ y = .int .i64 (k : Int) ∧ sm = .int .i64 (psum s' k) ∧ Hid (LV w.heap.size w wq bl s') ∧ Hid (Below w5.heap.size w5 wq)) (fun _ y _ => s'.l.length - (intOf y).toNat)
            case atStart => exact ⟨0, by omega, rfl, rfl, V5, Below.refl _ _⟩
            case round =>
              clear V5
              obtain ⟨k, hk, rfl, rfl, V6, B6⟩ := hrel
              have hps := psum_le HK'.out k
              have hle := HK'.out.len
              by_cases hkl : k < s'.l.length
              · obtain ⟨a, ha⟩ : ∃ a, s'.l[k]? = some a := ⟨_, List.getElem?_eq_getElem hkl⟩
                have ham := List.mem_of_getElem? ha
                have hfa := find_get HK'.out.ord ha
                have hacc := HK'.out.acc a ham
                have hnum := HK'.out.num a ham
                obtain ⟨adA, rfl, hcell⟩ := HO5.out.get B6.out (k := k) (u := .int .i64 a.n) (by rw [List.getElem?_map, ha]; rfl)
                obtain ⟨bm, B, hLs, _⟩ := V6.out.ex
                have wna : (Lit.int .i64 a.n).wf = true := WalkArith.wf_i64 (by omega)
                have QH := Lib.hid (fun m => q_held (hLs.drewN m) HK'.out wna hfa)
                have QH0 := Lib.hid (q_held hLs HK'.out wna hfa)
                have QG := Lib.hid (fun m => q_grant (hLs.drewN m) HK'.out wna hfa)
                have QP := Lib.hid (fun m => q_peak (hLs.drewN m) HK'.out wna hfa)
                have QL := Lib.hid (fun m => q_left (hLs.drewN m) HK'.out wna hfa)
                have hps2 := psum_le HK'.out (k + 1)
                have hst := psum_step ha
                rw [hst] at hps2
                have HST := Lib.hid hst
                have d1 : decide (a.held < 0) = false := by simp; omega
                have hleft : 0 ≤ a.left := by unfold Acc.left; omega
                have d2 : decide (a.grant < a.held) = false := by have := HK'.out.gr0 ham; simp; omega
                have d3 : decide (a.left < 0) = false := by simp; omega
                have d4 : decide (a.grant < a.peak) = false := by simp; omega
                have hps3 : 0 ≤ psum s' k + a.held ∧ psum s' k + a.held ≤ 16384 := hps2
                clear ha ham hfa hLs hst hps2 hnum
                go_wp2_with (go_at_call 31; (with_reducible refine QH0.out.mono ?_); rintro e w6 ⟨rfl, hw⟩; obtain rfl := hw.symm; clear hw)
                go_quiet (first
                  | (go_at_call 31; exact Calls.quiet_of_same (QH.out _))
                  | (go_at_call 32; exact Calls.quiet_of_same (QG.out _))
                  | (go_at_call 34; exact Calls.quiet_of_same (QP.out _))
                  | (go_at_call 33; exact Calls.quiet_of (QL.out _)))
                go_wp2
                go_roundw
                case measure => simp [intOf]; omega
                have bn : Below wr.heap.size wr (wr.drewN nq) := ⟨rfl, rfl, rfl, Nat.le_refl _, fun _ _ => rfl⟩
                exact ⟨k + 1, by omega, by go_num, by rw [HST.out], V6.out.below (B := 0) bn, B6.out.trans (bn.mono B6.out.size)⟩
              · obtain rfl : k = s'.l.length := by omega
                have hpe := psum_end s'
                have htl := HK'.out.total_le
                have hmo := HK'.out.most
                rw [← hpe] at htl hmo
                have CT := Lib.hid (lv_total V6.out HK'.out)
                have CM := Lib.hid (fun W (h : LV w.heap.size w W bl s') => lv_most h HK'.out)
                rw [← hpe] at CT
                obtain ⟨P, hP⟩ : ∃ P, P = psum s' s'.l.length := ⟨_, rfl⟩
                rw [← hP] at hps htl hmo CT ⊢
                clear hpe hP
                go_wp2_with (first
                  | (go_at_call 35; (with_reducible refine CT.out.mono ?_); rintro e w7 ⟨rfl, V7⟩; have V7 := Lib.hid V7)
                  | (go_at_call 36; (with_reducible refine (CM.out _ V8.out).mono ?_); rintro e w9 ⟨rfl, V9⟩; have V9 := Lib.hid V9)
                  | (go_at_call 36; (with_reducible refine (CM.out _ V7.out).mono ?_); rintro e w8 ⟨rfl, V8⟩; have V8 := Lib.hid V8))
                go_roundw
                case measure => simp [intOf]; omega
                exact ⟨i + 1, s', by omega, by omega, by go_num, V9, HK', by omega⟩
          · subst q
            rw [if_neg (by decide), if_pos rfl] at hs'
            have C := Lib.hid (show Calls Try.prog 27 #[lp bl, .int .i64 xn] (wr.alloc (.cells #[.int .i64 2, .int .i64 xn, .int .i64 xp] 58)) fun e w' => (∃ b : Int, e = .returned (.int .i64 b)) ∧ LV w.heap.size w w' bl s' from by
              refine (lv_close VX.out HK.out hw1).mono ?_
              rintro e w' ⟨rfl, h⟩
              exact ⟨⟨_, rfl⟩, by rw [hs']; exact h⟩)
            clear hs' VX
            go_upto_region 17 with (go_at_call 27; (with_reducible refine C.out.mono ?_); rintro e w4 ⟨⟨b9, rfl⟩, V4⟩; have V4 := Lib.hid V4; clear C)
            clear hc0 hc1 hc2 hw0 hw1 hw2 HV HK
            have CA := Lib.hid (lv_accounts V4.out HK'.out)
            go_upto_region 20 with (go_at_call 30; (with_reducible refine CA.out.mono ?_); rintro e w5 ⟨A9, c9, rfl, ho5, _, V5⟩; have V5 := Lib.hid V5; have HO5 := Lib.hid (Rd1.of_own ho5).2; clear ho5 CA V4)
            go_loopw [10, 11] (fun sm y wq => ∃ (k : Nat), k ≤ s'.l.length ∧ y = .int .i64 (k : Int) ∧ sm = .int .i64 (psum s' k) ∧ Hid (LV w.heap.size w wq bl s') ∧ Hid (Below w5.heap.size w5 wq)) (fun _ y _ => s'.l.length - (intOf y).toNat)
            case atStart => exact ⟨0, by omega, rfl, rfl, V5, Below.refl _ _⟩
            case round =>
              clear V5
              obtain ⟨k, hk, rfl, rfl, V6, B6⟩ := hrel
              have hps := psum_le HK'.out k
              have hle := HK'.out.len
              by_cases hkl : k < s'.l.length
              · obtain ⟨a, ha⟩ : ∃ a, s'.l[k]? = some a := ⟨_, List.getElem?_eq_getElem hkl⟩
                have ham := List.mem_of_getElem? ha
                have hfa := find_get HK'.out.ord ha
                have hacc := HK'.out.acc a ham
                have hnum := HK'.out.num a ham
                obtain ⟨adA, rfl, hcell⟩ := HO5.out.get B6.out (k := k) (u := .int .i64 a.n) (by rw [List.getElem?_map, ha]; rfl)
                obtain ⟨bm, B, hLs, _⟩ := V6.out.ex
                have wna : (Lit.int .i64 a.n).wf = true := WalkArith.wf_i64 (by omega)
                have QH := Lib.hid (fun m => q_held (hLs.drewN m) HK'.out wna hfa)
                have QH0 := Lib.hid (q_held hLs HK'.out wna hfa)
                have QG := Lib.hid (fun m => q_grant (hLs.drewN m) HK'.out wna hfa)
                have QP := Lib.hid (fun m => q_peak (hLs.drewN m) HK'.out wna hfa)
                have QL := Lib.hid (fun m => q_left (hLs.drewN m) HK'.out wna hfa)
                have hps2 := psum_le HK'.out (k + 1)
                have hst := psum_step ha
                rw [hst] at hps2
                have HST := Lib.hid hst
                have d1 : decide (a.held < 0) = false := by simp; omega
                have hleft : 0 ≤ a.left := by unfold Acc.left; omega
                have d2 : decide (a.grant < a.held) = false := by have := HK'.out.gr0 ham; simp; omega
                have d3 : decide (a.left < 0) = false := by simp; omega
                have d4 : decide (a.grant < a.peak) = false := by simp; omega
                have hps3 : 0 ≤ psum s' k + a.held ∧ psum s' k + a.held ≤ 16384 := hps2
                clear ha ham hfa hLs hst hps2 hnum
                go_wp2_with (go_at_call 31; (with_reducible refine QH0.out.mono ?_); rintro e w6 ⟨rfl, hw⟩; obtain rfl := hw.symm; clear hw)
                go_quiet (first
                  | (go_at_call 31; exact Calls.quiet_of_same (QH.out _))
                  | (go_at_call 32; exact Calls.quiet_of_same (QG.out _))
                  | (go_at_call 34; exact Calls.quiet_of_same (QP.out _))
                  | (go_at_call 33; exact Calls.quiet_of (QL.out _)))
                go_wp2
                go_roundw
                case measure => simp [intOf]; omega
                have bn : Below wr.heap.size wr (wr.drewN nq) := ⟨rfl, rfl, rfl, Nat.le_refl _, fun _ _ => rfl⟩
                exact ⟨k + 1, by omega, by go_num, by rw [HST.out], V6.out.below (B := 0) bn, B6.out.trans (bn.mono B6.out.size)⟩
              · obtain rfl : k = s'.l.length := by omega
                have hpe := psum_end s'
                have htl := HK'.out.total_le
                have hmo := HK'.out.most
                rw [← hpe] at htl hmo
                have CT := Lib.hid (lv_total V6.out HK'.out)
                have CM := Lib.hid (fun W (h : LV w.heap.size w W bl s') => lv_most h HK'.out)
                rw [← hpe] at CT
                obtain ⟨P, hP⟩ : ∃ P, P = psum s' s'.l.length := ⟨_, rfl⟩
                rw [← hP] at hps htl hmo CT ⊢
                clear hpe hP
                go_wp2_with (first
                  | (go_at_call 35; (with_reducible refine CT.out.mono ?_); rintro e w7 ⟨rfl, V7⟩; have V7 := Lib.hid V7)
                  | (go_at_call 36; (with_reducible refine (CM.out _ V8.out).mono ?_); rintro e w9 ⟨rfl, V9⟩; have V9 := Lib.hid V9)
                  | (go_at_call 36; (with_reducible refine (CM.out _ V7.out).mono ?_); rintro e w8 ⟨rfl, V8⟩; have V8 := Lib.hid V8))
                go_roundw
                case measure => simp [intOf]; omega
                exact ⟨i + 1, s', by omega, by omega, by go_num, V9, HK', by omega⟩
          · subst q
            rw [if_neg (by decide), if_neg (by decide), if_pos rfl] at hs'
            have C := Lib.hid (show Calls Try.prog 28 #[lp bl, .int .i64 xn, .int .i64 xp] (wr.alloc (.cells #[.int .i64 3, .int .i64 xn, .int .i64 xp] 58)) fun e w' => (∃ b : Int, e = .returned (.int .i64 b)) ∧ LV w.heap.size w w' bl s' from by
              refine (lv_take VX.out HK.out hw1 hw2).mono ?_
              rintro e w' ⟨rfl, h⟩
              exact ⟨⟨_, rfl⟩, by rw [hs']; exact h⟩)
            clear hs' VX
            go_upto_region 17 with (go_at_call 28; (with_reducible refine C.out.mono ?_); rintro e w4 ⟨⟨b9, rfl⟩, V4⟩; have V4 := Lib.hid V4; clear C)
            clear hc0 hc1 hc2 hw0 hw1 hw2 HV HK
            have CA := Lib.hid (lv_accounts V4.out HK'.out)
            go_upto_region 20 with (go_at_call 30; (with_reducible refine CA.out.mono ?_); rintro e w5 ⟨A9, c9, rfl, ho5, _, V5⟩; have V5 := Lib.hid V5; have HO5 := Lib.hid (Rd1.of_own ho5).2; clear ho5 CA V4)
            go_loopw [10, 11] (fun sm y wq => ∃ (k : Nat), k ≤ s'.l.length ∧ y = .int .i64 (k : Int) ∧ sm = .int .i64 (psum s' k) ∧ Hid (LV w.heap.size w wq bl s') ∧ Hid (Below w5.heap.size w5 wq)) (fun _ y _ => s'.l.length - (intOf y).toNat)
            case atStart => exact ⟨0, by omega, rfl, rfl, V5, Below.refl _ _⟩
            case round =>
              clear V5
              obtain ⟨k, hk, rfl, rfl, V6, B6⟩ := hrel
              have hps := psum_le HK'.out k
              have hle := HK'.out.len
              by_cases hkl : k < s'.l.length
              · obtain ⟨a, ha⟩ : ∃ a, s'.l[k]? = some a := ⟨_, List.getElem?_eq_getElem hkl⟩
                have ham := List.mem_of_getElem? ha
                have hfa := find_get HK'.out.ord ha
                have hacc := HK'.out.acc a ham
                have hnum := HK'.out.num a ham
                obtain ⟨adA, rfl, hcell⟩ := HO5.out.get B6.out (k := k) (u := .int .i64 a.n) (by rw [List.getElem?_map, ha]; rfl)
                obtain ⟨bm, B, hLs, _⟩ := V6.out.ex
                have wna : (Lit.int .i64 a.n).wf = true := WalkArith.wf_i64 (by omega)
                have QH := Lib.hid (fun m => q_held (hLs.drewN m) HK'.out wna hfa)
                have QH0 := Lib.hid (q_held hLs HK'.out wna hfa)
                have QG := Lib.hid (fun m => q_grant (hLs.drewN m) HK'.out wna hfa)
                have QP := Lib.hid (fun m => q_peak (hLs.drewN m) HK'.out wna hfa)
                have QL := Lib.hid (fun m => q_left (hLs.drewN m) HK'.out wna hfa)
                have hps2 := psum_le HK'.out (k + 1)
                have hst := psum_step ha
                rw [hst] at hps2
                have HST := Lib.hid hst
                have d1 : decide (a.held < 0) = false := by simp; omega
                have hleft : 0 ≤ a.left := by unfold Acc.left; omega
                have d2 : decide (a.grant < a.held) = false := by have := HK'.out.gr0 ham; simp; omega
                have d3 : decide (a.left < 0) = false := by simp; omega
                have d4 : decide (a.grant < a.peak) = false := by simp; omega
                have hps3 : 0 ≤ psum s' k + a.held ∧ psum s' k + a.held ≤ 16384 := hps2
                clear ha ham hfa hLs hst hps2 hnum
                go_wp2_with (go_at_call 31; (with_reducible refine QH0.out.mono ?_); rintro e w6 ⟨rfl, hw⟩; obtain rfl := hw.symm; clear hw)
                go_quiet (first
                  | (go_at_call 31; exact Calls.quiet_of_same (QH.out _))
                  | (go_at_call 32; exact Calls.quiet_of_same (QG.out _))
                  | (go_at_call 34; exact Calls.quiet_of_same (QP.out _))
                  | (go_at_call 33; exact Calls.quiet_of (QL.out _)))
                go_wp2
                go_roundw
                case measure => simp [intOf]; omega
                have bn : Below wr.heap.size wr (wr.drewN nq) := ⟨rfl, rfl, rfl, Nat.le_refl _, fun _ _ => rfl⟩
                exact ⟨k + 1, by omega, by go_num, by rw [HST.out], V6.out.below (B := 0) bn, B6.out.trans (bn.mono B6.out.size)⟩
              · obtain rfl : k = s'.l.length := by omega
                have hpe := psum_end s'
                have htl := HK'.out.total_le
                have hmo := HK'.out.most
                rw [← hpe] at htl hmo
                have CT := Lib.hid (lv_total V6.out HK'.out)
                have CM := Lib.hid (fun W (h : LV w.heap.size w W bl s') => lv_most h HK'.out)
                rw [← hpe] at CT
                obtain ⟨P, hP⟩ : ∃ P, P = psum s' s'.l.length := ⟨_, rfl⟩
                rw [← hP] at hps htl hmo CT ⊢
                clear hpe hP
                go_wp2_with (first
                  | (go_at_call 35; (with_reducible refine CT.out.mono ?_); rintro e w7 ⟨rfl, V7⟩; have V7 := Lib.hid V7)
                  | (go_at_call 36; (with_reducible refine (CM.out _ V8.out).mono ?_); rintro e w9 ⟨rfl, V9⟩; have V9 := Lib.hid V9)
                  | (go_at_call 36; (with_reducible refine (CM.out _ V7.out).mono ?_); rintro e w8 ⟨rfl, V8⟩; have V8 := Lib.hid V8))
                go_roundw
                case measure => simp [intOf]; omega
                exact ⟨i + 1, s', by omega, by omega, by go_num, V9, HK', by omega⟩
          · subst q
            rw [if_neg (by decide), if_neg (by decide), if_neg (by decide), if_pos rfl] at hs'
            have C := Lib.hid (show Calls Try.prog 29 #[lp bl, .int .i64 xn, .int .i64 xp] (wr.alloc (.cells #[.int .i64 4, .int .i64 xn, .int .i64 xp] 58)) fun e w' => (∃ b : Int, e = .returned (.int .i64 b)) ∧ LV w.heap.size w w' bl s' from by
              refine (lv_give VX.out HK.out hw1 hw2).mono ?_
              rintro e w' ⟨rfl, h⟩
              exact ⟨⟨_, rfl⟩, by rw [hs']; exact h⟩)
            clear hs' VX
            go_upto_region 17 with (go_at_call 29; (with_reducible refine C.out.mono ?_); rintro e w4 ⟨⟨b9, rfl⟩, V4⟩; have V4 := Lib.hid V4; clear C)
            clear hc0 hc1 hc2 hw0 hw1 hw2 HV HK
            have CA := Lib.hid (lv_accounts V4.out HK'.out)
            go_upto_region 20 with (go_at_call 30; (with_reducible refine CA.out.mono ?_); rintro e w5 ⟨A9, c9, rfl, ho5, _, V5⟩; have V5 := Lib.hid V5; have HO5 := Lib.hid (Rd1.of_own ho5).2; clear ho5 CA V4)
            go_loopw [10, 11] (fun sm y wq => ∃ (k : Nat), k ≤ s'.l.length ∧ y = .int .i64 (k : Int) ∧ sm = .int .i64 (psum s' k) ∧ Hid (LV w.heap.size w wq bl s') ∧ Hid (Below w5.heap.size w5 wq)) (fun _ y _ => s'.l.length - (intOf y).toNat)
            case atStart => exact ⟨0, by omega, rfl, rfl, V5, Below.refl _ _⟩
            case round =>
              clear V5
              obtain ⟨k, hk, rfl, rfl, V6, B6⟩ := hrel
              have hps := psum_le HK'.out k
              have hle := HK'.out.len
              by_cases hkl : k < s'.l.length
              · obtain ⟨a, ha⟩ : ∃ a, s'.l[k]? = some a := ⟨_, List.getElem?_eq_getElem hkl⟩
                have ham := List.mem_of_getElem? ha
                have hfa := find_get HK'.out.ord ha
                have hacc := HK'.out.acc a ham
                have hnum := HK'.out.num a ham
                obtain ⟨adA, rfl, hcell⟩ := HO5.out.get B6.out (k := k) (u := .int .i64 a.n) (by rw [List.getElem?_map, ha]; rfl)
                obtain ⟨bm, B, hLs, _⟩ := V6.out.ex
                have wna : (Lit.int .i64 a.n).wf = true := WalkArith.wf_i64 (by omega)
                have QH := Lib.hid (fun m => q_held (hLs.drewN m) HK'.out wna hfa)
                have QH0 := Lib.hid (q_held hLs HK'.out wna hfa)
                have QG := Lib.hid (fun m => q_grant (hLs.drewN m) HK'.out wna hfa)
                have QP := Lib.hid (fun m => q_peak (hLs.drewN m) HK'.out wna hfa)
                have QL := Lib.hid (fun m => q_left (hLs.drewN m) HK'.out wna hfa)
                have hps2 := psum_le HK'.out (k + 1)
                have hst := psum_step ha
                rw [hst] at hps2
                have HST := Lib.hid hst
                have d1 : decide (a.held < 0) = false := by simp; omega
                have hleft : 0 ≤ a.left := by unfold Acc.left; omega
                have d2 : decide (a.grant < a.held) = false := by have := HK'.out.gr0 ham; simp; omega
                have d3 : decide (a.left < 0) = false := by simp; omega
                have d4 : decide (a.grant < a.peak) = false := by simp; omega
                have hps3 : 0 ≤ psum s' k + a.held ∧ psum s' k + a.held ≤ 16384 := hps2
                clear ha ham hfa hLs hst hps2 hnum
                go_wp2_with (go_at_call 31; (with_reducible refine QH0.out.mono ?_); rintro e w6 ⟨rfl, hw⟩; obtain rfl := hw.symm; clear hw)
                go_quiet (first
                  | (go_at_call 31; exact Calls.quiet_of_same (QH.out _))
                  | (go_at_call 32; exact Calls.quiet_of_same (QG.out _))
                  | (go_at_call 34; exact Calls.quiet_of_same (QP.out _))
                  | (go_at_call 33; exact Calls.quiet_of (QL.out _)))
                go_wp2
                go_roundw
                case measure => simp [intOf]; omega
                have bn : Below wr.heap.size wr (wr.drewN nq) := ⟨rfl, rfl, rfl, Nat.le_refl _, fun _ _ => rfl⟩
                exact ⟨k + 1, by omega, by go_num, by rw [HST.out], V6.out.below (B := 0) bn, B6.out.trans (bn.mono B6.out.size)⟩
              · obtain rfl : k = s'.l.length := by omega
                have hpe := psum_end s'
                have htl := HK'.out.total_le
                have hmo := HK'.out.most
                rw [← hpe] at htl hmo
                have CT := Lib.hid (lv_total V6.out HK'.out)
                have CM := Lib.hid (fun W (h : LV w.heap.size w W bl s') => lv_most h HK'.out)
                rw [← hpe] at CT
                obtain ⟨P, hP⟩ : ∃ P, P = psum s' s'.l.length := ⟨_, rfl⟩
                rw [← hP] at hps htl hmo CT ⊢
                clear hpe hP
                go_wp2_with (first
                  | (go_at_call 35; (with_reducible refine CT.out.mono ?_); rintro e w7 ⟨rfl, V7⟩; have V7 := Lib.hid V7)
                  | (go_at_call 36; (with_reducible refine (CM.out _ V8.out).mono ?_); rintro e w9 ⟨rfl, V9⟩; have V9 := Lib.hid V9)
                  | (go_at_call 36; (with_reducible refine (CM.out _ V7.out).mono ?_); rintro e w8 ⟨rfl, V8⟩; have V8 := Lib.hid V8))
                go_roundw
                case measure => simp [intOf]; omega
                exact ⟨i + 1, s', by omega, by omega, by go_num, V9, HK', by omega⟩
          · rw [if_neg q1, if_neg q2, if_neg q3, if_neg q4] at hs'
            have V4 := VX
            rw [← hs'] at V4
            clear hs' VX
            go_upto_region 17 with fail
            have V4 := Lib.hid V4.out
            generalize (wr.alloc (.cells #[.int .i64 xk, .int .i64 xn, .int .i64 xp] 58)) = w4 at V4 ⊢
            clear hc0 hc1 hc2 hw0 hw1 hw2 HV HK
            have CA := Lib.hid (lv_accounts V4.out HK'.out)
            go_upto_region 20 with (go_at_call 30; (with_reducible refine CA.out.mono ?_); rintro e w5 ⟨A9, c9, rfl, ho5, _, V5⟩; have V5 := Lib.hid V5; have HO5 := Lib.hid (Rd1.of_own ho5).2; clear ho5 CA V4)
            go_loopw [10, 11] (fun sm y wq => ∃ (k : Nat), k ≤ s'.l.length ∧ y = .int .i64 (k : Int) ∧ sm = .int .i64 (psum s' k) ∧ Hid (LV w.heap.size w wq bl s') ∧ Hid (Below w5.heap.size w5 wq)) (fun _ y _ => s'.l.length - (intOf y).toNat)
            case atStart => exact ⟨0, by omega, rfl, rfl, V5, Below.refl _ _⟩
            case round =>
              clear V5
              obtain ⟨k, hk, rfl, rfl, V6, B6⟩ := hrel
              have hps := psum_le HK'.out k
              have hle := HK'.out.len
              by_cases hkl : k < s'.l.length
              · obtain ⟨a, ha⟩ : ∃ a, s'.l[k]? = some a := ⟨_, List.getElem?_eq_getElem hkl⟩
                have ham := List.mem_of_getElem? ha
                have hfa := find_get HK'.out.ord ha
                have hacc := HK'.out.acc a ham
                have hnum := HK'.out.num a ham
                obtain ⟨adA, rfl, hcell⟩ := HO5.out.get B6.out (k := k) (u := .int .i64 a.n) (by rw [List.getElem?_map, ha]; rfl)
                obtain ⟨bm, B, hLs, _⟩ := V6.out.ex
                have wna : (Lit.int .i64 a.n).wf = true := WalkArith.wf_i64 (by omega)
                have QH := Lib.hid (fun m => q_held (hLs.drewN m) HK'.out wna hfa)
                have QH0 := Lib.hid (q_held hLs HK'.out wna hfa)
                have QG := Lib.hid (fun m => q_grant (hLs.drewN m) HK'.out wna hfa)
                have QP := Lib.hid (fun m => q_peak (hLs.drewN m) HK'.out wna hfa)
                have QL := Lib.hid (fun m => q_left (hLs.drewN m) HK'.out wna hfa)
                have hps2 := psum_le HK'.out (k + 1)
                have hst := psum_step ha
                rw [hst] at hps2
                have HST := Lib.hid hst
                have d1 : decide (a.held < 0) = false := by simp; omega
                have hleft : 0 ≤ a.left := by unfold Acc.left; omega
                have d2 : decide (a.grant < a.held) = false := by have := HK'.out.gr0 ham; simp; omega
                have d3 : decide (a.left < 0) = false := by simp; omega
                have d4 : decide (a.grant < a.peak) = false := by simp; omega
                have hps3 : 0 ≤ psum s' k + a.held ∧ psum s' k + a.held ≤ 16384 := hps2
                clear ha ham hfa hLs hst hps2 hnum
                go_wp2_with (go_at_call 31; (with_reducible refine QH0.out.mono ?_); rintro e w6 ⟨rfl, hw⟩; obtain rfl := hw.symm; clear hw)
                go_quiet (first
                  | (go_at_call 31; exact Calls.quiet_of_same (QH.out _))
                  | (go_at_call 32; exact Calls.quiet_of_same (QG.out _))
                  | (go_at_call 34; exact Calls.quiet_of_same (QP.out _))
                  | (go_at_call 33; exact Calls.quiet_of (QL.out _)))
                go_wp2
                go_roundw
                case measure => simp [intOf]; omega
                have bn : Below wr.heap.size wr (wr.drewN nq) := ⟨rfl, rfl, rfl, Nat.le_refl _, fun _ _ => rfl⟩
                exact ⟨k + 1, by omega, by go_num, by rw [HST.out], V6.out.below (B := 0) bn, B6.out.trans (bn.mono B6.out.size)⟩
              · obtain rfl : k = s'.l.length := by omega
                have hpe := psum_end s'
                have htl := HK'.out.total_le
                have hmo := HK'.out.most
                rw [← hpe] at htl hmo
                have CT := Lib.hid (lv_total V6.out HK'.out)
                have CM := Lib.hid (fun W (h : LV w.heap.size w W bl s') => lv_most h HK'.out)
                rw [← hpe] at CT
                obtain ⟨P, hP⟩ : ∃ P, P = psum s' s'.l.length := ⟨_, rfl⟩
                rw [← hP] at hps htl hmo CT ⊢
                clear hpe hP
                go_wp2_with (first
                  | (go_at_call 35; (with_reducible refine CT.out.mono ?_); rintro e w7 ⟨rfl, V7⟩; have V7 := Lib.hid V7)
                  | (go_at_call 36; (with_reducible refine (CM.out _ V8.out).mono ?_); rintro e w9 ⟨rfl, V9⟩; have V9 := Lib.hid V9)
                  | (go_at_call 36; (with_reducible refine (CM.out _ V7.out).mono ?_); rintro e w8 ⟨rfl, V8⟩; have V8 := Lib.hid V8))
                go_roundw
                case measure => simp [intOf]; omega
                exact ⟨i + 1, s', by omega, by omega, by go_num, V9, HK', by omega⟩
        · have VB := Lib.hid HV.out.bel
          clear HV HK
          go_wp2
          go_ret
          exact ⟨by trivial, VB.out⟩
      · obtain rfl : i = n := by omega
        have VB := Lib.hid HV.out.bel
        clear HV HK
        go_wp2
        go_ret
        exact ⟨by trivial, VB.out⟩
end Go.Proofs.Ytagknfjgokiidaa
