/- PageFills: the walk. -/
import Derived.Test.YtlldkdhpilcilaaRFill
import Derived.Test.YtlldkdhpilcilaaPAll
namespace Go.Proofs.Ytlldkdhpilcilaa
open Go.RowKit
set_option linter.unusedVariables false
set_option linter.unusedSimpArgs false

theorem firstM_zero : ∀ {rows : Rows}, firstM rows = 0 → ∀ r ∈ rows, mayE r = 0
  | [], _, r, hr => by cases hr
  | x :: t, h, r, hr => by
    unfold firstM at h
    by_cases hx : mayE x = 0
    · rw [if_pos hx] at h
      rcases List.mem_cons.1 hr with rfl | hr
      · exact hx
      · exact firstM_zero h r hr
    · rw [if_neg hx] at h
      exact absurd h hx
theorem fill_yes {w : World} {A : Option Addr} {n c : Nat} {hds : List Value} {rows : Rows} (hl : RdL w A n hds rows) (hn : n ≤ 10000) (h : firstM rows = 0) : Calls Try.prog 43 #[.slice A n c] w fun e w' => ∃ A c hs, e = .returned (.tuple #[.slice A (fillG rows).length c, .int .i64 0]) ∧ w'.ownsRow w.heap.size 23 1 (.slice A (fillG rows).length c) (fillG rows).length hs ∧ PgsAt w' hs (fillG rows) ∧ Below w.heap.size w w' := by
  refine (fill_walk (c := c) hl hn).mono ?_
  rintro e w' ⟨H, b⟩
  rw [if_pos h] at H
  obtain ⟨A, c, hs, h1, h2, h3⟩ := H
  exact ⟨A, c, hs, h1, h2, h3, b⟩
theorem fill_no {w : World} {A : Option Addr} {n c : Nat} {hds : List Value} {rows : Rows} (hl : RdL w A n hds rows) (hn : n ≤ 10000) {F : Int} (hF : F = firstM rows) (h : F ≠ 0) : Calls Try.prog 43 #[.slice A n c] w fun e w' => e = .returned (.tuple #[.slice none 0 0, .int .i64 F]) ∧ Below w.heap.size w w' := by
  refine (fill_walk (c := c) hl hn).mono ?_
  rintro e w' ⟨H, b⟩
  rw [if_neg (by rw [← hF]; exact h), ← hF] at H
  exact ⟨H, b⟩
theorem fillG_mem {rows : Rows} (hm : ∀ r ∈ rows, mayE r = 0) {g : Rows} (hg : g ∈ fillG rows) : usedN g ≤ 256 ∧ (∀ r ∈ g, rowOk r = true) ∧ g.length ≤ 127 := by
  have hf := fillF_fit rows hm
  have hu : usedN g ≤ 256 := by
    by_cases he : rows = []
    · rw [he] at hg; cases hg
    · rw [fillG_len _ he] at hg
      rcases List.mem_append.1 hg with h | h
      · exact hf.1 g h
      · rw [List.mem_singleton.1 h]; exact hf.2
  refine ⟨hu, fun r hr => ?_, by unfold usedN at hu; omega⟩
  have : r ∈ (fillG rows).flatten := List.mem_flatten.2 ⟨g, hg, hr⟩
  rw [fillG_flat] at this
  exact (mayE_zero (hm r this)).1
theorem fillG_le (rows : Rows) : (fillG rows).length ≤ rows.length + 1 := by
  have key : ∀ (t : Rows) (s : List Rows × Rows), (t.foldl stepF s).1.length ≤ s.1.length + t.length := by
    intro t
    induction t with
    | nil => intro s; simp
    | cons r t ih =>
      intro s
      rw [List.foldl_cons]
      refine Nat.le_trans (ih _) ?_
      unfold stepF
      split <;> simp <;> omega
  have := key rows ([], [])
  unfold fillG
  split
  · simp
  · have h2 : (fillF rows).1.length ≤ rows.length := by simpa [fillF] using this
    simp
    omega
set_option maxRecDepth 6000 in
set_option maxHeartbeats 4000000 in
theorem PageFills.walk {w : World} (A : Option Addr) (n c : Nat) (x : List Value × List (List V)) (hl : RdL w A n x.1 x.2) :
    Calls Try.prog 10 #[.slice A n c] w fun e w' => e = .returned (.bool true) ∧ Below w.heap.size w w' := by
  obtain ⟨hds, rows⟩ := x
  dsimp only at hl
  have hn9 := hl.hd.2.1
  have hlen := hl.len
  have HLv := Lib.hid plives
  have HLg := Lib.hid (plarge (c := c) hl)
  have HL := Lib.hid hl
  have HN := Lib.hid hlen
  clear hl hlen
  by_cases hF : firstM rows = 0
  · have hm := firstM_zero hF
    have HF := Lib.hid (fun (h : n ≤ 600) => fill_yes (c := c) HL.out (by omega) hF)
    have HQ := Lib.hid (fun (h : n ≤ 600) W (b : Below w.heap.size w W) => rfill_walk (c := c) (HL.out.below b) hm h)
    have HM := Lib.hid hm
    obtain ⟨gs, hgs⟩ : ∃ gs, gs = fillG rows := ⟨_, rfl⟩
    obtain ⟨N, hNN⟩ : ∃ N, N = gs.length := ⟨_, rfl⟩
    unfold RFillP at HQ
    rw [← hgs, ← hNN] at HF HQ
    have HGS := Lib.hid (And.intro hgs hNN)
    have hNle : N ≤ n + 1 := by have := fillG_le rows; rw [← hgs, ← hNN] at this; have := HN.out; omega
    clear hm hF hgs hNN
    go_enter Try.func10, Try.ntmps10
    go_wp2_with (first
      | (go_at_call 29; refine HLg.out.mono ?_; rintro e w1 ⟨b, rfl, hw, hb6⟩; obtain rfl := hw.symm; clear hw; have HB6 := Lib.hid hb6; clear hb6; cases b)
      | (go_at_call 43; refine (HF.out (HB6.out (by trivial))).mono ?_; rintro e w2 ⟨Ap, cp, hps, rfl, hop, hpp, b2⟩; have HP := Lib.hid (And.intro hop hpp); clear hop hpp)
      | (go_at_call 30; refine (HLv.out _).mono ?_; rintro e w3 ⟨rfl, b3⟩))
    rotate_left
    · go_ret
      exact ⟨by trivial, b3⟩
    have hn6 := HB6.out (by trivial)
    have b23 := b2.trans (b3.mono b2.size)
    have HP3 := Lib.hid (And.intro (own_below HP.out.1 b3) (HP.out.2.below b3))
    clear b2 b3 HP
    go_loopw [5] (fun y wr => ∃ (k : Nat), k ≤ n ∧ y = .int .i64 k ∧ Below w3.heap.size w3 wr) (fun y _ => n - (intOf y).toNat)
    case atStart => exact ⟨0, by omega, rfl, Below.refl _ _⟩
    case round =>
      obtain ⟨k, hk, rfl, bel⟩ := hrel
      have szr := bel.size
      have bw : Below w.heap.size w wr := b23.trans (bel.mono b23.size)
      by_cases hlt : k < n
      · obtain ⟨adl, D, rm, rc, r, rfl, had, hrk, hhk, hcell, hrv⟩ := HL.out.at_ hlt
        have hc0 := cell_belowv hcell bw (by rw [add_block]; exact had)
        have HMay := may_walk (c := rc) (hrv.below bw)
        rw [HM.out r (List.mem_of_getElem? hrk)] at HMay
        have HMay := Lib.hid HMay
        clear hcell hhk hrk hrv
        go_wp2_with (go_at_call 33; (with_reducible refine HMay.out.mono ?_); rintro e w4 ⟨rfl, b4⟩)
        go_roundw
        case measure => simp [intOf]; omega
        exact ⟨k + 1, by omega, by go_num, bel.trans (b4.mono szr)⟩
      · obtain rfl : k = n := by omega
        have HQ5 := Lib.hid (HQ.out hn6 _ bw)
        have hop5 := Lib.hid (And.intro (own_below HP3.out.1 bel) (HP3.out.2.below bel))
        have hcap : lenOf (.slice Ap N cp) = N := rfl
        go_wp2_with (go_at_call 44; (with_reducible refine HQ5.out.mono ?_); rintro e w5 ⟨Aq, cq, hqs, rfl, hoq, hgq, b5⟩; have HQ6 := Lib.hid (And.intro hoq hgq); clear hoq hgq)
        have b35 := bel.trans (b5.mono szr)
        have hop6 := Lib.hid (And.intro (own_below hop5.out.1 b5) (hop5.out.2.below b5))
        have s5 := b5.size
        have bw5 : Below w.heap.size w w5 := bw.trans (b5.mono bw.size)
        have HB5 := Lib.hid b5
        clear bel b5 HQ5 hop5 HP3
        go_loopw [8] (fun y wq => ∃ (j : Nat), j ≤ N ∧ y = .int .i64 j ∧ Below w5.heap.size w5 wq) (fun y _ => N - (intOf y).toNat)
        case atStart => exact ⟨0, by omega, rfl, Below.refl _ _⟩
        case round =>
          obtain ⟨j, hj, rfl, bq⟩ := hrel
          have szq := bq.size
          by_cases hjt : j < N
          · have hgl : j < gs.length := by rw [← HGS.out.2]; exact hjt
            obtain ⟨g, hg⟩ : ∃ g, gs[j]? = some g := ⟨_, List.getElem?_eq_getElem hgl⟩
            obtain ⟨hh, hhe⟩ : ∃ hh, hqs[j]? = some hh := ⟨hqs[j]'(by rw [HQ6.out.2.len]; exact hgl), List.getElem?_eq_getElem _⟩
            obtain ⟨Ag, mg, cg, hsg, rfl, hog, hhg⟩ := HQ6.out.2.gr j hh g hhe hg
            obtain ⟨hp, hpe⟩ : ∃ hp, hps[j]? = some hp := ⟨hps[j]'(by rw [hop6.out.2.len]; exact hgl), List.getElem?_eq_getElem _⟩
            have hpg := hop6.out.2.pg j hp g hpe hg
            obtain ⟨adp, cpp, rfl, _, _⟩ := hpg.bytes
            obtain ⟨adq, rfl, hadq, hcq⟩ := (Rd1.of_own HQ6.out.1).2.2.2 (by omega)
            obtain ⟨adP, rfl, hadP, hcP⟩ := (Rd1.of_own hop6.out.1).2.2.2 (by omega)
            have k1 := cell_belowv (hcq j _ hhe) bq (by rw [add_block]; exact hadq)
            have k2 := cell_belowv (hcP j _ hpe) bq (by rw [add_block]; exact hadP)
            have hgm := fillG_mem HM.out (g := g) (by rw [← HGS.out.1]; exact List.mem_of_getElem? hg)
            have hml : g.length = mg := by rw [← hhg.len]; simpa using hog.1
            have HMk := Lib.hid (make_fit (c := cg) (hhg.rdl (own_below hog bq) (HB5.out.trans (bq.mono s5))) hgm.2.1 (by have := hgm.2.2; omega) hgm.1)
            have HPG := Lib.hid (hpg.below bq)
            obtain ⟨s1, hs1⟩ : ∃ s1, s1 = strOf (mkP g) := ⟨_, rfl⟩
            have HST := Lib.hid (fun W A1 c1 (h : Rd1 W A1 256 (u8s (mkP g))) => (show (convert 23 9 (.slice A1 256 c1)).run Try.prog W = .ok (.string s1) W by rw [hs1]; exact conv_rd h))
            clear hs1 hgm hml hog hhg hpg hg hhe hpe hcq hcP
            go_wp2_with (go_at_call 35; (with_reducible refine HMk.out.mono ?_); rintro e w8 ⟨B8, c8, rfl, hx8, b8⟩; have k3 := cell_belowv k2 b8 (by rw [add_block]; omega); have k4 := HST.out w8.drew B8 c8 hx8; have k5 := HST.out w8.drew _ cpp (HPG.out.below b8).rdp)
            go_region
            all_goals go_wp2
            all_goals go_roundw
            case measure => simp [intOf]; omega
            exact ⟨j + 1, by omega, by go_num, (bq.trans (b8.mono szq)).drew⟩
          · obtain rfl : j = N := by omega
            obtain ⟨ps, hps2, hall⟩ := RdP.of_pages (own_below hop6.out.1 bq) (hop6.out.2.below bq)
            rw [HGS.out.1, fillG_flat] at hall
            have hN : j ≤ 10000 := by omega
            have HPs := Lib.hid (pages_yes (c := cp) hps2 hN hall)
            have bwq : Below w.heap.size w wr := bw5.trans (bq.mono bw5.size)
            clear hps2 hall
            go_wp2_with (first
              | (go_at_call 45; (with_reducible refine HPs.out.mono ?_); rintro e w8 ⟨B8, c8, hs8, rfl, hl8, b8⟩; have hn8 := HN.out; rw [hn8] at hl8; have hn8' : rows.length = k := hn8; have b88 := bwq.trans (b8.mono bwq.size); have HSm := Lib.hid (samelist_rdl (c := c8) (c2 := c) hl8 (HL.out.below b88)); clear hl8)
              | (go_at_call 27; refine HSm.out.mono ?_; rintro e w9 ⟨rfl, b9⟩))
            go_ret
            exact ⟨by trivial, b88.trans (b9.mono b88.size)⟩
  · obtain ⟨F, hFF⟩ : ∃ F, F = firstM rows := ⟨_, rfl⟩
    have HFF := Lib.hid hFF
    rw [← hFF] at hF
    have HF := Lib.hid (fun (h : n ≤ 600) => fill_no (c := c) HL.out (by omega) HFF.out hF)
    have hF0 : (F == 0) = false := by simpa using hF
    have hF1 : (F != 0) = true := by simpa using hF
    have HNF := Lib.hid hF
    clear hF hFF
    go_enter Try.func10, Try.ntmps10
    go_wp2_with (first
      | (go_at_call 29; refine HLg.out.mono ?_; rintro e w1 ⟨b, rfl, hw, hb6⟩; obtain rfl := hw.symm; clear hw; have HB6 := Lib.hid hb6; clear hb6; cases b)
      | (go_at_call 43; refine (HF.out (HB6.out (by trivial))).mono ?_; rintro e w2 ⟨rfl, b2⟩)
      | (go_at_call 30; refine (HLv.out _).mono ?_; rintro e w3 ⟨rfl, b3⟩))
    rotate_left
    · go_ret
      exact ⟨by trivial, b3⟩
    have hn6 := HB6.out (by trivial)
    have b23 := b2.trans (b3.mono b2.size)
    clear b2 b3
    go_loopw [5] (fun y wr => ∃ (k : Nat), k ≤ n ∧ y = .int .i64 k ∧ Below w3.heap.size w3 wr ∧ Hid (F = firstM (rows.drop k))) (fun y _ => n - (intOf y).toNat)
    case atStart => exact ⟨0, by omega, rfl, Below.refl _ _, HFF.out⟩
    case round =>
      obtain ⟨k, hk, rfl, bel, HD⟩ := hrel
      have szr := bel.size
      have bw : Below w.heap.size w wr := b23.trans (bel.mono b23.size)
      by_cases hlt : k < n
      · obtain ⟨adl, D, rm, rc, r, rfl, had, hrk, hhk, hcell, hrv⟩ := HL.out.at_ hlt
        have hc0 := cell_belowv hcell bw (by rw [add_block]; exact had)
        have HMay := may_walk (c := rc) (hrv.below bw)
        have hfd := firstM_drop hrk
        by_cases hm : mayE r = 0
        · rw [hm] at HMay
          rw [if_pos hm] at hfd
          have HD2 := Lib.hid (HD.out.trans hfd)
          have HMay := Lib.hid HMay
          clear hcell hhk hrk hrv hfd hm
          go_wp2_with (go_at_call 33; (with_reducible refine HMay.out.mono ?_); rintro e w4 ⟨rfl, b4⟩)
          go_roundw
          case measure => simp [intOf]; omega
          exact ⟨k + 1, by omega, by go_num, bel.trans (b4.mono szr), HD2⟩
        · rw [if_neg hm, ← HD.out] at hfd
          rw [← hfd] at HMay
          have HMay := Lib.hid HMay
          clear hcell hhk hrk hrv hfd hm
          go_wp2_with (go_at_call 33; (with_reducible refine HMay.out.mono ?_); rintro e w4 ⟨rfl, b4⟩)
          go_ret
          exact ⟨by trivial, bw.trans (b4.mono bw.size)⟩
      · exfalso
        have h1 := HD.out
        have h2 := HN.out
        rw [List.drop_of_length_le (by omega)] at h1
        exact HNF.out h1
end Go.Proofs.Ytlldkdhpilcilaa
