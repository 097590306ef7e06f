/- DiskKeeps: the walk. -/
import Derived.Test.YtagknfjgokiidaaDKq
namespace Go.Proofs.Ytagknfjgokiidaa
open Go.RowKit Go.Maps
set_option linter.unusedVariables false
set_option linter.unusedSimpArgs false
set_option maxRecDepth 6000

theorem fieldPeak (a b c d : Int) (W : World) : (Instr.field 47 (.agg #[.int .i64 a, .int .i64 b, .int .i64 c, .int .i64 d]) 3).run Try.prog W = .ok (.int .i64 d) W := by kernel_rfl
theorem kk_q {x r : Int} (h : x.tmod 3 = r) : -2 ≤ r ∧ r ≤ 2 ∧ ∃ q : Nat, q < 3 ∧ (r + 3).tmod 3 = (q : Int) := by
  rcases tmod5 x with e | e | e | e | e <;> rw [h] at e <;> subst e <;> refine ⟨by decide, by decide, ?_⟩
  · exact ⟨1, by decide, by decide⟩
  · exact ⟨2, by decide, by decide⟩
  · exact ⟨0, by decide, by decide⟩
  · exact ⟨1, by decide, by decide⟩
  · exact ⟨2, by decide, by decide⟩
set_option maxHeartbeats 8000000 in
theorem DiskKeeps.walk {w : World} (A : Option Addr) (n c : Nat) (F : List Int) (hr : RdI w A n F) (m : Int) (wm : (Lit.int .i64 m).wf = true) : Calls Try.prog 4 #[.slice A n c, .int .i64 m] w fun e w' => e = .returned (.bool true) ∧ Below w.heap.size w w' := by
  have HLv := Lib.hid dlives
  have hk := hr.2.1
  have C0 := Lib.hid (show Calls Try.prog 11 #[.int .i64 16384, .slice none 0 0] w fun e w' => ∃ bd, e = .returned (.tuple #[dp bd, .int .i64 0]) ∧ In w w' (star (DR bd 16384 [] Ds.new) emp) from
    (dnew_yes (by decide) (by decide) (RdI.nil w)).mono fun e w' ⟨bd, h1, h2⟩ => ⟨bd, h1, (In.start' (Below.refl _ _) h2).imp fun S => star_emp⟩)
  have HR := Lib.hid hr
  clear hr
  by_cases hbad : 300 < n
  · have q1' : (300 : Int) < n := by omega
    clear hbad
    go_enter Try.func4, Try.ntmps4
    go_wp2_with (first
      | (go_at_call 11; (with_reducible refine C0.out.mono ?_); rintro e w1 ⟨bd, rfl, V⟩; have V0 := Lib.hid V; clear V C0)
      | (go_at_call 10; (with_reducible refine (HLv.out _).mono ?_); rintro e w2 ⟨rfl, b⟩; have V1 := Lib.hid (V0.out.below (star_good (DR_good _ _ _ _) emp_good) b); clear b V0)
      | (go_at_call 10; (with_reducible refine (HLv.out _).mono ?_); rintro e w3 ⟨rfl, b⟩; have V2 := Lib.hid (V1.out.below (star_good (DR_good _ _ _ _) emp_good) b); clear b V1))
    go_ret
    exact ⟨by trivial, V2.out.bel⟩
  · have hn : n ≤ 300 := by omega
    have d1 : decide ((300 : Int) < n) = false := by simp; omega
    clear hbad
    go_enter Try.func4, Try.ntmps4
    go_wp2_with (first
      | (go_at_call 11; (with_reducible refine C0.out.mono ?_); rintro e w1 ⟨bd, rfl, V⟩; have V0 := Lib.hid V; clear V C0)
      | (go_at_call 10; (with_reducible refine (HLv.out _).mono ?_); rintro e w2 ⟨rfl, b⟩; have V1 := Lib.hid (V0.out.below (star_good (DR_good _ _ _ _) emp_good) b); clear b V0))
    have V2 : Hid (In w w2 (star (DR bd 16384 [] (cS 0)) (star (rowR 3 1 (.slice none 0 0) 0 (nums 0)) emp))) := Lib.hid (V1.out.imp fun S h => star_mono h (fun _ => id) fun S h => star_mono (star_emp h) (fun _ => nil_row) fun _ => id)
    clear V1
    go_loopw [7, 8] (fun f y wr => ∃ (i : Nat) (FA : Option Addr) (fc : Nat), i ≤ 3 ∧ f = .slice FA i fc ∧ y = .int .i64 (i : Int) ∧ Hid (In w wr (star (DR bd 16384 [] (cS i)) (star (rowR 3 1 (.slice FA i fc) i (nums i)) emp)))) (fun _ y _ => 3 - (intOf y).toNat)
    case atStart => exact ⟨0, none, 0, by omega, rfl, rfl, V2⟩
    case round =>
      clear V2
      obtain ⟨i, FA, fc, hi, rfl, rfl, V⟩ := hrel
      by_cases hlt : i < 3
      · have C1 := Lib.hid (show Calls Try.prog 15 #[dp bd] wr fun e w' => e = .returned (.tuple #[.int .i64 ((i : Int) + 1), .int .i64 0]) ∧ In w w' (star (DR bd 16384 [] (cS (i + 1))) (star (rowR 3 1 (.slice FA i fc) i (nums i)) emp)) from by
          obtain ⟨hm, hfl, hE, hK⟩ := cS_eq i (by omega)
          have := v_create (star_good (rowR_good _ _ _ _ _) emp_good) V.out hK (by rw [hm]; omega)
          rw [hE, if_pos rfl, hm] at this
          exact this)
        clear V
        go_wp2_with (first
          | (go_at_call 15; (with_reducible refine C1.out.mono ?_); rintro e w3 ⟨rfl, V⟩; have V3 := Lib.hid V; have HO := Lib.hid (V.right.left.get fun S h => h.1); clear V C1)
          | (at_builtin; refine wp_append1 (W := w3) 0 rfl (.tmp 52) (.tmp 54) 22 3 (.int .i64 0) 1 8 rfl Try.underlying22 infI rfl (by omega) (by omega) (.slice FA i fc) i _ [.int .i64 ((i : Int) + 1)] rfl rfl (by simp) rfl (by simp [Value.oneCell']) HO.out (by omega) (by omega) ?_; intro v1 w4 h1 t1 hor; obtain ⟨A1, c1, rfl⟩ := own_slice h1; have V4 := Lib.hid ((V3.out.swap.grow (star_good (DR_good _ _ _ _) emp_good) h1 t1 hor).swap); clear V3 HO h1 t1 hor))
        go_roundw
        case measure => simp [intOf]; omega
        case rel => exact ⟨i + 1, A1, c1, by omega, rfl, by go_num, by rw [nums_succ]; exact V4⟩
      · have e3 : i = 3 := by omega
        have V' := V.out
        rw [e3] at V'
        obtain ⟨gf, rfl, _⟩ := row_cell (V'.right.left.get fun S h => h.1) (j := 0) (u := .int .i64 1) rfl
        obtain ⟨bw, hbw⟩ : ∃ bw, wr.heap.size = bw := ⟨_, rfl⟩
        have V3 : Hid (In w (wr.alloc (.cells #[.slice none 0 0, .slice none 0 0, .slice none 0 0] 39)) (star (DR bd 16384 [] (kS F 0)) (KV bw (.slice (some ⟨gf, 0, none⟩) 3 fc) (fun _ => .slice none 0 0) (wF F 0)))) := Lib.hid (hbw ▸ KV_start (R := emp) (DR_good _ _ _ _) emp_good V')
        obtain ⟨i3, h3⟩ : ∃ i3, i3 = i := ⟨_, rfl⟩
        rw [← h3]
        have E3 : Hid (i3 = 3) := Lib.hid (h3.trans e3)
        have l3 : ¬ i3 < 3 := by omega
        clear V' V hi hlt h3 e3
        go_wp2
        clear hbw
        go_loopw [12] (fun y wt => ∃ (i : Nat) (V : Nat → Value), i ≤ n ∧ y = .int .i64 (i : Int) ∧ Hid (In w wt (star (DR bd 16384 [] (kS F i)) (KV bw (.slice (some ⟨gf, 0, none⟩) 3 fc) V (wF F i))))) (fun y _ => n - (intOf y).toNat)
        case atStart => exact ⟨0, fun _ => .slice none 0 0, by omega, rfl, V3⟩
        case round =>
          clear V3
          obtain ⟨i, V, hi, rfl, HV⟩ := hrel
          by_cases hlt : i < n
          · obtain ⟨x, hx⟩ : ∃ x, F[i]? = some x := ⟨_, List.getElem?_eq_getElem (by have := HR.out.1; omega)⟩
            obtain ⟨ad, rfl, had, hc⟩ := (HR.out.below HV.out.bel).2.2.2 (by omega)
            have hcell := hc i x hx
            obtain ⟨r, hr1⟩ : ∃ r, x.tmod 3 = r := ⟨_, rfl⟩
            obtain ⟨hr3, hr4, q, hq, hr2⟩ := kk_q hr1
            have hkk : kk x = (q : Int) := by unfold kk; rw [hr1, hr2]
            obtain ⟨b, hb⟩ : ∃ b, b = byteN i := ⟨_, rfl⟩
            have hb8 : IntKind.u8.wrap (i : Int) = b := hb.symm
            have hst := kS_step (l := F) (i := i) (by omega) hx hkk (by omega)
            have hw := wF_step hx hkk
            rw [← hb] at hst hw
            have K := kS_ok (l := F) (i := i) (by have := HR.out.1; omega) (by omega)
            have VD := Lib.hid (in_drew HV.out (star_good (DR_good _ _ _ _) (KV_good _ _ _ _)))
            have CP := Lib.hid ((v_page (KV_good _ _ _ _) VD.out b).mono fun (e : Ending) (w' : World) h => show e = .returned (.slice (some ⟨wr.heap.size, 0, none⟩) 256 256) ∧ w'.cell? ⟨gf, q, none⟩ = some (.int .i64 ((q : Int) + 1)) ∧ In w w' (star (DR bd 16384 [] (kS F i)) (star (rowR 5 1 (.slice (some ⟨wr.heap.size, 0, none⟩) 256 256) 256 (b8 (rp b))) (KV bw (.slice (some ⟨gf, 0, none⟩) 3 fc) V (wF F i)))) from ⟨h.1, KV_f hq h.2.drop, h.2⟩)
            have CA := Lib.hid (fun (W : World) H => (v_put (w0 := w) (w := W) (bd := bd) (A := some ⟨wr.heap.size, 0, none⟩) (KV_good bw (.slice (some ⟨gf, 0, none⟩) 3 fc) V (wF F i)) H K (by unfold kS; dsimp only; omega) (WalkArith.wf_i64 (by omega)) hst).mono fun (e : Ending) (w' : World) h => show e = .returned (.int .i64 0) ∧ w'.cell? ⟨gf, q, none⟩ = some (.int .i64 ((q : Int) + 1)) ∧ In w w' (star (DR bd 16384 [] (kS F (i + 1))) (KV bw (.slice (some ⟨gf, 0, none⟩) 3 fc) V (wF F i))) from ⟨h.1, KV_f hq h.2, h.2⟩)
            have k0 := KV_f hq HV.out
            obtain ⟨A0, c0, e0⟩ := own_slice (KV_row hq HV.out)
            have hL0 := wB_len F (q : Int) i
            obtain ⟨L, hL⟩ : ∃ L, L = (wF F i q).length := ⟨_, rfl⟩
            rw [← hL] at e0
            have hLi : L ≤ i := by rw [hL]; exact hL0
            have HW := Lib.hid hw
            have HL := Lib.hid hL
            have HE := Lib.hid e0
            have HI : Hid (IntKind.u8.wrap (i : Int) = b) := Lib.hid hb8
            have kd : wr.drew.cell? ⟨gf, q, none⟩ = some (.int .i64 ((q : Int) + 1)) := k0
            clear hx hc had hkk hb hst hw K HV hL0 hL e0
            have hq0 : (0 : Int) ≤ (q : Int) := by omega
            have hq4 : (q : Int) < 3 := by omega
            have hq3 : (q : Int) < (i3 : Int) := by have := E3.out; omega
            go_wp2
            go_region_held3 (fun w' => w'.cell? ⟨gf, q, none⟩ = some (.int .i64 ((q : Int) + 1))) (first | assumption | go_keep)
              (first
                | (go_at_call 17; (with_reducible refine CP.out.mono ?_); rintro e w4 ⟨rfl, k1, V⟩; have V4 := Lib.hid V; clear V)
                | (go_at_call 16; (with_reducible refine (CA.out _ V4.out).mono ?_); rintro e w5 ⟨rfl, k2, V⟩; have V5 := Lib.hid V; clear V))
            have k5 : w5.cell? ⟨bw, q, none⟩ = some (.slice A0 L c0) := by rw [← HE.out]; exact KV_cell hq V5.out
            have HO : Hid (w5.ownsRow 0 5 1 (.slice A0 L c0) L (b8 (wF F i q))) := Lib.hid (by have := KV_row hq V5.out; rw [HE.out, ← HL.out] at this; exact this)
            go_wp2_with (at_builtin; refine wp_append1 (W := w5) 0 rfl (.tmp 82) (.tmp 85) 31 5 (.int .u8 0) 1 1 rfl Try.underlying31 inf8 rfl (by omega) (by omega) (.slice A0 L c0) L _ [.int .u8 b] rfl rfl (by simp) rfl (by simp [Value.oneCell']) HO.out (by omega) (by omega) ?_; intro v1 w6 h1 t1 hor; obtain ⟨A1, c1, rfl⟩ := own_slice h1; obtain ⟨k6, k7, k8⟩ := KV_mid (DR_good _ _ _ _) hq V5.out (v := .slice A1 (L + 1) c1) (b := b) (by rw [← HL.out]; exact h1) (by rw [HE.out]; exact t1) (by rw [HE.out]; exact hor); rw [HE.out] at k7; clear k6; have V6 := Lib.hid (KV_app (DR_good _ _ _ _) hq V5.out (v := .slice A1 (L + 1) c1) (b := b) (by rw [← HL.out]; exact h1) (by rw [HE.out]; exact t1) (by rw [HE.out]; exact hor)); clear h1 t1 hor)
            go_roundw
            case measure => simp [intOf]; omega
            case rel => exact ⟨i + 1, _, by omega, by go_num, by rw [HW.out]; exact V6⟩
          · obtain rfl : i = n := by omega
            obtain ⟨r, hr1⟩ : ∃ r, m.tmod 3 = r := ⟨_, rfl⟩
            obtain ⟨hr3, hr4, g, hg, hr2⟩ := kk_q hr1
            have hFl := HR.out.1
            have hst : (kS F i).delE ((g : Int) + 1) = 0 ∧ RSt F g ((kS F i).del ((g : Int) + 1)) 300 := by
              rw [← hFl]
              exact RSt.start (by omega) hg
            have hv := v_del (KV_good _ _ _ _) HV.out (kS_ok (by omega) (by omega)) (n := (g : Int) + 1) (WalkArith.wf_i64 (by omega))
            rw [hst.1] at hv
            have CD := Lib.hid hv
            have HS0 := Lib.hid hst.2
            obtain ⟨s0, hs0⟩ : ∃ s0, s0 = (kS F i).del ((g : Int) + 1) := ⟨_, rfl⟩
            rw [← hs0] at CD HS0
            have HF := Lib.hid hFl
            have kf := KV_f hg HV.out
            have hg0 : (0 : Int) ≤ (g : Int) := by omega
            have hg3 : (g : Int) < (i3 : Int) := by have := E3.out; omega
            have hg4 : (g : Int) < 3 := by omega
            clear hFl hst hv hs0 HV hi hlt
            go_wp2_with (go_at_call 18; (with_reducible refine CD.out.mono ?_); rintro e w7 ⟨rfl, V⟩; have V7 := Lib.hid V; clear V CD)
            clear kf
            go_loopw [15] (fun y wr => ∃ (q : Nat) (s : Ds), q ≤ 3 ∧ y = .int .i64 (q : Int) ∧ Hid (RSt F g s (300 + (q : Int) * 301)) ∧ Hid (In w wr (star (DR bd 16384 [] s) (KV bw (.slice (some ⟨gf, 0, none⟩) 3 fc) V (wF F i))))) (fun y _ => 3 - (intOf y).toNat)
            case atStart => exact ⟨0, s0, by omega, rfl, HS0, V7⟩
            case round =>
              clear HS0 V7
              obtain ⟨q, s, hq, rfl, HS, HV⟩ := hrel
              by_cases hq3 : q < 3
              · have hf := HS.out.fnd q hq3
                rw [HF.out] at hf
                have CZ := v_size (n := (q : Int) + 1) (KV_good _ _ _ _) HV.out (WalkArith.wf_i64 (by omega))
                have kf := KV_f hq3 HV.out
                have hq0 : (0 : Int) ≤ (q : Int) := by omega
                have hq1 : (q : Int) < (i3 : Int) := by have := E3.out; omega
                have hq2 : (q : Int) < 3 := by omega
                by_cases hqg : q = g
                · subst hqg
                  rw [if_pos rfl] at hf
                  rw [hf] at CZ
                  have CZ := Lib.hid (show Calls Try.prog 19 #[dp bd, .int .i64 ((q : Int) + 1)] wr fun e w' => e = .returned (.tuple #[.int .i64 0, .int .i64 4]) ∧ w' = wr from CZ)
                  clear hf
                  go_wp2_with (go_at_call 19; (with_reducible refine CZ.out.mono ?_); rintro e w8 ⟨rfl, hw⟩; obtain rfl := hw.symm; clear hw CZ)
                  go_roundw
                  case measure => simp [intOf]; omega
                  case rel => exact ⟨q + 1, s, by omega, by go_num, Lib.hid (HS.out.mono (by omega)), HV⟩
                · rw [if_neg hqg] at hf
                  rw [hf] at CZ
                  obtain ⟨A0, c0, e0⟩ := own_slice (KV_row hq3 HV.out)
                  have hL0 := wB_len F (q : Int) i
                  obtain ⟨L, hL⟩ : ∃ L, L = (wF F i q).length := ⟨_, rfl⟩
                  have hLi : L ≤ i := by rw [hL]; exact hL0
                  rw [← hL] at e0
                  have CZ := Lib.hid (show Calls Try.prog 19 #[dp bd, .int .i64 ((q : Int) + 1)] wr fun e w' => e = .returned (.tuple #[.int .i64 (L : Int), .int .i64 0]) ∧ w' = wr from by
                    simp only [Option.elim, Option.isSome_some, if_true, List.length_map, ← hL] at CZ
                    exact CZ)
                  have hne : ((q : Int) == (g : Int)) = false := beq_eq_false_iff_ne.mpr (by omega)
                  have kc := KV_cell hq3 HV.out
                  rw [e0] at kc
                  have HL := Lib.hid hL
                  have HE := Lib.hid e0
                  clear hf hL0 hL e0
                  go_wp2_with (go_at_call 19; (with_reducible refine CZ.out.mono ?_); rintro e w8 ⟨rfl, hw⟩; obtain rfl := hw.symm; clear hw CZ)
                  clear kf kc
                  go_loopw [18] (fun y wr => ∃ (j : Nat) (s : Ds), j ≤ L ∧ y = .int .i64 (j : Int) ∧ Hid (RSt F g s (300 + (q : Int) * 301 + (j : Int))) ∧ Hid (In w wr (star (DR bd 16384 [] s) (KV bw (.slice (some ⟨gf, 0, none⟩) 3 fc) V (wF F i))))) (fun y _ => L - (intOf y).toNat)
                  case atStart => exact ⟨0, s, by omega, rfl, Lib.hid (HS.out.mono (by omega)), HV⟩
                  case round =>
                    clear HS HV s
                    obtain ⟨j, s, hj, rfl, HS, HV⟩ := hrel
                    by_cases hjL : j < L
                    · obtain ⟨x, hx⟩ : ∃ x, (wF F i q)[j]? = some x := ⟨_, List.getElem?_eq_getElem (by rw [← HL.out]; exact hjL)⟩
                      have hrd := HS.out.read hq3 hqg (i := j) (x := x) (by rw [HF.out]; exact hx)
                      have hde := HS.out.deeds
                      have CR := v_read (KV_good _ _ _ _) HV.out HS.out.ok (by omega) (n := (q : Int) + 1) (i := (j : Int)) (WalkArith.wf_i64 (by omega))
                      rw [hrd.1, hrd.2.1] at CR
                      obtain ⟨s', hs'⟩ : ∃ s', s' = s.read [] ((q : Int) + 1) j := ⟨_, rfl⟩
                      rw [← hs'] at CR
                      have HS' : Hid (RSt F g s' (300 + (q : Int) * 301 + (j : Int) + 1)) := Lib.hid (by rw [hs']; exact hrd.2.2)
                      have kf := KV_f hq3 HV.out
                      have hro := KV_row hq3 HV.out
                      rw [HE.out, ← HL.out] at hro
                      obtain ⟨g0, rfl, _⟩ := row_cell hro (j := j) (u := .int .u8 x) (by rw [List.getElem?_map, hx]; rfl)
                      have HK := Lib.hid (fun (W : World) (h : In w W (star (DR bd 16384 [] s') (KV bw (.slice (some ⟨gf, 0, none⟩) 3 fc) V (wF F i)))) => show W.cell? ⟨bw, q, none⟩ = some (.slice (some ⟨g0, 0, none⟩) L c0) ∧ W.cell? ⟨g0, j, none⟩ = some (.int .u8 x) from by
                        have h1 := KV_cell hq3 h
                        have h2 := KV_row hq3 h
                        rw [HE.out] at h1
                        rw [HE.out, ← HL.out] at h2
                        obtain ⟨g1, e1, h3⟩ := row_cell h2 (j := j) (u := .int .u8 x) (by rw [List.getElem?_map, hx]; rfl)
                        injection e1 with e1
                        injection e1 with e1
                        subst e1
                        exact ⟨h1, h3⟩)
                      obtain ⟨rs, hrs⟩ : ∃ rs, rs = str8 (rp x) := ⟨_, rfl⟩
                      have CR := Lib.hid (CR.mono fun (e : Ending) (w' : World) h => show ∃ (vA : Option Addr) (vn vc : Nat), e = .returned (.tuple #[.slice vA vn vc, .int .i64 0]) ∧ (w'.cell? ⟨bw, q, none⟩ = some (.slice (some ⟨g0, 0, none⟩) L c0) ∧ w'.cell? ⟨g0, j, none⟩ = some (.int .u8 x) ∧ (convert 31 9 (.slice vA vn vc)).run Try.prog w' = .ok (.string rs) w') ∧ In w w' (star (DR bd 16384 [] s') (star (rowR 5 1 (.slice vA vn vc) vn (b8 (rp x))) (KV bw (.slice (some ⟨gf, 0, none⟩) 3 fc) V (wF F i)))) from by
                        obtain ⟨⟨vA, vn, vc⟩, h1, h2⟩ := h
                        have h3 := HK.out _ h2.drop
                        exact ⟨vA, vn, vc, h1, ⟨h3.1, h3.2, by rw [hrs]; exact h2.right.left.get fun S h => conv8 h.1⟩, h2⟩)
                      have CP := Lib.hid (fun (W : World) (vA : Option Addr) (vn vc : Nat) (h : In w W (star (DR bd 16384 [] s') (star (rowR 5 1 (.slice vA vn vc) vn (b8 (rp x))) (KV bw (.slice (some ⟨gf, 0, none⟩) 3 fc) V (wF F i))))) => (v_page (star_good (rowR_good _ _ _ _ _) (KV_good _ _ _ _)) h x).mono fun (e : Ending) (w' : World) h => show ∃ u, e = .returned (.slice (some ⟨u, 0, none⟩) 256 256) ∧ ((w'.cell? ⟨bw, q, none⟩ = some (.slice (some ⟨g0, 0, none⟩) L c0) ∧ w'.cell? ⟨g0, j, none⟩ = some (.int .u8 x) ∧ (convert 31 9 (.slice vA vn vc)).run Try.prog w' = .ok (.string rs) w') ∧ (convert 31 9 (.slice (some ⟨u, 0, none⟩) 256 256)).run Try.prog w' = .ok (.string rs) w') ∧ In w w' (star (DR bd 16384 [] s') (KV bw (.slice (some ⟨gf, 0, none⟩) 3 fc) V (wF F i))) from by
                        have h3 := HK.out _ h.2.drop.drop
                        exact ⟨_, h.1, ⟨⟨h3.1, h3.2, by rw [hrs]; exact h.2.right.right.left.get fun S h => conv8 h.1⟩, by rw [hrs]; exact h.2.right.left.get fun S h => conv8 h.1⟩, h.2.drop.drop⟩)
                      have CD3 := Lib.hid (fun (W : World) (vA : Option Addr) (vn vc : Nat) (h : In w W (star (DR bd 16384 [] s') (star (rowR 5 1 (.slice vA vn vc) vn (b8 (rp x))) (KV bw (.slice (some ⟨gf, 0, none⟩) 3 fc) V (wF F i))))) => show (convert 31 9 (.slice vA vn vc)).run Try.prog W = .ok (.string rs) W from by rw [hrs]; exact h.right.left.get fun S h => conv8 h.1)
                      have hj0 : (0 : Int) ≤ (j : Int) := by omega
                      have hjI : (j : Int) < (L : Int) := by omega
                      clear hx hrd hde hs' hro hrs HS HV
                      go_wp2_with (go_at_call 20; (with_reducible refine CR.out.mono ?_); rintro e w8 ⟨vA, vn, vc, rfl, ⟨m1, m2, m3⟩, V⟩; have V8 := Lib.hid V; have V9 := Lib.hid (in_drew V (star_good (DR_good _ _ _ _) (star_good (rowR_good _ _ _ _ _) (KV_good _ _ _ _)))); clear V CR)
                      have n1 : w8.drew.cell? ⟨bw, q, none⟩ = some (.slice (some ⟨g0, 0, none⟩) L c0) := m1
                      have n2 : w8.drew.cell? ⟨g0, j, none⟩ = some (.int .u8 x) := m2
                      have n3 : (convert 31 9 (.slice vA vn vc)).run Try.prog w8.drew = .ok (.string rs) w8.drew := CD3.out _ _ _ _ V9.out
                      clear CD3
                      have nS : (fun w' : World => w'.cell? ⟨bw, q, none⟩ = some (.slice (some ⟨g0, 0, none⟩) L c0) ∧ w'.cell? ⟨g0, j, none⟩ = some (.int .u8 x) ∧ (convert 31 9 (.slice vA vn vc)).run Try.prog w' = .ok (.string rs) w') w8.drew := ⟨n1, n2, n3⟩
                      refine wp_region_held (S := fun w' => w'.cell? ⟨bw, q, none⟩ = some (.slice (some ⟨g0, 0, none⟩) L c0) ∧ w'.cell? ⟨g0, j, none⟩ = some (.int .u8 x) ∧ (convert 31 9 (.slice vA vn vc)).run Try.prog w' = .ok (.string rs) w') (by kernel_rfl) ?_
                      change wpAnyH _ _ _ _ _ _ _ _ (World.drew w8)
                      refine wpAnyH_take (i := 0) (oi := { dst := some 142, op := .move (.tmp 20), type := _, pos := _, after := _, guard := none }) (v := .int .i64 0) rfl (by kernel_rfl) (by kernel_rfl) (by kernel_rfl) (fun _ _ _ h => h) (Or.inl ⟨by rfl, ?_⟩) nS ?_
                      · intro w hSw
                        try dsimp only at hSw
                        go_simp
                      try simp only [Act.put, List.setIfInBounds_toArray, List.set_cons_zero, List.set_cons_succ]
                      refine wpAnyH_take (i := 1) (oi := { dst := some 143, op := .binOp .neq 26 (.tmp 142) (.const (.int .i64 0)) 26, type := _, pos := _, after := _, guard := none }) (v := .bool false) rfl (by kernel_rfl) (by kernel_rfl) (by kernel_rfl) (fun _ _ _ h => h) (Or.inl ⟨by rfl, ?_⟩) nS ?_
                      · intro w hSw
                        try dsimp only at hSw
                        go_simp
                      try simp only [Act.put, List.setIfInBounds_toArray, List.set_cons_zero, List.set_cons_succ]
                      refine wpAnyH_take (i := 2) (oi := { dst := some 144, op := .move (.tmp 143), type := _, pos := _, after := _, guard := none }) (v := .bool false) rfl (by kernel_rfl) (by kernel_rfl) (by kernel_rfl) (fun _ _ _ h => h) (Or.inl ⟨by rfl, ?_⟩) nS ?_
                      · intro w hSw
                        try dsimp only at hSw
                        go_simp
                      try simp only [Act.put, List.setIfInBounds_toArray, List.set_cons_zero, List.set_cons_succ]
                      refine wpAnyH_take (i := 3) (oi := { dst := some 145, op := .move (.tmp 19), type := _, pos := _, after := _, guard := some (2, false) }) (v := .slice vA vn vc) rfl (by kernel_rfl) (by kernel_rfl) (by kernel_rfl) (fun _ _ _ h => h) (Or.inl ⟨by rfl, ?_⟩) nS ?_
                      · intro w hSw
                        try dsimp only at hSw
                        go_simp
                      try simp only [Act.put, List.setIfInBounds_toArray, List.set_cons_zero, List.set_cons_succ]
                      refine wpAnyH_take (i := 4) (oi := { dst := some 146, op := .convert 31 9 (.tmp 145), type := _, pos := _, after := _, guard := some (2, false) }) (v := .string rs) rfl (by kernel_rfl) (by kernel_rfl) (by kernel_rfl) (fun _ _ _ h => h) (Or.inl ⟨by rfl, ?_⟩) nS ?_
                      · intro w hSw
                        try dsimp only at hSw
                        go_simp
                      try simp only [Act.put, List.setIfInBounds_toArray, List.set_cons_zero, List.set_cons_succ]
                      refine wpAnyH_take (i := 5) (oi := { dst := some 147, op := .move (.tmp 15), type := _, pos := _, after := _, guard := some (2, false) }) (v := .int .i64 (q : Int)) rfl (by kernel_rfl) (by kernel_rfl) (by kernel_rfl) (fun _ _ _ h => h) (Or.inl ⟨by rfl, ?_⟩) nS ?_
                      · intro w hSw
                        try dsimp only at hSw
                        go_simp
                      try simp only [Act.put, List.setIfInBounds_toArray, List.set_cons_zero, List.set_cons_succ]
                      refine wpAnyH_take (i := 6) (oi := { dst := some 148, op := .indexAddr 39 (.tmp 11) (.tmp 147), type := _, pos := _, after := _, guard := some (2, false) }) (v := .pointer (some ⟨bw, q, none⟩)) rfl (by kernel_rfl) (by kernel_rfl) (by kernel_rfl) (fun _ _ _ h => h) (Or.inl ⟨by rfl, ?_⟩) nS ?_
                      · intro w hSw
                        try dsimp only at hSw
                        go_simp
                      try simp only [Act.put, List.setIfInBounds_toArray, List.set_cons_zero, List.set_cons_succ]
                      refine wpAnyH_take (i := 7) (oi := { dst := some 149, op := .load 31 (.tmp 148), type := _, pos := _, after := _, guard := some (2, false) }) (v := .slice (some ⟨g0, 0, none⟩) L c0) rfl (by kernel_rfl) (by kernel_rfl) (by kernel_rfl) (fun _ _ _ h => h) (Or.inl ⟨by rfl, ?_⟩) nS ?_
                      · intro w hSw
                        try dsimp only at hSw
                        go_simp
                      try simp only [Act.put, List.setIfInBounds_toArray, List.set_cons_zero, List.set_cons_succ]
                      refine wpAnyH_take (i := 8) (oi := { dst := some 150, op := .move (.tmp 18), type := _, pos := _, after := _, guard := some (2, false) }) (v := .int .i64 (j : Int)) rfl (by kernel_rfl) (by kernel_rfl) (by kernel_rfl) (fun _ _ _ h => h) (Or.inl ⟨by rfl, ?_⟩) nS ?_
                      · intro w hSw
                        try dsimp only at hSw
                        go_simp
                      try simp only [Act.put, List.setIfInBounds_toArray, List.set_cons_zero, List.set_cons_succ]
                      refine wpAnyH_take (i := 9) (oi := { dst := some 151, op := .indexAddr 31 (.tmp 149) (.tmp 150), type := _, pos := _, after := _, guard := some (2, false) }) (v := .pointer (some ⟨g0, j, none⟩)) rfl (by kernel_rfl) (by kernel_rfl) (by kernel_rfl) (fun _ _ _ h => h) (Or.inl ⟨by rfl, ?_⟩) nS ?_
                      · intro w hSw
                        try dsimp only at hSw
                        go_simp
                      try simp only [Act.put, List.setIfInBounds_toArray, List.set_cons_zero, List.set_cons_succ]
                      refine wpAnyH_take (i := 10) (oi := { dst := some 152, op := .load 5 (.tmp 151), type := _, pos := _, after := _, guard := some (2, false) }) (v := .int .u8 x) rfl (by kernel_rfl) (by kernel_rfl) (by kernel_rfl) (fun _ _ _ h => h) (Or.inl ⟨by rfl, ?_⟩) nS ?_
                      · intro w hSw
                        try dsimp only at hSw
                        go_simp
                      try simp only [Act.put, List.setIfInBounds_toArray, List.set_cons_zero, List.set_cons_succ]
                      go_simp
                      refine wpAnyH_all (rs := [11]) (by kernel_rfl) (by simp) (fun y hy => ?_)
                      obtain rfl := List.mem_singleton.1 hy
                      clear hy
                      refine wpOp_step (o := { dst := some 153, op := .call { callee := .value (.func 17), args := #[.tmp 152], argTypes := #[5 ] }, type := _, pos := _, after := _, guard := some (2, false) }) (by simp; exact ⟨rfl, rfl, rfl⟩) (fun K hK => ?_)
                      go_simp
                      go_at_call 17
                      (with_reducible refine (CP.out _ vA vn vc V9.out).mono ?_)
                      rintro e w9 ⟨ux, rfl, ⟨⟨p1, p2, p3⟩, p4⟩, V⟩
                      have V10 := Lib.hid V
                      clear V
                      refine hK _ _ ⟨⟨p1, p2, p3⟩, ?_⟩
                      clear hK K
                      go_simp
                      refine wpAnyH_all (rs := [12]) (by kernel_rfl) (by simp) (fun y hy => ?_)
                      obtain rfl := List.mem_singleton.1 hy
                      clear hy
                      refine wpOp_step (o := { dst := some 154, op := .convert 31 9 (.tmp 153), type := _, pos := _, after := _, guard := some (2, false) }) (by simp; exact ⟨rfl, rfl, rfl⟩) (fun K hK => ?_)
                      go_simp
                      refine hK _ _ ⟨⟨p1, p2, p3⟩, ?_⟩
                      clear hK K
                      go_simp
                      refine wpAnyH_take (i := 13) (oi := { dst := some 155, op := .binOp .neq 9 (.tmp 146) (.tmp 154) 9, type := _, pos := _, after := _, guard := some (2, false) }) (v := .bool false) rfl (by kernel_rfl) (by kernel_rfl) (by kernel_rfl) (fun _ _ _ h => h) (Or.inl ⟨by rfl, ?_⟩) ⟨p1, p2, p3⟩ ?_
                      · intro w hSw
                        try dsimp only at hSw
                        go_simp
                      try simp only [Act.put, List.setIfInBounds_toArray, List.set_cons_zero, List.set_cons_succ]
                      refine wpAnyH_take (i := 14) (oi := { dst := some 156, op := .pick (.tmp 144) (.const (.bool true)) (.tmp 155), type := _, pos := _, after := _, guard := none }) (v := .bool false) rfl (by kernel_rfl) (by kernel_rfl) (by kernel_rfl) (fun _ _ _ h => h) (Or.inl ⟨by rfl, ?_⟩) ⟨p1, p2, p3⟩ ?_
                      · intro w hSw
                        try dsimp only at hSw
                        go_simp
                      try simp only [Act.put, List.setIfInBounds_toArray, List.set_cons_zero, List.set_cons_succ]
                      refine wpAnyH_done (by kernel_rfl) ?_ _
                      clear nS n1 n2 n3 m1 m2 m3
                      go_wp2
                      go_roundw
                      case measure => simp [intOf]; omega
                      case rel => exact ⟨j + 1, s', by omega, by go_num, Lib.hid (HS'.out.mono (by omega)), V10⟩
                    · obtain rfl : j = L := by omega
                      go_wp2
                      go_roundw
                      case measure => simp [intOf]; omega
                      case rel => exact ⟨q + 1, s, by omega, by go_num, Lib.hid (HS.out.mono (by omega)), HV⟩
              · obtain rfl : q = 3 := by omega
                obtain ⟨A0, c0, e0⟩ := own_slice (KV_row hg HV.out)
                have hL0 := wB_len F (g : Int) i
                obtain ⟨L, hL⟩ : ∃ L, L = (wF F i g).length := ⟨_, rfl⟩
                have hLi : L ≤ i := by rw [hL]; exact hL0
                rw [← hL] at e0
                have kc := KV_cell hg HV.out
                rw [e0] at kc
                have hus := HS.out.used
                rw [HF.out, ← hL] at hus
                have hpk := HS.out.peak
                rw [HF.out] at hpk
                have CM := Lib.hid (fun W (b : Below wr.heap.size wr W) => (v_meter (R := 16384) (F := []) (s := s) (KV_good bw (.slice (some ⟨gf, 0, none⟩) 3 fc) V (wF F i)) (HV.out.below (star_good (DR_good _ _ _ _) (KV_good _ _ _ _)) b)).mono fun (e : Ending) (w' : World) h => show e = .returned (.agg #[.int .i64 s.reads, .int .i64 s.writes, .int .i64 ((i : Int) - (L : Int)), .int .i64 (i : Int)]) ∧ w'.cell? ⟨bw, g, none⟩ = some (.slice A0 L c0) ∧ Below wr.heap.size wr w' from ⟨by rw [h.1]; unfold mtr; rw [hus, hpk], (KV_cell hg h.2.2).trans (by rw [e0]), b.trans (h.2.1.mono b.size)⟩)
                have hsub : IntKind.i64.wrap ((i : Int) - (L : Int)) = (i : Int) - (L : Int) := IntWalk.i64_in _ (by omega)
                have fu := fieldUsed s.reads s.writes ((i : Int) - (L : Int)) (i : Int)
                have fp := fieldPeak s.reads s.writes ((i : Int) - (L : Int)) (i : Int)
                obtain ⟨ra, hra⟩ : ∃ ra, ra = s.reads := ⟨_, rfl⟩
                obtain ⟨rb, hrb⟩ : ∃ rb, rb = s.writes := ⟨_, rfl⟩
                rw [← hra, ← hrb] at fu fp
                simp only [← hra, ← hrb] at CM
                have kd : wr.drew.cell? ⟨bw, g, none⟩ = some (.slice A0 L c0) := kc
                have b0 : Below wr.heap.size wr wr.drew := ⟨rfl, rfl, rfl, Nat.le_refl _, fun _ _ => rfl⟩
                have VB := Lib.hid HV.out.bel
                clear hus hpk hL e0 hL0 hra hrb HV HS
                go_wp2
                go_region_held3 (fun w' => w'.cell? ⟨bw, g, none⟩ = some (.slice A0 L c0) ∧ Below wr.heap.size wr w') (first | (refine ⟨?_, ?_⟩ <;> assumption) | go_keep)
                  (first | (go_at_call 21; (with_reducible refine (CM.out _ (by assumption)).mono ?_); rintro e w9 ⟨rfl, k9, b9⟩))
                all_goals
                  go_wp2
                  go_ret
                  exact ⟨by trivial, VB.out.trans ((by assumption : Below wr.heap.size wr _).mono VB.out.size)⟩
end Go.Proofs.Ytagknfjgokiidaa
