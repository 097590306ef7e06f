/- the disk's laws: alike. -/
import Derived.Test.YtagknfjgokiidaaDD
namespace Go.Proofs.Ytagknfjgokiidaa
open Go.RowKit Go.Maps
set_option linter.unusedVariables false
set_option linter.unusedSimpArgs false
set_option maxRecDepth 6000

theorem Rsk.at_b {w w' : World} {bx : Nat} {FV LV : Value} {P : Int → Value} {Hd : Int → List Value} {R : Int} {F : List Int} {s : Ds} (H : Rsk w bx FV LV P Hd R F s) (hb : Below w.heap.size w w') {i : Nat} {x : Int × List Pg} (h : s.fs[i]? = some x) :
    ∃ g c A c2, LV = .slice (some ⟨g, 0, none⟩) s.fs.length c ∧ w'.cell? ⟨g, i * 2, none⟩ = some (.int .i64 x.1) ∧ w'.cell? ⟨g, i * 2 + 1, none⟩ = some (.slice A x.2.length c2) := by
  obtain ⟨g, c, e, hg, h1, h2, _⟩ := H.at_ h
  obtain ⟨A, c2, e2⟩ := own_slice (H.prow x (List.mem_of_getElem? h))
  rw [e2] at h2
  exact ⟨g, c, A, c2, e, (hb.cell (p := ⟨g, i * 2, none⟩) hg).trans h1, (hb.cell (p := ⟨g, i * 2 + 1, none⟩) hg).trans h2⟩
set_option maxHeartbeats 4000000 in
theorem alike_walk {w0 w : World} {Fr : Res} {bd bx : Nat} {R : Int} {F : List Int} {s : Ds} (g : Good Fr) (H : In w0 w (star (DR bd R F s) (star (XR bx R F s) Fr))) (K : DOk R s) (hmd : s.made ≤ 1000000) {n : Int} (hn : (Lit.int .i64 n).wf = true) :
    Calls Try.prog 14 #[dp bd, dp bx, .int .i64 n] w fun e w' => e = .returned (.bool true) ∧ In w0 w' (star (DR bd R F s) (star (XR bx R F s) Fr)) := by
  have gX : Good (star (XR bx R F s) Fr) := star_good (XR_good _ _ _ _) g
  have C1 := Lib.hid (v_files gX H K)
  have HK := Lib.hid K
  have HG := Lib.hid gX
  have hlen := K.len
  obtain ⟨m, hm⟩ : ∃ m, m = s.fs.length := ⟨_, rfl⟩
  rw [← hm] at C1 hlen
  have HM := Lib.hid hm
  clear H K gX hm
  go_enter Try.func14, Try.ntmps14
  go_wp2_with (go_at_call 23; (with_reducible refine C1.out.mono ?_); rintro e w1 ⟨A, c, rfl, V⟩; have V1 := Lib.hid V; clear V C1)
  obtain ⟨FV, LV, P, Hd, hR⟩ : ∃ FV LV P Hd, Rsk w1 bx FV LV P Hd R F s := V1.out.right.right.left.get fun S ⟨FV, LV, P, Hd, h, _⟩ => ⟨FV, LV, P, Hd, h⟩
  have hrow := V1.out.right.left.get fun S h => h.1
  have HRow := Lib.hid hrow
  have HR := Lib.hid hR
  have V2 := Lib.hid V1.out.drop
  obtain ⟨c0, c1, c2, c3, c4, c5, c6, c7, c8, hb⟩ := hR.cells
  obtain ⟨LA, Lc, eL⟩ := own_slice hR.lst
  subst eL
  rw [← HM.out] at c2
  clear hR hrow V1 c0 c1 c3
  have CM := Lib.hid (fun W (b : Below w1.heap.size w1 W) => (v_meter (R := R) (F := F) (s := s) HG.out (V2.out.below (star_good (DR_good _ _ _ _) HG.out) b)).mono fun (e : Ending) (w' : World) h => show e = .returned (.agg #[.int .i64 s.reads, .int .i64 s.writes, .int .i64 s.used, .int .i64 s.peak]) ∧ Below w1.heap.size w1 w' from ⟨h.1, b.trans (h.2.1.mono b.size)⟩)
  have CD := Lib.hid (fun W (b : Below w1.heap.size w1 W) => (v_deeds (R := R) (F := F) (s := s) HG.out (V2.out.below (star_good (DR_good _ _ _ _) HG.out) b)).mono fun (e : Ending) (w' : World) h => show e = .returned (.int .i64 s.deeds) ∧ w' = W from h)
  have hbb : ∀ j, (⟨bx, j, none⟩ : Addr).block < w1.heap.size := fun _ => hb
  have b0 : Below w1.heap.size w1 w1.drew := ⟨rfl, rfl, rfl, Nat.le_refl _, fun _ _ => rfl⟩
  go_region_held3 (fun w' => (w'.cell? ⟨bx, 2, none⟩ = some (.slice LA m Lc) ∧ w'.cell? ⟨bx, 4, none⟩ = some (.int .i64 s.deeds) ∧ w'.cell? ⟨bx, 5, none⟩ = some (.int .i64 s.reads) ∧ w'.cell? ⟨bx, 6, none⟩ = some (.int .i64 s.writes) ∧ w'.cell? ⟨bx, 7, none⟩ = some (.int .i64 s.used) ∧ w'.cell? ⟨bx, 8, none⟩ = some (.int .i64 s.peak)) ∧ Below w1.heap.size w1 w') (first | (refine ⟨⟨?_, ?_, ?_, ?_, ?_, ?_⟩, ?_⟩ <;> assumption) | go_keep)
    (first
      | (go_at_call 21; (with_reducible refine (CM.out _ (by assumption)).mono ?_); rintro e w2 ⟨rfl, b2⟩; have d2 := (b2.cell (p := ⟨bx, 2, none⟩) hb).trans c2; have d4 := (b2.cell (p := ⟨bx, 4, none⟩) hb).trans c4; have d5 := (b2.cell (p := ⟨bx, 5, none⟩) hb).trans c5; have d6 := (b2.cell (p := ⟨bx, 6, none⟩) hb).trans c6; have d7 := (b2.cell (p := ⟨bx, 7, none⟩) hb).trans c7; have d8 := (b2.cell (p := ⟨bx, 8, none⟩) hb).trans c8)
      | (go_at_call 22; (with_reducible refine (CD.out _ (by assumption)).mono ?_); rintro e w3 ⟨rfl, hw⟩; obtain rfl := hw.symm; clear hw))
  have HB2 := Lib.hid b2
  clear d2 d4 d5 d6 d7 d8 b2 b0 c2 c4 c5 c6 c7 c8 CM CD hbb
  go_wp2
  go_loopw [8] (fun y wr => ∃ (i : Nat), i ≤ m ∧ y = .int .i64 (i : Int) ∧ Hid (Below w1.heap.size w1 wr)) (fun y _ => m - (intOf y).toNat)
  case atStart => exact ⟨0, by omega, rfl, HB2⟩
  case round =>
    obtain ⟨i, hi, rfl, HB⟩ := hrel
    have VR := Lib.hid (V2.out.below (star_good (DR_good _ _ _ _) HG.out) HB.out)
    by_cases hlt : i < m
    · obtain ⟨x, hx⟩ : ∃ x, s.fs[i]? = some x := ⟨_, List.getElem?_eq_getElem (by rw [← HM.out]; exact hlt)⟩
      have hnum := HK.out.num x (List.mem_of_getElem? hx)
      have hfind := Ds.find_of_mem HK.out.ord (List.mem_of_getElem? hx)
      have hwx : (Lit.int .i64 x.1).wf = true := WalkArith.wf_i64 (by omega)
      have CS := v_size (R := R) (F := F) (s := s) HG.out VR.out hwx
      rw [hfind] at CS
      obtain ⟨g1, rfl, hg1, hc1⟩ := own_at1 HRow.out (j := i) (u := .int .i64 x.1) (by rw [List.getElem?_map, hx]; rfl)
      have k1 := (HB.out.cell (p := ⟨g1, i, none⟩) hg1).trans hc1
      obtain ⟨g2, c2', A2, c2'', e2, k2, k3⟩ := HR.out.at_b HB.out hx
      injection e2 with e2 _ e3
      subst e2
      subst e3
      have k4 := (HB.out.cell (p := ⟨bx, 2, none⟩) hb).trans (show w1.cell? ⟨bx, 2, none⟩ = some (.slice (some ⟨g2, 0, none⟩) m Lc) from by rw [HM.out]; exact HR.out.cells.2.2.1)
      obtain ⟨xn, xl⟩ := x
      dsimp only at k1 k2 k3 CS
      obtain ⟨q, hq⟩ : ∃ q, q = xl.length := ⟨_, rfl⟩
      rw [← hq] at k3
      simp only [Option.elim, Option.isSome_some, if_true, ← hq] at CS
      have CS := Lib.hid CS
      clear hx hfind hnum hwx hc1 hq
      go_wp2_with (go_at_call 19; (with_reducible refine CS.out.mono ?_); rintro e w3 ⟨rfl, hw⟩; obtain rfl := hw.symm; clear hw CS)
      go_quiet (fail)
      go_wp2
      have BD : Hid (Below w1.heap.size w1 (wr.drewN nq)) := HB.out.trans ((⟨rfl, rfl, rfl, Nat.le_refl _, fun _ _ => rfl⟩ : Below wr.heap.size wr (wr.drewN nq)).mono HB.out.size)
      go_roundw
      case measure => simp [intOf]; omega
      case rel => exact ⟨i + 1, by omega, by go_num, BD⟩
    · obtain rfl : i = m := by omega
      have CA := fun W (h : In w0 W (star (DR bd R F s) (star (XR bx R F s) Fr))) => y_at h.swap HK.out n
      have CS := v_size (R := R) (F := F) (s := s) HG.out VR.out hn
      cases hf : s.find n with
      | none =>
        rw [hf] at CS
        rw [Ds.at_none hf] at CA
        have CS := Lib.hid (show Calls Try.prog 19 #[dp bd, .int .i64 n] wr fun e w' => e = .returned (.tuple #[.int .i64 0, .int .i64 4]) ∧ w' = wr from CS)
        have CA := Lib.hid CA
        clear hf
        go_wp2_with (first
          | (go_at_call 19; (with_reducible refine CS.out.mono ?_); rintro e w3 ⟨rfl, hw⟩; obtain rfl := hw.symm; clear hw CS)
          | (go_at_call 41; (with_reducible refine (CA.out _ VR.out).mono ?_); rintro e w3 ⟨rfl, hw⟩; obtain rfl := hw.symm; clear hw CA))
        go_ret
        exact ⟨by trivial, VR.out⟩
      | some l =>
        rw [hf] at CS
        obtain ⟨j, hj, _⟩ := Ds.at_some hf
        rw [hj] at CA
        obtain ⟨q, hq⟩ : ∃ q, q = l.length := ⟨_, rfl⟩
        have CS := Lib.hid (show Calls Try.prog 19 #[dp bd, .int .i64 n] wr fun e w' => e = .returned (.tuple #[.int .i64 (q : Int), .int .i64 0]) ∧ w' = wr from by rw [hq]; exact CS)
        have CA := Lib.hid CA
        have hj2 : decide ((j : Int) ≥ 0) = true := by simp
        clear hf hj hq
        go_wp2_with (first
          | (go_at_call 19; (with_reducible refine CS.out.mono ?_); rintro e w3 ⟨rfl, hw⟩; obtain rfl := hw.symm; clear hw CS)
          | (go_at_call 41; (with_reducible refine (CA.out _ VR.out).mono ?_); rintro e w3 ⟨rfl, hw⟩; obtain rfl := hw.symm; clear hw CA))
        go_ret
        exact ⟨by trivial, VR.out⟩
end Go.Proofs.Ytagknfjgokiidaa
