/- the document's Split. -/
import Derived.Test.YtlldkdhpilcilaaSplit2
namespace Go.Proofs.Ytlldkdhpilcilaa
open Go.RowKit

theorem refsplit_arg (w : World) (seed level fan : Int) (v c : Value) (h : ¬ (0 ≤ level ∧ level ≤ 8 ∧ 1 ≤ fan ∧ fan ≤ 64)) :
    Calls Try.prog 24 #[.int .u64 seed, .int .i64 level, .int .i64 fan, v, c] w fun e w' => e = .returned (.tuple #[.slice none 0 0, .int .i64 1]) ∧ w' = w := by
  have HM := Lib.hid (refmay_no w level fan h)
  clear h
  go_enter Try.func24, Try.ntmps24
  go_wp2_with (go_at_call 20; refine HM.out.mono ?_; rintro e w1 ⟨rfl, rfl⟩)
  go_ret2
  exact ⟨rfl, rfl⟩
set_option maxHeartbeats 1600000 in
theorem refsplit_walk {w : World} {A C : Option Addr} {n c m cc F : Nat} {hds : List Value} {rows : List (List V)} (seed level : Int) (cs : List Int) (hl : RdL w A n hds rows) (hc : Rd1 w C m (i64s cs))
    (h1 : 0 ≤ level) (h2 : level ≤ 8) (h3 : 1 ≤ F) (h4 : F ≤ 64) (hn : n ≤ 100000) (hm : m ≤ 100000) :
    Calls Try.prog 24 #[.int .u64 seed, .int .i64 level, .int .i64 F, .slice A n c, .slice C m cc] w (SPost w F (firstE cs rows) (partsOf F (hds.zip (numsOf seed level F cs rows)))) := by
  have HM := Lib.hid (refmay_yes w level F h1 h2 (by omega) (by omega))
  obtain ⟨E, hE⟩ : ∃ E, E = firstE cs rows := ⟨_, rfl⟩
  obtain ⟨ps, hps⟩ : ∃ ps, ps = partsOf F (hds.zip (numsOf seed level F cs rows)) := ⟨_, rfl⟩
  rw [← hE, ← hps]
  have HE := Lib.hid hE
  have HP := Lib.hid hps
  clear hE hps
  go_enter Try.func24, Try.ntmps24
  go_wp2_with (first
    | (go_at_call 20; refine HM.out.mono ?_; rintro e w1 ⟨rfl, hw⟩; obtain rfl := hw.symm; clear hw)
    | (at_make; refine wp_makeN rfl (.tmp 21) 41 38 (.slice none 0 0) 24 rfl Try.underlying41 info_LL rfl F rfl (by omega) (by omega) ?_))
  have ob : Outs (w.alloc (.cells (List.replicate F (Value.slice none 0 0)).toArray 38)) w.heap.size w.heap.size (List.replicate F (Value.slice none 0 0)) (partsOf F []) := by
    refine ⟨Nat.le_refl _, heap_alloc_new w _, by simp [partsOf], ?_, ?_⟩
    · intro i h p hh hp
      have a := List.eq_of_mem_replicate (List.mem_of_getElem? hh)
      have b := List.eq_of_mem_replicate (List.mem_of_getElem? hp)
      subst a; subst b
      exact World.ownsRow_nil _ _ _ _
    · intro i j h h' k hh _ hk _
      have a := List.eq_of_mem_replicate (List.mem_of_getElem? hh)
      subst a
      cases hk
  have b1 : Below w.heap.size w (w.alloc (.cells (List.replicate F (Value.slice none 0 0)).toArray 38)) := (Below.refl _ _).alloc (Nat.le_refl _) _
  go_loopw [13] (fun i wr => ∃ k : Nat, k ≤ n ∧ i = .int .i64 k ∧ firstE cs (rows.drop k) = E ∧ Below w.heap.size w wr ∧ ∃ hs, hs.length = F ∧ Outs wr w.heap.size w.heap.size hs (partsOf F ((hds.zip (numsOf seed level F cs rows)).take k))) (fun i _ => n - (intOf i).toNat)
  case atStart => exact ⟨0, by omega, rfl, HE.out.symm, b1, _, by simp, ob⟩
  case round =>
    clear ob b1
    obtain ⟨k, hk, rfl, hfe, bel, hs, hsl, O⟩ := hrel
    by_cases hlk : k < n
    · obtain ⟨ad, B, rm, rc, r, rfl, had, hrk, hdk, hcell, hrv⟩ := (hl.below bel).at_ hlk
      have hc' := hc.below bel
      have hfd := firstE_drop (cs := cs) hrk
      have HS := parts_snoc (F := F) (seed := seed) (level := level) (fan := F) (cs := cs) hdk hrk
      have hcl : cs.length = m := by simpa using hc.1
      clear hdk hrk hl hc
      by_cases hpk : pickOk r cs = true ∧ m ≤ 32
      · have HPK := refpick_ok (c := rc) (cc := cc) r cs hrv hc' hpk.1 hm
        rw [decide_eq_true hpk.2] at HPK
        have HPK := Lib.hid HPK
        cases hro : rowOk (pickR r cs) with
        | true =>
          have hre : rowE cs r = 0 := by simp [rowE, hpk.1, hcl, hpk.2, hro]
          rw [if_pos hre, hfe] at hfd
          have hpr := part_range seed level F (pickR r cs) (by omega) (by omega)
          obtain ⟨pn, hpn⟩ : ∃ pn : Nat, partN seed level F (pickR r cs) = pn := ⟨_, (Int.toNat_of_nonneg hpr.1).symm⟩
          rw [hpn] at hpr
          rw [hpn, Int.toNat_natCast] at HS
          have hpF : pn < F := Int.ofNat_lt.mp hpr.2
          clear hpr
          obtain ⟨PS, hPS⟩ : ∃ PS, PS = partsOf F ((hds.zip (numsOf seed level F cs rows)).take k) := ⟨_, rfl⟩
          have hle : ∀ p ∈ PS, p.length ≤ 100000 := by
            intro p hp
            rw [hPS] at hp
            have := partsOf_le F _ p hp
            rw [List.length_take] at this
            omega
          rw [← hPS] at HS O
          have HSH := Lib.hid HS
          obtain ⟨h0, hh0⟩ : ∃ h0, hs[pn]? = some h0 := ⟨_, List.getElem?_eq_getElem (by omega)⟩
          obtain ⟨p0, hp0⟩ : ∃ p0, PS[pn]? = some p0 := ⟨_, List.getElem?_eq_getElem (by have := O.len; omega)⟩
          have hp0l := hle p0 (List.mem_of_getElem? hp0)
          obtain ⟨A3, c3, rfl⟩ := own_slice (O.own pn h0 p0 hh0 hp0)
          have HCH := Lib.hid (fun (W : World) A' n' c' (h : RdV W A' n' (pickR r cs)) => hro ▸ rcheckRef (c := c') (pickR r cs) h)
          have HPA := Lib.hid (fun (W : World) A' n' c' (h : RdV W A' n' (pickR r cs)) => hpn ▸ refpart_ok (c := c') seed level F (pickR r cs) h hro h1 h2 (by omega) (by omega))
          have HST := Lib.hid (pickR_str hrv.str cs)
          have HO := Lib.hid O
          have HH := Lib.hid (And.intro hh0 hp0)
          have HFD := Lib.hid hfd
          have szr := bel.size
          have ha : hs.toArray[pn]? = some (Value.slice A3 p0.length c3) := by simpa using hh0
          have HA := Lib.hid ha
          clear hfd hre hro hpk hrv hc' hfe HS hPS hle hh0 hp0 O hpn ha
          go_wp2_with (first
            | (go_at_call 26; refine HPK.out.mono ?_; rintro e w2 ⟨v2, rfl, o2, b2⟩; obtain ⟨A2, c2, rfl⟩ := own_slice o2; have HRV := Lib.hid (RdV.of_own o2 HST.out).2; have HP2 := Lib.hid (fun W A' n' => HPA.out W A' n' c2); have HCK := Lib.hid (HCH.out _ _ _ c2 HRV.out))
            | (go_at_call 17; refine HCK.out.mono ?_; rintro e wq ⟨rfl, bq⟩; have b2q := b2.trans (bq.mono b2.size))
            | (go_at_call 21; refine (HP2.out _ _ _ (HRV.out.below bq)).mono ?_; rintro e w3 ⟨rfl, b3⟩; have b23 := b2q.trans (b3.mono b2q.size)))
          have bd := b23.trans (below_drew (Below.refl wr.heap.size w3))
          have O3 := HO.out.below bd
          have o3 := O3.own pn _ _ HH.out.1 HH.out.2
          have cg := (cell_of_blk O3.blk pn).trans HA.out
          have hcell3 := cell_belowv hcell bd (by rw [add_block]; omega)
          have O3a := O3.alloc (.cells #[.slice B rm rc] 24)
          have cga := (cell_of_blk O3a.blk pn).trans HA.out
          have hcell3a : (w3.drew.alloc (.cells #[.slice B rm rc] 24)).cell? (ad.add k) = some (.slice B rm rc) := (World.cell?_alloc_lt _ _ _ (World.block_lt_of_cell? _ _ hcell3)).trans hcell3
          have cgb : (w3.alloc (.cells #[.slice B rm rc] 24)).cell? ⟨w.heap.size, pn, none⟩ = some (.slice A3 p0.length c3) := cga
          have hcell3b : (w3.alloc (.cells #[.slice B rm rc] 24)).cell? (ad.add k) = some (.slice B rm rc) := hcell3a
          have cgc : w3.cell? ⟨w.heap.size, pn, none⟩ = some (.slice A3 p0.length c3) := cg
          have hcell3c : w3.cell? (ad.add k) = some (.slice B rm rc) := hcell3
          have szw : w.heap.size ≤ w3.drew.heap.size := by have := b23.size; show w.heap.size ≤ w3.heap.size; omega
          have HO3 := Lib.hid O3
          clear O3 O3a
          go_region_law (first
            | (refine step_of_wp rfl (show Oper.wp _ _ _ (w3.drew.alloc (.cells #[.slice B rm rc] 24)) _ _ from op_append1 (W := w3.drew) w.heap.size (.tmp 53) (.tmp 58) 38 24 (.slice none 0 0) 1 24 rfl Try.underlying38 info_L rfl (by omega) (by omega) (.slice A3 p0.length c3) p0.length p0 [.slice B rm rc] rfl rfl (by simp) rfl (by simp [Value.oneCell']) o3 szw (by omega) ?_); intro v1 w4 h1 t1 hor; have b4 := t1.heap HO3.out.blk (fun e => own_ne_typed o3 HO3.out.blk (by decide) _ e rfl); have f4 := free_of_blk b4 pn; have c4 := (cell_of_blk b4 pn).trans HA.out; clear b4; obtain ⟨A5, c5, rfl⟩ := own_slice h1))
          all_goals
            have O4 := HO3.out.put (p' := p0 ++ [.slice B rm rc]) HH.out.1 HH.out.2 (by simpa using h1) t1 hor
            have e4 : PS.set pn (p0 ++ [Value.slice B rm rc]) = putP PS (Value.slice B rm rc, pn) := by
              unfold putP
              rw [List.getD_eq_getElem?_getD, HH.out.2]
              rfl
            rw [e4, ← HSH.out] at O4
            have B4 := below_turn (bel.trans (bd.mono szr)) t1 szw (fun k hk => own_ge o3 hk)
            have B5 := B4.trans (((Turn.refl (fun k => k = w.heap.size) w4).setCell (p := ⟨w.heap.size, pn, none⟩) (.inl rfl) (.slice A5 (p0.length + 1) c5)).below (B := w.heap.size) B4.size (by simp))
            have hsl4 : (hs.set pn (Value.slice A5 (p0.length + 1) c5)).length = F := by simpa using hsl
            go_wp2
            go_roundw
          all_goals first
            | exact ⟨k + 1, by omega, by go_num, HFD.out.symm, B5, _, hsl4, O4⟩
            | (simp [intOf]; omega)
        | false =>
          have hre : rowE cs r = 20 := by simp [rowE, hpk.1, hcl, hpk.2, hro]
          rw [if_neg (by rw [hre]; decide), hfe, hre] at hfd
          have HF := Lib.hid hfd
          have HCH := Lib.hid (fun (W : World) A' n' c' (h : RdV W A' n' (pickR r cs)) => hro ▸ rcheckRef (c := c') (pickR r cs) h)
          have HST := Lib.hid (pickR_str hrv.str cs)
          clear hfd hre hro hpk hrv hc' hfe
          go_wp2_with (first
            | (go_at_call 26; refine HPK.out.mono ?_; rintro e w2 ⟨v2, rfl, o2, b2⟩; obtain ⟨A2, c2, rfl⟩ := own_slice o2; have HCK := Lib.hid (HCH.out _ _ _ c2 (RdV.of_own o2 HST.out).2))
            | (go_at_call 17; refine HCK.out.mono ?_; rintro e w3 ⟨rfl, b3⟩))
          go_ret2
          refine .inr ⟨by rw [HF.out]; decide, by rw [HF.out]; rfl, bel.trans ((b2.trans (b3.mono b2.size)).mono bel.size)⟩
      · have hre : rowE cs r = 1 := by
          simp only [rowE, Bool.and_eq_true, decide_eq_true_eq, hcl]
          rw [if_neg hpk]
        rw [if_neg (by rw [hre]; decide), hfe, hre] at hfd
        have HF := Lib.hid hfd
        clear hre
        cases hpo : pickOk r cs with
        | false =>
          have HPK := Lib.hid (refpick_bad (c := rc) (cc := cc) r cs hrv hc' hpo hm)
          clear hfd hpk hrv hc' hfe hpo
          go_wp2_with (go_at_call 26; refine HPK.out.mono ?_; rintro e w2 ⟨rfl, b2⟩)
          go_ret2
          refine .inr ⟨by rw [HF.out]; decide, by rw [HF.out]; rfl, bel.trans (b2.mono bel.size)⟩
        | true =>
          have HPK := refpick_ok (c := rc) (cc := cc) r cs hrv hc' hpo hm
          rw [decide_eq_false (fun h => hpk ⟨hpo, h⟩)] at HPK
          have HPK := Lib.hid HPK
          clear hfd hpk hrv hc' hfe hpo
          go_wp2_with (go_at_call 26; refine HPK.out.mono ?_; rintro e w2 ⟨v2, rfl, _, b2⟩)
          go_ret2
          refine .inr ⟨by rw [HF.out]; decide, by rw [HF.out]; rfl, bel.trans (b2.mono bel.size)⟩
    · obtain rfl : k = n := by omega
      have HF := Lib.hid hfe
      have HO := Lib.hid O
      have hll := hl.len
      have hlh := hl.hd.1
      clear hl hc hfe O
      go_wp2
      go_ret2
      refine .inl ⟨?_, w.heap.size, hs, rfl, ?_, bel⟩
      · rw [← HF.out, List.drop_eq_nil_of_le (by omega)]; rfl
      · have := HO.out
        rw [List.take_of_length_le (by simp [numsOf]; omega), ← HP.out] at this
        exact this
end Go.Proofs.Ytlldkdhpilcilaa
