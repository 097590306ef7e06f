/- hash.Split. -/
import Derived.Test.YtlldkdhpilcilaaSplit
namespace Go.Proofs.Ytlldkdhpilcilaa
open Go.RowKit

theorem madeCells_one (z : Value) (n : Nat) : madeCells #[z] n = (List.replicate n z).toArray := by
  apply Array.ext
  · simp [madeCells]
  · intro i h1 h2
    simp [madeCells, Nat.mod_one]
theorem wp_makeN {P : Program} {W : World} {ops : Array Oper} {rest : List Oper} {o : Oper} {a : Act} {Q : Exit → Act → World → Prop} (hg : o.guard = none) (l : Operand) (t e : TypeId) (z : Value) (bytes : Nat) (hop : o.op = Op.makeSlice t l l)
    (ht : P.underlying t = some (.slice e)) (hinfo : (P.info? e).map (fun i => (i.zero, i.size, i.bytes)) = some (some z, 1, bytes)) (hz : z.cells = #[z]) (F : Nat) (hl : a.eval l = .int .i64 (F : Int)) (hF : bytes * F ≤ 281474976710656) (hF2 : F ≤ 281474976710656)
    (hK : wpList P ops Q rest (a.put o.dst (.slice (some ⟨W.heap.size, 0, none⟩) F F)) (W.alloc (.cells (List.replicate F z).toArray e))) : wpList P ops Q (o :: rest) a W := by
  obtain ⟨i, hi, hz0, hz1, hz2⟩ := info_parts hinfo
  refine wpList_plain hg fun K hK' => ?_
  have hb : (i.bytes : Int) * (F : Int) ≤ 281474976710656 := by
    rw [hz2]
    have h : ((bytes * F : Nat) : Int) ≤ 281474976710656 := by omega
    rwa [Int.natCast_mul] at h
  have hrun := run_make (P := P) W t e i z ht hi hz0 .i64 .i64 (F : Int) (F : Int) (by omega) (Int.le_refl _) hb (by omega)
  rw [hz1, hz, Int.toNat_natCast, Nat.mul_one, madeCells_one] at hrun
  unfold Oper.wp execOp
  simp only [hop, hl, hrun, Sem.run_bind, Sem.run_pure, Result.andThen_ok]
  exact hK' _ _ hK
theorem info_LL : (Try.prog.info? 38).map (fun i => (i.zero, i.size, i.bytes)) = some (some (.slice none 0 0), 1, 24) := by kernel_rfl
theorem info_L : (Try.prog.info? 24).map (fun i => (i.zero, i.size, i.bytes)) = some (some (.slice none 0 0), 1, 24) := by kernel_rfl
theorem split_arg (w : World) (seed level fan : Int) (v c : Value) (h : ¬ (0 ≤ level ∧ level ≤ 8 ∧ 1 ≤ fan ∧ fan ≤ 64)) :
    Calls Try.prog 23 #[.int .u64 seed, .int .i64 level, .int .i64 fan, v, c] w fun e w' => e = .returned (.tuple #[.slice none 0 0, .int .i64 1]) ∧ w' = w := by
  have HM := Lib.hid (may_no w level fan h)
  clear h
  go_enter Try.func23, Try.ntmps23
  go_wp2_with (go_at_call 52; refine HM.out.mono ?_; rintro e w1 ⟨rfl, rfl⟩)
  go_ret2
  exact ⟨rfl, rfl⟩

theorem firstE_drop {cs : List Int} {rows : List (List V)} {k : Nat} {r : List V} (h : rows[k]? = some r) : firstE cs (rows.drop k) = if rowE cs r = 0 then firstE cs (rows.drop (k + 1)) else rowE cs r := by
  obtain ⟨hl, e⟩ := List.getElem?_eq_some_iff.1 h
  rw [List.drop_eq_getElem_cons hl, e]
  rfl
theorem parts_snoc {F : Nat} {seed level fan : Int} {cs : List Int} {hds : List Value} {rows : List (List V)} {k : Nat} {h : Value} {r : List V} (h1 : hds[k]? = some h) (h2 : rows[k]? = some r) :
    partsOf F ((hds.zip (numsOf seed level fan cs rows)).take (k + 1)) = putP (partsOf F ((hds.zip (numsOf seed level fan cs rows)).take k)) (h, (partN seed level fan (pickR r cs)).toNat) := by
  have hz : (hds.zip (numsOf seed level fan cs rows))[k]? = some (h, (partN seed level fan (pickR r cs)).toNat) := by
    rw [List.getElem?_zip_eq_some]
    exact ⟨h1, by simp [numsOf, h2]⟩
  obtain ⟨hl, e⟩ := List.getElem?_eq_some_iff.1 hz
  unfold partsOf
  rw [List.take_succ_eq_append_getElem hl, List.foldl_append, e]
  rfl
theorem partsOf_le (F : Nat) (xs : List (Value × Nat)) : ∀ p ∈ partsOf F xs, p.length ≤ xs.length := by
  have : ∀ (xs : List (Value × Nat)) (ps : List (List Value)) (N : Nat), (∀ p ∈ ps, p.length ≤ N) → ∀ p ∈ xs.foldl putP ps, p.length ≤ N + xs.length := by
    intro xs
    induction xs with
    | nil => intro ps N h p hp; simpa using h p hp
    | cons x xs ih =>
      intro ps N h p hp
      have h2 : ∀ p ∈ putP ps x, p.length ≤ N + 1 := by
        intro p hp
        rcases List.mem_or_eq_of_mem_set hp with hp | rfl
        · have := h p hp; omega
        · rw [List.length_append, List.getD_eq_getElem?_getD]
          cases e : ps[x.2]? with
          | none => simp
          | some q => have := h q (List.mem_of_getElem? e); simp; exact this
      have := ih (putP ps x) (N + 1) h2 p hp
      rw [List.length_cons]
      omega
  have h := this xs (List.replicate F []) 0 (by intro p hp; have := List.eq_of_mem_replicate hp; subst this; simp)
  simpa [partsOf] using h

def SPost (w : World) (F : Nat) (E : Int) (ps : List (List Value)) (e : Ending) (w' : World) : Prop :=
  (E = 0 ∧ ∃ g hs, e = .returned (.tuple #[.slice (some ⟨g, 0, none⟩) F F, .int .i64 0]) ∧ Outs w' w.heap.size g hs ps ∧ Below w.heap.size w w') ∨
  (E ≠ 0 ∧ e = .returned (.tuple #[.slice none 0 0, .int .i64 E]) ∧ Below w.heap.size w w')
set_option maxHeartbeats 1600000 in
theorem split_walk {w : World} {A C : Option Addr} {n c m cc F : Nat} {hds : List Value} {rows : List (List V)} (seed level : Int) (cs : List Int) (hl : RdL w A n hds rows) (hc : Rd1 w C m (i64s cs))
    (h1 : 0 ≤ level) (h2 : level ≤ 8) (h3 : 1 ≤ F) (h4 : F ≤ 64) (hn : n ≤ 100000) (hm : m ≤ 100000) :
    Calls Try.prog 23 #[.int .u64 seed, .int .i64 level, .int .i64 F, .slice A n c, .slice C m cc] w (SPost w F (firstE cs rows) (partsOf F (hds.zip (numsOf seed level F cs rows)))) := by
  have HM := Lib.hid (may_yes w level F h1 h2 (by omega) (by omega))
  obtain ⟨E, hE⟩ : ∃ E, E = firstE cs rows := ⟨_, rfl⟩
  obtain ⟨ps, hps⟩ : ∃ ps, ps = partsOf F (hds.zip (numsOf seed level F cs rows)) := ⟨_, rfl⟩
  rw [← hE, ← hps]
  have HE := Lib.hid hE
  have HP := Lib.hid hps
  clear hE hps
  go_enter Try.func23, Try.ntmps23
  go_wp2_with (first
    | (go_at_call 52; refine HM.out.mono ?_; rintro e w1 ⟨rfl, hw⟩; obtain rfl := hw.symm; clear hw)
    | (at_make; refine wp_makeN rfl (.tmp 25) 41 38 (.slice none 0 0) 24 rfl Try.underlying41 info_LL rfl F rfl (by omega) (by omega) ?_))
  have ob : Outs (w.alloc (.cells (List.replicate F (Value.slice none 0 0)).toArray 38)) w.heap.size w.heap.size (List.replicate F (Value.slice none 0 0)) (partsOf F []) := by
    refine ⟨Nat.le_refl _, heap_alloc_new w _, by simp [partsOf], ?_, ?_⟩
    · intro i h p hh hp
      have a := List.eq_of_mem_replicate (List.mem_of_getElem? hh)
      have b := List.eq_of_mem_replicate (List.mem_of_getElem? hp)
      subst a; subst b
      exact World.ownsRow_nil _ _ _ _
    · intro i j h h' k hh _ hk _
      have a := List.eq_of_mem_replicate (List.mem_of_getElem? hh)
      subst a
      cases hk
  have b1 : Below w.heap.size w (w.alloc (.cells (List.replicate F (Value.slice none 0 0)).toArray 38)) := (Below.refl _ _).alloc (Nat.le_refl _) _
  go_loopw [29] (fun i wr => ∃ k : Nat, k ≤ n ∧ i = .int .i64 k ∧ firstE cs (rows.drop k) = E ∧ Below w.heap.size w wr ∧ ∃ hs, hs.length = F ∧ Outs wr w.heap.size w.heap.size hs (partsOf F ((hds.zip (numsOf seed level F cs rows)).take k))) (fun i _ => n - (intOf i).toNat)
  case atStart => exact ⟨0, by omega, rfl, HE.out.symm, b1, _, by simp, ob⟩
  case round =>
    clear ob b1
    obtain ⟨k, hk, rfl, hfe, bel, hs, hsl, O⟩ := hrel
    by_cases hlk : k < n
    · obtain ⟨ad, B, rm, rc, r, rfl, had, hrk, hdk, hcell, hrv⟩ := (hl.below bel).at_ hlk
      have hc' := hc.below bel
      have hfd := firstE_drop (cs := cs) hrk
      have HS := parts_snoc (F := F) (seed := seed) (level := level) (fan := F) (cs := cs) hdk hrk
      have hcl : cs.length = m := by simpa using hc.1
      clear hdk hrk hl hc
      by_cases hpk : pickOk r cs = true ∧ m ≤ 32
      · have HPK := Lib.hid (pick_ok (c := rc) (cc := cc) r cs hrv hc' hpk.1 hpk.2)
        cases hro : rowOk (pickR r cs) with
        | true =>
          have hre : rowE cs r = 0 := by simp [rowE, hpk.1, hcl, hpk.2, hro]
          rw [if_pos hre, hfe] at hfd
          have hpr := part_range seed level F (pickR r cs) (by omega) (by omega)
          obtain ⟨pn, hpn⟩ : ∃ pn : Nat, partN seed level F (pickR r cs) = pn := ⟨_, (Int.toNat_of_nonneg hpr.1).symm⟩
          rw [hpn] at hpr
          rw [hpn, Int.toNat_natCast] at HS
          have hpF : pn < F := Int.ofNat_lt.mp hpr.2
          clear hpr
          obtain ⟨PS, hPS⟩ : ∃ PS, PS = partsOf F ((hds.zip (numsOf seed level F cs rows)).take k) := ⟨_, rfl⟩
          have hle : ∀ p ∈ PS, p.length ≤ 100000 := by
            intro p hp
            rw [hPS] at hp
            have := partsOf_le F _ p hp
            rw [List.length_take] at this
            omega
          rw [← hPS] at HS O
          have HSH := Lib.hid HS
          obtain ⟨h0, hh0⟩ : ∃ h0, hs[pn]? = some h0 := ⟨_, List.getElem?_eq_getElem (by omega)⟩
          obtain ⟨p0, hp0⟩ : ∃ p0, PS[pn]? = some p0 := ⟨_, List.getElem?_eq_getElem (by have := O.len; omega)⟩
          have hp0l := hle p0 (List.mem_of_getElem? hp0)
          obtain ⟨A3, c3, rfl⟩ := own_slice (O.own pn h0 p0 hh0 hp0)
          have HPA := Lib.hid (fun (W : World) A' n' c' (h : RdV W A' n' (pickR r cs)) => hpn ▸ part_ok (c := c') seed level F (pickR r cs) h hro h1 h2 (by omega) (by omega))
          have HST := Lib.hid (pickR_str hrv.str cs)
          have HO := Lib.hid O
          have HH := Lib.hid (And.intro hh0 hp0)
          have HFD := Lib.hid hfd
          have szr := bel.size
          have ha : hs.toArray[pn]? = some (Value.slice A3 p0.length c3) := by simpa using hh0
          have HA := Lib.hid ha
          clear hfd hre hro hpk hrv hc' hfe HS hPS hle hh0 hp0 O hpn ha
          go_wp2_with (first
            | (go_at_call 53; refine HPK.out.mono ?_; rintro e w2 ⟨v2, rfl, o2, b2⟩; obtain ⟨A2, c2, rfl⟩ := own_slice o2; have HP2 := Lib.hid (HPA.out _ _ _ c2 (RdV.of_own o2 HST.out).2))
            | (go_at_call 19; refine HP2.out.mono ?_; rintro e w3 ⟨rfl, b3⟩; have b23 := b2.trans (b3.mono b2.size); have O3 := HO.out.below b23; have o3 := O3.own pn _ _ HH.out.1 HH.out.2; have cg := (cell_of_blk O3.blk pn).trans HA.out; have hcell3 := cell_belowv hcell b23 (by rw [add_block]; omega); have HO3 := Lib.hid O3; clear O3)
            | (at_builtin; refine wp_append1 w.heap.size rfl (.tmp 58) (.tmp 60) 38 24 (.slice none 0 0) 1 24 rfl Try.underlying38 info_L rfl (by omega) (by omega) (.slice A3 p0.length c3) p0.length p0 [.slice B rm rc] rfl rfl (by simp) rfl (by simp [Value.oneCell']) o3 (by have := b23.size; omega) (by omega) ?_; intro v1 w4 h1 t1 hor; have b4 := t1.heap HO3.out.blk (fun e => own_ne_typed o3 HO3.out.blk (by decide) _ e rfl); have f4 := free_of_blk b4 pn; have c4 := (cell_of_blk b4 pn).trans HA.out; clear b4; obtain ⟨A5, c5, rfl⟩ := own_slice h1))
          have O4 := HO3.out.put (p' := p0 ++ [.slice B rm rc]) HH.out.1 HH.out.2 (by simpa using h1) t1 hor
          have e4 : PS.set pn (p0 ++ [Value.slice B rm rc]) = putP PS (Value.slice B rm rc, pn) := by
            unfold putP
            rw [List.getD_eq_getElem?_getD, HH.out.2]
            rfl
          rw [e4, ← HSH.out] at O4
          have B4 := below_turn (bel.trans (b23.mono szr)) t1 (Nat.le_trans szr b23.size) (fun k hk => own_ge o3 hk)
          have B5 := B4.trans (((Turn.refl (fun k => k = w.heap.size) w4).setCell (p := ⟨w.heap.size, pn, none⟩) (.inl rfl) (.slice A5 (p0.length + 1) c5)).below (B := w.heap.size) B4.size (by simp))
          have hsl4 : (hs.set pn (Value.slice A5 (p0.length + 1) c5)).length = F := by simpa using hsl
          go_roundw
          case rel => exact ⟨k + 1, by omega, by go_num, HFD.out.symm, B5, _, hsl4, O4⟩
          case measure => simp [intOf]; omega
        | false =>
          have hre : rowE cs r = 20 := by simp [rowE, hpk.1, hcl, hpk.2, hro]
          rw [if_neg (by rw [hre]; decide), hfe, hre] at hfd
          have HF := Lib.hid hfd
          have HPA := Lib.hid (fun (W : World) A' n' c' (h : RdV W A' n' (pickR r cs)) => part_bad (c := c') seed level F (pickR r cs) h hro h1 h2 (by omega) (by omega))
          have HST := Lib.hid (pickR_str hrv.str cs)
          clear hfd hre hro hpk hrv hc' hfe
          go_wp2_with (first
            | (go_at_call 53; refine HPK.out.mono ?_; rintro e w2 ⟨v2, rfl, o2, b2⟩; obtain ⟨A2, c2, rfl⟩ := own_slice o2; have HP2 := Lib.hid (HPA.out _ _ _ c2 (RdV.of_own o2 HST.out).2))
            | (go_at_call 19; refine HP2.out.mono ?_; rintro e w3 ⟨rfl, b3⟩))
          go_ret2
          refine .inr ⟨by rw [HF.out]; decide, by rw [HF.out]; rfl, bel.trans ((b2.trans (b3.mono b2.size)).mono bel.size)⟩
      · have hre : rowE cs r = 1 := by
          simp only [rowE, Bool.and_eq_true, decide_eq_true_eq, hcl]
          rw [if_neg hpk]
        rw [if_neg (by rw [hre]; decide), hfe, hre] at hfd
        have HF := Lib.hid hfd
        have HPK := Lib.hid (pick_bad (c := rc) (cc := cc) r cs hrv hc' (by
          by_cases h : m ≤ 32
          · exact .inl (by cases h2 : pickOk r cs with | true => exact absurd ⟨h2, h⟩ hpk | false => rfl)
          · exact .inr (by omega)))
        clear hfd hre hpk hrv hc' hfe
        go_wp2_with (go_at_call 53; refine HPK.out.mono ?_; rintro e w2 ⟨rfl, b2⟩)
        go_ret2
        refine .inr ⟨by rw [HF.out]; decide, by rw [HF.out]; rfl, bel.trans (b2.mono bel.size)⟩
    · obtain rfl : k = n := by omega
      have HF := Lib.hid hfe
      have HO := Lib.hid O
      have hll := hl.len
      have hlh := hl.hd.1
      clear hl hc hfe O
      go_wp2
      go_ret2
      refine .inl ⟨?_, w.heap.size, hs, rfl, ?_, bel⟩
      · rw [← HF.out, List.drop_eq_nil_of_le (by omega)]; rfl
      · have := HO.out
        rw [List.take_of_length_le (by simp [numsOf]; omega), ← HP.out] at this
        exact this
end Go.Proofs.Ytlldkdhpilcilaa
