/- PageAll. -/
import Derived.Test.YtlldkdhpilcilaaPReads
namespace Go.Proofs.Ytlldkdhpilcilaa
open Go.RowKit
set_option linter.unusedVariables false
set_option linter.unusedSimpArgs false

section
open Go.ChangeShapes Go.WideShapes Go.Deep
variable {H : Type} {enc : TypeId × Value → H} {W : World} {base : Nat} {spare : Nat → Bool} {held : Bool}
theorem rd_pages {fuel : Nat} {cs : List Value} {x : DataW H × List MemPlace} (h : DataW.trod enc Try.prog W base spare held fuel 68 cs = some x) : ∃ A len cap, ∃ x : List Value × List (List Int), cs = [.slice A len cap] ∧ RdP W A len x.1 x.2 := by
  rcases open_slice Try.underlying68 h with ⟨hcs, _⟩ | ⟨a, l, c, m, n, D, Pl, hcs, hb, hl, hm, hmm, hx, hi⟩
  · exact ⟨none, 0, 0, ([], []), hcs, ⟨rfl, by omega, fun h => absurd h (by omega)⟩, rfl, by simp⟩
  · have hC : Try.prog.cellsOf 23 = 1 := by kernel_rfl
    have hlm : l ≤ m := by rw [hmm]; split <;> omega
    have hex : ∀ i, ∃ y : (Option Addr × Nat × Nat) × List Int, i < l → W.cell? (a.add i) = some (.slice y.1.1 y.1.2.1 y.1.2.2) ∧ RdB W y.1.1 y.1.2.1 y.1.2.2 y.2 := fun i => by
      by_cases hil : i < l
      · obtain ⟨cs', hc, ht'⟩ := hi i (by omega)
        rw [hC, Nat.mul_one] at hc
        obtain ⟨B, m', c', r, rfl, hr⟩ := rd_bytes ht'
        obtain ⟨_, _, hat⟩ := World.cells?_some hc
        have h0 := hat 0 (by omega)
        exact ⟨((B, m', c'), r), fun _ => ⟨by simpa [Addr.add] using h0, hr⟩⟩
      · exact ⟨((none, 0, 0), []), fun h => absurd h hil⟩
    obtain ⟨f, hf⟩ := Classical.axiomOfChoice hex
    refine ⟨_, l, c, ((List.range l).map fun i => Value.slice (f i).1.1 (f i).1.2.1 (f i).1.2.2, (List.range l).map fun i => (f i).2), hcs, ⟨by simp, by simp only [maxLen] at hm; omega, fun hn => ⟨a, rfl, ?_, fun j u hu => ?_⟩⟩, by simp, fun i r hr => ?_⟩
    · have := World.block_lt_of_cell? W _ (hf 0 hn).1
      rwa [add_block] at this
    · rw [List.getElem?_map] at hu
      by_cases hil : j < l
      · rw [List.getElem?_range hil] at hu
        rw [(hf j hil).1]
        simpa using hu
      · rw [List.getElem?_eq_none (by simpa using hil)] at hu
        cases hu
    · dsimp only at hr ⊢
      rw [List.getElem?_map] at hr
      by_cases hil : i < l
      · rw [List.getElem?_range hil] at hr
        obtain rfl : (f i).2 = r := by simpa using hr
        exact ⟨_, _, _, by rw [List.getElem?_map, List.getElem?_range hil]; rfl, (hf i hil).2⟩
      · rw [List.getElem?_eq_none (by simpa using hil)] at hr
        cases hr
theorem open_SSByte {A : Option Addr} {len cap : Nat} {d : DataW H} {ps : List MemPlace} (h : DataW.Trod enc Try.prog W base spare held 68 (.slice A len cap) d ps) : ∃ x : List Value × List (List Int), RdP W A len x.1 x.2 := by
  obtain ⟨fuel, hf⟩ := h
  obtain ⟨B, l, c, x, e, hr⟩ := rd_pages hf
  obtain ⟨rfl, rfl, rfl⟩ := slice_cells e
  exact ⟨x, hr⟩
end
theorem scan_big {p : List Int} (h : p.length ≠ 256) : scanS p = none := by unfold scanS; rw [if_neg (by omega)]
theorem allS_none_of {ps : List (List Int)} {k : Nat} {p : List Int} (h : ps[k]? = some p) (hs : scanS p = none) : allS ps = none := by
  induction ps generalizing k with
  | nil => simp at h
  | cons q t ih =>
    rcases k with _ | k
    · simp at h
      subst h
      unfold allS
      rw [hs]
    · have := ih (by simpa using h)
      unfold allS
      rw [this]
      split <;> rfl
theorem pages_no {w : World} {A : Option Addr} {n c : Nat} {hds : List Value} {ps : List (List Int)} (hl : RdP w A n hds ps) (hn : n ≤ 10000) (ha : allS ps = none) : Calls Try.prog 45 #[.slice A n c] w fun e w' => e = .returned (.tuple #[.slice none 0 0, .int .i64 40]) ∧ Below w.heap.size w w' := by
  refine (pages_walk (c := c) hl hn).mono ?_
  intro e w' H
  unfold PagesP at H
  rw [ha] at H
  exact H
theorem pages_yes {w : World} {A : Option Addr} {n c : Nat} {hds : List Value} {ps : List (List Int)} (hl : RdP w A n hds ps) (hn : n ≤ 10000) {rows : Rows} (ha : allS ps = some rows) : Calls Try.prog 45 #[.slice A n c] w fun e w' => ∃ B c' hs, e = .returned (.tuple #[.slice B rows.length c', .int .i64 0]) ∧ RdL w' B rows.length hs rows ∧ Below w.heap.size w w' := by
  refine (pages_walk (c := c) hl hn).mono ?_
  intro e w' H
  unfold PagesP at H
  rw [ha] at H
  obtain ⟨⟨B, c', hs, h1, h2, h3⟩, h4⟩ := H
  exact ⟨B, c', hs, h1, RdL.of_own h2 h3, h4⟩
set_option maxHeartbeats 1000000 in
theorem PageAll.walk {w : World} (A : Option Addr) (n c : Nat) (x : List Value × List (List Int)) (hl : RdP w A n x.1 x.2) :
    Calls Try.prog 11 #[.slice A n c] w fun e w' => e = .returned (.bool true) ∧ Below w.heap.size w w' := by
  obtain ⟨hds, ps⟩ := x
  dsimp only at hl
  have hn9 := hl.hd.2.1
  have HLv := Lib.hid plives
  by_cases hn : 50 < n
  · clear hl
    go_enter Try.func11, Try.ntmps11
    go_wp2_with (go_at_call 30; refine (HLv.out _).mono ?_; rintro e w1 ⟨rfl, b1⟩)
    go_ret
    exact ⟨by trivial, b1⟩
  have hlen := hl.len
  have HL := Lib.hid hl
  have HN := Lib.hid hlen
  clear hl hlen hn9
  go_enter Try.func11, Try.ntmps11
  go_wp2
  go_loopw [3, 4, 5] (fun o b x wr => ∃ (k m : Nat) (bad : Bool) (B : Option Addr) (C : Nat) (hs : List Value) (rows : Rows), k ≤ n ∧ m ≤ 128 * k ∧ x = .int .i64 k ∧ b = .bool bad ∧ o = .slice B m C ∧ rows.length = m ∧ (if bad = true then allS ps = none else allS ps = (allS (ps.drop k)).map (rows ++ ·)) ∧ wr.ownsRow w.heap.size 24 1 (.slice B m C) m hs ∧ OwnRs wr w.heap.size hs rows ∧ Below w.heap.size w wr) (fun _ _ x _ => n - (intOf x).toNat)
  case atStart => exact ⟨0, 0, false, none, 0, [], [], by omega, by omega, rfl, rfl, rfl, rfl, by simp, World.ownsRow_nil _ _ _ _, OwnRs.nil _ _, Below.refl _ _⟩
  case round =>
    obtain ⟨k, m, bad, B, C, hs, rows, hk, hm, rfl, rfl, rfl, hrl, hall, ho, hrs, bel⟩ := hrel
    have szr := bel.size
    by_cases hlt : k < n
    · obtain ⟨ad, D, pm, pc, p, rfl, had, hp, hcell, hrb⟩ := (HL.out.below bel).at_ hlt
      have hpm := hrb.rd.2.1
      have HG := Lib.hid (And.intro ho (And.intro hrs (And.intro bel hrl)))
      by_cases hbig : 2000 < pm
      · clear ho hrs bel hrl hall hp hrb
        go_wp2_with (go_at_call 30; refine (HLv.out _).mono ?_; rintro e w1 ⟨rfl, b1⟩)
        go_ret
        exact ⟨by trivial, HG.out.2.2.1.trans (b1.mono szr)⟩
      · cases hsc : scanS p with
        | none =>
          have HD := Lib.hid (allS_none_of hp hsc)
          have HC := Lib.hid (rrows_no hrb hsc)
          clear ho hrs bel hrl hall hp hrb hsc hpm
          cases bad
          all_goals
            go_wp2_with (first
              | (go_at_call 40; refine HC.out.mono ?_; rintro e w2 ⟨rfl, b2⟩; have HO2 := Lib.hid (own_below HG.out.1 b2); have HRS2 := Lib.hid (HG.out.2.1.below b2); have B2 := Lib.hid (HG.out.2.2.1.trans (b2.mono szr)); clear b2)
              | (at_builtin; refine wp_appendL w.heap.size rfl (.tmp 40) (.tmp 41) 38 24 (.slice none 0 0) 1 24 rfl Try.underlying38 info_L rfl (by omega) (by omega) (.slice B m C) m _ rfl none 0 0 [] rfl rfl (fun h => absurd h (by omega)) (fun u hu => by simp at hu) HO2.out B2.out.size (by omega) ?_; intro v1 w4 h4 t4 _))
            obtain ⟨A4, c4, rfl⟩ := own_slice h4
            have B4 := below_turn B2.out t4 B2.out.size (fun i hi => own_ge HO2.out hi)
            have RS4 := HRS2.out.turn t4 (fun v n r hv k hk => own_ne_own hv HO2.out (by decide) hk)
            go_roundw
          all_goals first
            | exact ⟨k + 1, m, true, A4, c4, _, rows, by omega, by omega, by go_num, rfl, rfl, HG.out.2.2.2, by rw [if_pos rfl]; exact HD.out, by simpa using h4, by simpa using RS4, B4⟩
            | (simp [intOf]; done)
            | (simp [intOf]; omega)
        | some x =>
          obtain ⟨r, a⟩ := x
          have hr5 := scanS_rows hrb.isb hsc
          have HD : (if bad = true then allS ps = none else allS ps = (allS (ps.drop (k + 1))).map ((rows ++ r) ++ ·)) := by
            cases bad with
            | true => exact hall
            | false =>
              have hall : allS ps = (allS (ps.drop k)).map (rows ++ ·) := hall
              show allS ps = _
              rw [hall, allS_drop_some hp hsc, Option.map_map]
              congr 1
              funext l
              simp
          have HD := Lib.hid HD
          have HC := rrows_yes hrb hsc
          obtain ⟨q, hq⟩ : ∃ q, q = r.length := ⟨_, rfl⟩
          rw [← hq] at HC hr5
          have HC := Lib.hid HC
          have HQ := Lib.hid hq
          clear ho hrs bel hrl hall hp hrb hsc hq hpm
          cases bad
          all_goals
            go_wp2_with (first
              | (go_at_call 40; refine HC.out.mono ?_; rintro e w2 ⟨E, c', hr, rfl, hro, hrr, b2⟩; have HR2 := Lib.hid (And.intro hro hrr); have HO2 := Lib.hid (own_below HG.out.1 b2); have HRS2 := Lib.hid (HG.out.2.1.below b2); have B2 := Lib.hid (HG.out.2.2.1.trans (b2.mono szr)); clear hro hrr b2)
              | (at_builtin; refine wp_appendL w.heap.size rfl (.tmp 40) (.tmp 41) 38 24 (.slice none 0 0) 1 24 rfl Try.underlying38 info_L rfl (by omega) (by omega) (.slice B m C) m _ rfl E q c' hr rfl (by rw [HR2.out.2.len, ← HQ.out]; omega) (fun h => by obtain ⟨ad, e, _, hc⟩ := (Rd1.of_own HR2.out.1).2.2.2 h; exact ⟨ad, e, hc⟩) HR2.out.2.one HO2.out B2.out.size (by omega) ?_; intro v1 w4 h4 t4 _))
            obtain ⟨A4, c4, rfl⟩ := own_slice h4
            have B4 := below_turn B2.out t4 B2.out.size (fun i hi => own_ge HO2.out hi)
            have RS4 := (HRS2.out.append (HR2.out.2.lower szr)).turn t4 (fun v n r hv k hk => own_ne_own hv HO2.out (by decide) hk)
            go_roundw
          all_goals first
            | exact ⟨k + 1, m + q, _, A4, c4, _, _, by omega, by omega, by go_num, rfl, rfl, by rw [List.length_append, HG.out.2.2.2, HQ.out], HD.out, h4, RS4, B4⟩
            | (simp [intOf]; done)
            | (simp [intOf]; omega)
    · obtain rfl : k = n := by omega
      have HG := Lib.hid (And.intro ho (And.intro hrs (And.intro bel hrl)))
      cases bad with
      | true =>
        have HC := Lib.hid (pages_no (c := c) (HL.out.below bel) (by omega) (show allS ps = none from hall))
        clear ho hrs bel hrl hall
        go_wp2_with (first
          | (go_at_call 45; refine HC.out.mono ?_; rintro e w2 ⟨rfl, b2⟩)
          | (go_at_call 30; refine (HLv.out _).mono ?_; rintro e w3 ⟨rfl, b3⟩))
        go_ret
        exact ⟨by trivial, (HG.out.2.2.1.trans (b2.mono szr)).trans (b3.mono (Nat.le_trans szr b2.size))⟩
      | false =>
        have hall : allS ps = (allS (ps.drop k)).map (rows ++ ·) := hall
        have ha : allS ps = some rows := by rw [hall, List.drop_eq_nil_iff.2 (by rw [HN.out]; omega)]; simp [allS]
        have HC := pages_yes (c := c) (HL.out.below bel) (by omega) ha
        have HR := RdL.of_own ho hrs
        rw [hrl] at HC
        have HC := Lib.hid HC
        have HR := Lib.hid HR
        have HS := Lib.hid (fun W A1 A2 c1 c2 hds1 hds2 (x : RdL W A1 m hds1 rows) (y : RdL W A2 m hds2 rows) => samelist_rdl (c := c1) (c2 := c2) x y)
        clear ho hrs bel hrl hall ha
        go_wp2_with (first
          | (go_at_call 45; refine HC.out.mono ?_; rintro e w2 ⟨D2, c2, hs2, rfl, hr2, b2⟩; have HR2 := Lib.hid (And.intro hr2 (HR.out.below b2)); clear hr2)
          | (go_at_call 30; refine (HLv.out _).mono ?_; rintro e w3 ⟨rfl, b3⟩; have HR3 := Lib.hid (And.intro (HR2.out.1.below b3) (HR2.out.2.below b3)))
          | (go_at_call 27; refine (HS.out _ _ _ _ _ _ _ HR3.out.1 HR3.out.2).mono ?_; rintro e w4 ⟨rfl, b4⟩))
        go_ret
        have s2 := Nat.le_trans szr b2.size
        exact ⟨by trivial, ((HG.out.2.2.1.trans (b2.mono szr)).trans (b3.mono s2)).trans (b4.mono (Nat.le_trans s2 b3.size))⟩
end Go.Proofs.Ytlldkdhpilcilaa
