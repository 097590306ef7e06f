/- HashSplits. -/
import Derived.Test.YtlldkdhpilcilaaHSplits
namespace Go.Proofs.Ytlldkdhpilcilaa
open Go.RowKit

section
open Go.ChangeShapes Go.WideShapes Go.Deep
variable {H : Type} {enc : TypeId × Value → H} {W : World} {base : Nat} {spare : Nat → Bool} {held : Bool}
theorem rd_rows {fuel : Nat} {cs : List Value} {x : DataW H × List MemPlace} (h : DataW.trod enc Try.prog W base spare held fuel 38 cs = some x) : ∃ A len cap, ∃ x : List Value × List (List V), cs = [.slice A len cap] ∧ RdL W A len x.1 x.2 := by
  rcases open_slice Try.underlying38 h with ⟨hcs, _⟩ | ⟨a, l, c, m, n, D, Pl, hcs, hb, hl, hm, hmm, hx, hi⟩
  · exact ⟨none, 0, 0, ([], []), hcs, ⟨rfl, by omega, fun h => absurd h (by omega)⟩, rfl, by simp⟩
  · have hC : Try.prog.cellsOf 24 = 1 := by kernel_rfl
    have hlm : l ≤ m := by rw [hmm]; split <;> omega
    have hex : ∀ i, ∃ y : (Option Addr × Nat × Nat) × List V, i < l → W.cell? (a.add i) = some (.slice y.1.1 y.1.2.1 y.1.2.2) ∧ RdV W y.1.1 y.1.2.1 y.2 := fun i => by
      by_cases hil : i < l
      · obtain ⟨cs', hc, ht'⟩ := hi i (by omega)
        rw [hC, Nat.mul_one] at hc
        obtain ⟨B, m', c', r, rfl, hr⟩ := rd_row ht'
        obtain ⟨_, _, hat⟩ := World.cells?_some hc
        have h0 := hat 0 (by omega)
        exact ⟨((B, m', c'), r), fun _ => ⟨by simpa [Addr.add] using h0, hr⟩⟩
      · exact ⟨((none, 0, 0), []), fun h => absurd h hil⟩
    obtain ⟨f, hf⟩ := Classical.axiomOfChoice hex
    refine ⟨_, l, c, ((List.range l).map fun i => Value.slice (f i).1.1 (f i).1.2.1 (f i).1.2.2, (List.range l).map fun i => (f i).2), hcs, ⟨by simp, by simp only [maxLen] at hm; omega, fun hn => ⟨a, rfl, ?_, fun j u hu => ?_⟩⟩, by simp, fun i r hr => ?_⟩
    · have := World.block_lt_of_cell? W _ (hf 0 hn).1
      rwa [add_block] at this
    · rw [List.getElem?_map] at hu
      by_cases hil : j < l
      · rw [List.getElem?_range hil] at hu
        rw [(hf j hil).1]
        simpa using hu
      · rw [List.getElem?_eq_none (by simpa using hil)] at hu
        cases hu
    · dsimp only at hr ⊢
      rw [List.getElem?_map] at hr
      by_cases hil : i < l
      · rw [List.getElem?_range hil] at hr
        obtain rfl : (f i).2 = r := by simpa using hr
        exact ⟨_, _, _, by rw [List.getElem?_map, List.getElem?_range hil]; rfl, (hf i hil).2⟩
      · rw [List.getElem?_eq_none (by simpa using hil)] at hr
        cases hr
theorem open_SSValue {A : Option Addr} {len cap : Nat} {d : DataW H} {ps : List MemPlace} (h : DataW.Trod enc Try.prog W base spare held 38 (.slice A len cap) d ps) : ∃ x : List Value × List (List V), RdL W A len x.1 x.2 := by
  obtain ⟨fuel, hf⟩ := h
  obtain ⟨B, l, c, x, e, hr⟩ := rd_rows hf
  obtain ⟨rfl, rfl, rfl⟩ := slice_cells e
  exact ⟨x, hr⟩
end

theorem spost_ok {w w' : World} {F : Nat} {E : Int} {ps : List (List Value)} {e : Ending} (h : SPost w F E ps e w') (hE : E = 0) : ∃ g hs, e = .returned (.tuple #[.slice (some ⟨g, 0, none⟩) F F, .int .i64 0]) ∧ Outs w' w.heap.size g hs ps ∧ Below w.heap.size w w' := by
  rcases h with ⟨_, h⟩ | ⟨h, _⟩
  · exact h
  · exact absurd hE h
theorem spost_bad {w w' : World} {F : Nat} {E : Int} {ps : List (List Value)} {e : Ending} (h : SPost w F E ps e w') (hE : E ≠ 0) : e = .returned (.tuple #[.slice none 0 0, .int .i64 E]) ∧ Below w.heap.size w w' := by
  rcases h with ⟨h, _⟩ | ⟨_, h⟩
  · exact absurd h hE
  · exact h
theorem Alike.nil (w : World) : Alike w [] [] := fun i h h' hh => by simp at hh

set_option maxHeartbeats 1000000 in
theorem HashSplits.walk {w : World} (seed : Int) (_ : (Lit.int .u64 seed).wf = true) (level : Int) (_ : (Lit.int .i64 level).wf = true) (fan : Int) (_ : (Lit.int .i64 fan).wf = true)
    (A : Option Addr) (n c : Nat) (x : List Value × List (List V)) (hl : RdL w A n x.1 x.2) (C : Option Addr) (m cc : Nat) (cs : List Int) (hc : Rd1 w C m (i64s cs)) :
    Calls Try.prog 5 #[.int .u64 seed, .int .i64 level, .int .i64 fan, .slice A n c, .slice C m cc] w fun e w' => e = .returned (.bool true) ∧ Below w.heap.size w w' := by
  obtain ⟨hds, rows⟩ := x
  dsimp only at hl
  have hn := hl.hd.2.1
  have hm := hc.2.1
  have HL := Lib.hid lives_walk
  have HG := Lib.hid (large_walk (c := c) hl)
  have HD := Lib.hid (And.intro hl hc)
  clear hl hc
  by_cases hm1 : 100 < m
  · go_enter Try.func5, Try.ntmps5
    go_wp2_with (first
      | (go_at_call 22; refine HG.out.mono ?_; rintro e w1 ⟨b, rfl, hw, hb3⟩; obtain rfl := hw.symm; clear hw; have HB3 := Lib.hid hb3; clear hb3; cases b)
      | (go_at_call 13; refine (HL.out _).mono ?_; rintro e w2 ⟨rfl, bz⟩))
    all_goals
      go_ret
      exact ⟨by trivial, bz⟩
  by_cases hmay : 0 ≤ level ∧ level ≤ 8 ∧ 1 ≤ fan ∧ fan ≤ 64
  · obtain ⟨m1, m2, m3, m4⟩ := hmay
    obtain ⟨F, rfl⟩ : ∃ F : Nat, fan = F := ⟨fan.toNat, by omega⟩
    obtain ⟨E, hE⟩ : ∃ E, E = firstE cs rows := ⟨_, rfl⟩
    obtain ⟨ps, hps⟩ : ∃ ps, ps = partsOf F (hds.zip (numsOf seed level F cs rows)) := ⟨_, rfl⟩
    have HPS := Lib.hid hps
    have HS := fun (hn3 : n ≤ 300) => split_walk (F := F) (c := c) (cc := cc) seed level cs HD.out.1 HD.out.2 m1 m2 (by omega) (by omega) (by omega) (by omega)
    have HR := fun (W : World) (b : Below w.heap.size w W) (hn3 : n ≤ 300) => refsplit_walk (F := F) (c := c) (cc := cc) seed level cs (HD.out.1.below b) (HD.out.2.below b) m1 m2 (by omega) (by omega) (by omega) (by omega)
    rw [← hE, ← hps] at HS HR
    have HS := Lib.hid HS
    have HR := Lib.hid HR
    have hF64 : F ≤ 64 := by omega
    have hF1 : 1 ≤ F := by omega
    clear hE hps m1 m2 m3 m4
    by_cases hE0 : E = 0
    · have HE0 := Lib.hid hE0
      clear hE0
      go_enter Try.func5, Try.ntmps5
      go_wp2_with (first
        | (go_at_call 22; refine HG.out.mono ?_; rintro e w1 ⟨b, rfl, hw, hb3⟩; obtain rfl := hw.symm; clear hw; have HB3 := Lib.hid hb3; clear hb3; cases b)
        | (go_at_call 23; refine (HS.out (HB3.out (by trivial))).mono ?_; rintro e w2 hp; obtain ⟨g1, hs1, rfl, O1, B2⟩ := spost_ok hp HE0.out; have HO1 := Lib.hid O1; clear O1 hp)
        | (go_at_call 24; refine (HR.out _ B2 (HB3.out (by trivial))).mono ?_; rintro e w3 hp; obtain ⟨g2, hs2, rfl, O2, b3⟩ := spost_ok hp HE0.out; have HO2 := Lib.hid O2; have HO1a := Lib.hid (HO1.out.below b3); have B3 := B2.trans (b3.mono B2.size); clear O2 hp)
        | (go_at_call 13; refine (HL.out _).mono ?_; rintro e w4 ⟨rfl, b4⟩; have B4 := B3.trans (b4.mono B3.size); have HS4 := Lib.hid (same_walk (c := F) (c2 := F) (n := F) hs1 hs2 (by have := (HO1a.out.below b4).rd (by have := HO1a.out.len; rw [HPS.out, partsOf_length] at this; omega); have e1 : hs1.length = F := by { have := HO1a.out.len; rw [HPS.out, partsOf_length] at this; omega }; rwa [e1] at this) (by have := (HO2.out.below b4).rd (by have := HO2.out.len; rw [HPS.out, partsOf_length] at this; omega); have e1 : hs2.length = F := by { have := HO2.out.len; rw [HPS.out, partsOf_length] at this; omega }; rwa [e1] at this) (Outs.alike HD.out.1 B4 (HPS.out ▸ HO1a.out.below b4) (HPS.out ▸ HO2.out.below b4))))
        | (go_at_call 13; refine (HL.out _).mono ?_; rintro e w2 ⟨rfl, bz⟩)
        | (go_at_call 25; refine HS4.out.mono ?_; rintro e w5 ⟨rfl, b5⟩; have bz := B4.trans (b5.mono B4.size)))
      all_goals
        go_ret
        exact ⟨by trivial, bz⟩
    · have HE0 := Lib.hid hE0
      clear hE0
      go_enter Try.func5, Try.ntmps5
      go_wp2_with (first
        | (go_at_call 22; refine HG.out.mono ?_; rintro e w1 ⟨b, rfl, hw, hb3⟩; obtain rfl := hw.symm; clear hw; have HB3 := Lib.hid hb3; clear hb3; cases b)
        | (go_at_call 23; refine (HS.out (HB3.out (by trivial))).mono ?_; rintro e w2 hp; obtain ⟨rfl, B2⟩ := spost_bad hp HE0.out; clear hp)
        | (go_at_call 24; refine (HR.out _ B2 (HB3.out (by trivial))).mono ?_; rintro e w3 hp; obtain ⟨rfl, b3⟩ := spost_bad hp HE0.out; have B3 := B2.trans (b3.mono B2.size); clear hp)
        | (go_at_call 13; refine (HL.out _).mono ?_; rintro e w4 ⟨rfl, b4⟩; have B4 := B3.trans (b4.mono B3.size))
        | (go_at_call 13; refine (HL.out _).mono ?_; rintro e w2 ⟨rfl, bz⟩)
        | (go_at_call 25; refine (same_walk (n := 0) [] [] (Rd1.nil _) (Rd1.nil _) (Alike.nil _)).mono ?_; rintro e w5 ⟨rfl, b5⟩; have bz := B4.trans (b5.mono B4.size)))
      all_goals
        go_ret
        exact ⟨by trivial, bz⟩
  · have HS := Lib.hid (fun W v c => split_arg W seed level fan v c hmay)
    have HR := Lib.hid (fun W v c => refsplit_arg W seed level fan v c hmay)
    clear hmay
    go_enter Try.func5, Try.ntmps5
    go_wp2_with (first
      | (go_at_call 22; refine HG.out.mono ?_; rintro e w1 ⟨b, rfl, hw, hb3⟩; obtain rfl := hw.symm; clear hw; have HB3 := Lib.hid hb3; clear hb3; cases b)
      | (go_at_call 23; refine (HS.out _ _ _).mono ?_; rintro e w2 ⟨rfl, hw⟩; obtain rfl := hw.symm; clear hw)
      | (go_at_call 24; refine (HR.out _ _ _).mono ?_; rintro e w3 ⟨rfl, hw⟩; obtain rfl := hw.symm; clear hw)
      | (go_at_call 13; refine (HL.out _).mono ?_; rintro e w4 ⟨rfl, bz⟩)
      | (go_at_call 25; refine (same_walk (n := 0) [] [] (Rd1.nil _) (Rd1.nil _) (Alike.nil _)).mono ?_; rintro e w5 ⟨rfl, b5⟩; have bz := bz.trans (b5.mono bz.size)))
    all_goals
      go_ret
      exact ⟨by trivial, bz⟩
end Go.Proofs.Ytlldkdhpilcilaa
