/- PageReads. -/
import Derived.Test.YtlldkdhpilcilaaPLvA
import Derived.Test.YtlldkdhpilcilaaKeeps
namespace Go.Proofs.Ytlldkdhpilcilaa
open Go.RowKit
set_option linter.unusedVariables false
set_option linter.unusedSimpArgs false

section
open Go.ChangeShapes Go.WideShapes Go.Deep
variable {H : Type} {enc : TypeId × Value → H} {W : World} {base : Nat} {spare : Nat → Bool} {held : Bool}
theorem rd_bytes {fuel : Nat} {cs : List Value} {x : DataW H × List MemPlace} (h : DataW.trod enc Try.prog W base spare held fuel 23 cs = some x) : ∃ A l c xs, cs = [.slice A l c] ∧ RdB W A l c xs := by
  have h2 := h
  obtain ⟨A, l, c, xs, e, hr, hw⟩ := rd_ints Try.underlying23 Try.underlying5 (by kernel_rfl) h
  have hb : isB xs := fun y hy => by
    have := hw y hy
    simp only [Lit.wf, Bool.and_eq_true, decide_eq_true_eq] at this
    have h1 := this.1
    have h2 := this.2
    simp [IntKind.min, IntKind.max, IntKind.signed, IntKind.bits] at h1 h2
    omega
  suffices key : l ≤ c ∧ c ≤ 9223372036854775807 from ⟨A, l, c, xs, e, hr, hb, key.1, key.2⟩
  rcases open_ints Try.underlying23 Try.underlying5 (by kernel_rfl) h2 with ⟨hcs, _⟩ | ⟨x, l', c', zs, hcs, _, hl, hm, _⟩
  · rw [e] at hcs
    simp only [List.cons.injEq, Value.slice.injEq, and_true] at hcs
    omega
  · rw [e] at hcs
    simp only [List.cons.injEq, Value.slice.injEq, and_true] at hcs
    simp only [maxLen] at hm
    omega
theorem LawPageReads.open_SByte {A : Option Addr} {len cap : Nat} {d : DataW H} {ps : List MemPlace} (h : DataW.Trod enc Try.prog W base spare held 23 (.slice A len cap) d ps) : ∃ xs : List Int, RdB W A len cap xs := by
  obtain ⟨fuel, hf⟩ := h
  obtain ⟨B, l, c, xs, e, hr⟩ := rd_bytes hf
  obtain ⟨rfl, rfl, rfl⟩ := slice_cells e
  exact ⟨xs, hr⟩
end
theorem RdL.its {w : World} {A : Option Addr} {n : Nat} {hds : List Value} {rows : Rows} (h : RdL w A n hds rows) : (hds.zip rows).map Prod.fst = hds ∧ (hds.zip rows).map Prod.snd = rows ∧ RdIts w (hds.zip rows) := by
  have hl : hds.length = rows.length := by rw [h.len]; exact h.hd.1
  refine ⟨List.map_fst_zip (by omega), List.map_snd_zip (by omega), fun x hx => ?_⟩
  obtain ⟨i, hi, e⟩ := List.getElem_of_mem hx
  have hz : (hds.zip rows)[i]? = some x := by rw [← e]; exact List.getElem?_eq_getElem hi
  rw [List.getElem?_zip_eq_some] at hz
  obtain ⟨B, m, c, e2, hr⟩ := h.row i x.2 hz.2
  rw [hz.1] at e2
  exact ⟨B, m, c, Option.some.inj e2, hr⟩
theorem samelist_rdl {w : World} {A A2 : Option Addr} {n c c2 : Nat} {hds hds2 : List Value} {rows : Rows} (h1 : RdL w A n hds rows) (h2 : RdL w A2 n hds2 rows) :
    Calls Try.prog 27 #[.slice A n c, .slice A2 n c2] w fun e w' => e = .returned (.bool true) ∧ Below w.heap.size w w' := by
  obtain ⟨a1, a2, a3⟩ := h1.its
  obtain ⟨b1, b2, b3⟩ := h2.its
  exact samelist_rows _ _ (by rw [a1]; exact h1.hd) (by rw [b1]; exact h2.hd) a3 b3 (by rw [a2, b2])
section
variable {w : World} {A : Option Addr} {n c : Nat} {p : List Int}
theorem rrows_no (h : RdB w A n c p) (hs : scanS p = none) : Calls Try.prog 40 #[.slice A n c] w fun e w' => e = .returned (.tuple #[.slice none 0 0, .bool false]) ∧ Below w.heap.size w w' := by
  refine (rrows_walk h).mono ?_
  intro e w' H
  unfold RRowsP at H
  rw [hs] at H
  exact H
theorem rrows_yes (h : RdB w A n c p) {rows : Rows} {a : Nat} (hs : scanS p = some (rows, a)) : Calls Try.prog 40 #[.slice A n c] w fun e w' => ∃ B c' hds, e = .returned (.tuple #[.slice B rows.length c', .bool true]) ∧ w'.ownsRow w.heap.size 24 1 (.slice B rows.length c') rows.length hds ∧ OwnRs w' w.heap.size hds rows ∧ Below w.heap.size w w' := by
  refine (rrows_walk h).mono ?_
  intro e w' H
  unfold RRowsP at H
  rw [hs] at H
  obtain ⟨⟨B, c', hds, h1, h2, h3⟩, h4⟩ := H
  exact ⟨B, c', hds, h1, h2, h3, h4⟩
theorem reads_big (_ : RdB w A n c p) (h : 2000 < n) (hn : n ≤ 9223372036854775807) (i : Int) : Calls Try.prog 9 #[.slice A n c, .int .i64 i] w fun e w' => e = .returned (.bool true) ∧ Below w.heap.size w w' := by
  have HL := Lib.hid plives
  go_enter Try.func9, Try.ntmps9
  go_wp2_with (go_at_call 30; refine (HL.out _).mono ?_; rintro e w1 ⟨rfl, b1⟩)
  go_ret
  exact ⟨by trivial, b1⟩
set_option maxHeartbeats 400000 in
theorem reads_no (h : RdB w A n c p) (hn : ¬ 2000 < n) (i : Int) (hs : scanS p = none) : Calls Try.prog 9 #[.slice A n c, .int .i64 i] w fun e w' => e = .returned (.bool true) ∧ Below w.heap.size w w' := by
  have HL := Lib.hid plives
  have HR := Lib.hid (prows_no h hs)
  have H1 := Lib.hid (fun W (b : Below w.heap.size w W) => pget_no (h.below b) hs i)
  have H2 := Lib.hid (fun W (b : Below w.heap.size w W) => rrows_no (h.below b) hs)
  have H3 := Lib.hid (fun W (b : Below w.heap.size w W) => pcheck_no (h.below b) hs)
  have H4 := Lib.hid (fun W (b : Below w.heap.size w W) => pcount_no (h.below b) hs)
  have H5 := Lib.hid (fun W (b : Below w.heap.size w W) => proom_no (h.below b) hs)
  clear h hs
  go_enter Try.func9, Try.ntmps9
  go_wp2_with (first
    | (go_at_call 38; refine HR.out.mono ?_; rintro e w1 ⟨rfl, b1⟩)
    | (go_at_call 39; refine (H1.out _ b1).mono ?_; rintro e w2 ⟨rfl, b⟩; have b2 := b1.trans (b.mono b1.size); clear b)
    | (go_at_call 40; refine (H2.out _ b2).mono ?_; rintro e w3 ⟨rfl, b⟩; have b3 := b2.trans (b.mono b2.size); clear b)
    | (go_at_call 30; refine (HL.out _).mono ?_; rintro e w4 ⟨rfl, b⟩; have b4 := b3.trans (b.mono b3.size); clear b)
    | (go_at_call 41; refine (H3.out _ b4).mono ?_; rintro e w5 ⟨rfl, b⟩; have b5 := b4.trans (b.mono b4.size); clear b)
    | (go_at_call 36; refine (H4.out _ b5).mono ?_; rintro e w6 ⟨rfl, b⟩; have b6 := b5.trans (b.mono b5.size); clear b)
    | (go_at_call 37; refine (H5.out _ b6).mono ?_; rintro e w7 ⟨rfl, b⟩; have b7 := b6.trans (b.mono b6.size); clear b))
  go_ret
  exact ⟨by trivial, b7⟩
set_option maxHeartbeats 400000 in
theorem reads_out (h : RdB w A n c p) (hn : ¬ 2000 < n) (i : Int) {rows : Rows} {a : Nat} (hs : scanS p = some (rows, a)) (hi : ¬ (0 ≤ i ∧ i < rows.length)) : Calls Try.prog 9 #[.slice A n c, .int .i64 i] w fun e w' => e = .returned (.bool true) ∧ Below w.heap.size w w' := by
  have hr5 := scanS_rows h.isb hs
  have HL := Lib.hid plives
  have HR := Lib.hid (prows_yes h hs)
  have H1 := Lib.hid (fun W (b : Below w.heap.size w W) => pget_none (h.below b) hs i hi)
  have H2 := Lib.hid (fun W (b : Below w.heap.size w W) => rrows_yes (h.below b) hs)
  have H3 := Lib.hid (fun W (b : Below w.heap.size w W) => pcheck_yes (h.below b) hs)
  have H4 := Lib.hid (fun W (b : Below w.heap.size w W) => pcount_yes (h.below b) hs)
  have HS := Lib.hid (fun W A1 A2 c1 c2 hds1 hds2 (x : RdL W A1 rows.length hds1 rows) (y : RdL W A2 rows.length hds2 rows) => samelist_rdl (c := c1) (c2 := c2) x y)
  clear h hs
  obtain ⟨k, hk⟩ : ∃ k, k = rows.length := ⟨_, rfl⟩
  rw [← hk] at HR H2 H4 HS hi hr5
  have hcase : i < 0 ∨ (0 ≤ i ∧ (k : Int) ≤ i) := by omega
  clear hi hk
  rcases hcase with hi | ⟨hi0, hi⟩
  all_goals
    go_enter Try.func9, Try.ntmps9
    go_wp2_with (first
      | (go_at_call 38; refine HR.out.mono ?_; rintro e w1 ⟨B1, c1, hds1, rfl, ho, hr, b1⟩; have L1 := Lib.hid (RdL.of_own ho hr); clear ho hr)
      | (go_at_call 39; refine (H1.out _ b1).mono ?_; rintro e w2 ⟨rfl, b⟩; have b2 := b1.trans (b.mono b1.size); have L2 := Lib.hid (L1.out.below b); clear b)
      | (go_at_call 40; refine (H2.out _ b2).mono ?_; rintro e w3 ⟨B3, c3, hds3, rfl, ho, hr, b⟩; have b3 := b2.trans (b.mono b2.size); have L3 := Lib.hid (And.intro (L2.out.below b) (RdL.of_own ho hr)); clear ho hr b)
      | (go_at_call 30; refine (HL.out _).mono ?_; rintro e w4 ⟨rfl, b⟩; have b4 := b3.trans (b.mono b3.size); have L4 := Lib.hid (And.intro (L3.out.1.below b) (L3.out.2.below b)); clear b)
      | (go_at_call 27; refine (HS.out _ _ _ _ _ _ _ L4.out.1 L4.out.2).mono ?_; rintro e w5 ⟨rfl, b⟩; have b5 := b4.trans (b.mono b4.size); clear b)
      | (go_at_call 41; refine (H3.out _ b5).mono ?_; rintro e w6 ⟨rfl, b⟩; have b6 := b5.trans (b.mono b5.size); clear b)
      | (go_at_call 36; refine (H4.out _ b6).mono ?_; rintro e w7 ⟨rfl, b⟩; have b7 := b6.trans (b.mono b6.size); clear b))
    all_goals first
      | (exfalso; omega)
      | (go_ret; exact ⟨by trivial, b7⟩)
set_option maxHeartbeats 400000 in
theorem reads_in (h : RdB w A n c p) (hn : ¬ 2000 < n) (i : Nat) {rows : Rows} {a : Nat} (hs : scanS p = some (rows, a)) {r : List V} (hi : rows[i]? = some r) : Calls Try.prog 9 #[.slice A n c, .int .i64 i] w fun e w' => e = .returned (.bool true) ∧ Below w.heap.size w w' := by
  have hr5 := scanS_rows h.isb hs
  have HL := Lib.hid plives
  have HR := Lib.hid (prows_yes h hs)
  have H1 := Lib.hid (fun W (b : Below w.heap.size w W) => pget_yes (h.below b) hs hi)
  have H2 := Lib.hid (fun W (b : Below w.heap.size w W) => rrows_yes (h.below b) hs)
  have H3 := Lib.hid (fun W (b : Below w.heap.size w W) => pcheck_yes (h.below b) hs)
  have H4 := Lib.hid (fun W (b : Below w.heap.size w W) => pcount_yes (h.below b) hs)
  have HS := Lib.hid (fun W A1 A2 c1 c2 hds1 hds2 (x : RdL W A1 rows.length hds1 rows) (y : RdL W A2 rows.length hds2 rows) => samelist_rdl (c := c1) (c2 := c2) x y)
  have HSm := Lib.hid (fun W A A2 n c c2 (h1 : RdV W A n r) (h2 : RdV W A2 n r) => same_same (c := c) (c2 := c2) r h1 h2)
  have hil : i < rows.length := (List.getElem?_eq_some_iff.1 hi).1
  have HI := Lib.hid hi
  clear h hs hi
  obtain ⟨k, hk⟩ : ∃ k, k = rows.length := ⟨_, rfl⟩
  rw [← hk] at HR H2 H4 HS hr5 hil
  have h0 : ¬ (i : Int) < 0 := by omega
  clear hk
  go_enter Try.func9, Try.ntmps9
  go_wp2_with (first
    | (go_at_call 38; refine HR.out.mono ?_; rintro e w1 ⟨B1, c1, hds1, rfl, ho, hr, b1⟩; have L1 := Lib.hid (RdL.of_own ho hr); clear ho hr)
    | (go_at_call 39; refine (H1.out _ b1).mono ?_; rintro e w2 ⟨B2, m2, c2, rfl, hx, b⟩; have b2 := b1.trans (b.mono b1.size); have L2 := Lib.hid (And.intro (L1.out.below b) hx); clear b hx)
    | (go_at_call 40; refine (H2.out _ b2).mono ?_; rintro e w3 ⟨B3, c3, hds3, rfl, ho, hr, b⟩; have b3 := b2.trans (b.mono b2.size); have L3 := Lib.hid (And.intro (L2.out.1.below b) (And.intro (RdL.of_own ho hr) (L2.out.2.below b))); clear ho hr b)
    | (go_at_call 30; refine (HL.out _).mono ?_; rintro e w4 ⟨rfl, b⟩; have b4 := b3.trans (b.mono b3.size); have L4 := Lib.hid (And.intro (L3.out.1.below b) (And.intro (L3.out.2.1.below b) (L3.out.2.2.below b))); clear b)
    | (go_at_call 27; refine (HS.out _ _ _ _ _ _ _ L4.out.1 L4.out.2.1).mono ?_; rintro e w5 ⟨rfl, b⟩; have b5 := b4.trans (b.mono b4.size); have L5 := Lib.hid (And.intro (L4.out.2.1.below b) (L4.out.2.2.below b)); clear b)
    | (go_at_call 41; refine (H3.out _ b5).mono ?_; rintro e w6 ⟨rfl, b⟩; have b6 := b5.trans (b.mono b5.size); have L6 := Lib.hid (And.intro (L5.out.1.below b) (L5.out.2.below b)); clear b)
    | (go_at_call 36; refine (H4.out _ b6).mono ?_; rintro e w7 ⟨rfl, b⟩; have b7 := b6.trans (b.mono b6.size); have L7 := Lib.hid (And.intro (L6.out.1.below b) (L6.out.2.below b)); clear b; obtain ⟨adx, Bx, mx, cx, rx, hax, _, hrx, _, hcx, hvx⟩ := L7.out.1.at_ hil; subst hax; obtain rfl : r = rx := Option.some.inj (HI.out.symm.trans hrx); obtain rfl : m2 = mx := L7.out.2.len.symm.trans hvx.len; have HV := Lib.hid hvx; clear hrx hvx)
    | (go_at_call 42; refine (HSm.out _ _ _ _ _ _ L7.out.2 HV.out).mono ?_; rintro e w8 ⟨rfl, b⟩; have b8 := b7.trans (b.mono b7.size); clear b))
  go_ret
  exact ⟨by trivial, b8⟩
end
theorem PageReads.walk {w : World} (A : Option Addr) (n c : Nat) (p : List Int) (h : RdB w A n c p) (i : Int) (_ : (Lit.int .i64 i).wf = true) : Calls Try.prog 9 #[.slice A n c, .int .i64 i] w fun e w' => e = .returned (.bool true) ∧ Below w.heap.size w w' := by
  by_cases hn : 2000 < n
  · exact reads_big h hn h.rd.2.1 i
  · cases hs : scanS p with
    | none => exact reads_no h hn i hs
    | some x =>
      obtain ⟨rows, a⟩ := x
      by_cases hi : 0 ≤ i ∧ i < rows.length
      · obtain ⟨j, rfl⟩ : ∃ j : Nat, i = j := ⟨i.toNat, by omega⟩
        exact reads_in h hn j hs (List.getElem?_eq_getElem (by omega))
      · exact reads_out h hn i hs hi
end Go.Proofs.Ytlldkdhpilcilaa
