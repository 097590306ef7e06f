/- LedgerHolds: the readers as quiet calls. -/
import Derived.Test.YtagknfjgokiidaaLR
import Derived.Deep.QuietTactic
import Derived.BigQuiet
namespace Go.Proofs.Ytagknfjgokiidaa
open Go.RowKit Go.Maps Go.Deep
set_option linter.unusedVariables false
set_option linter.unusedSimpArgs false

theorem find_get {s : Ls} (ho : s.l.Pairwise (fun x y => x.n < y.n)) {i : Nat} {a : Acc} (h : s.l[i]? = some a) : s.find a.n = some a := find_of_mem ho (List.mem_of_getElem? h)
section
variable {w : World} {bl bm : Nat} {B : Int → Nat} {s : Ls} {G : Int} {a : Acc}
theorem q_grant (H : Lst w bl bm B s) (K : LOk G s) (wn : (Lit.int .i64 a.n).wf = true) (hf : s.find a.n = some a) : Calls Try.prog 32 #[lp bl, .int .i64 a.n] w fun e w' => e = .returned (.int .i64 a.grant) ∧ w' = w := by
  have HF := Lib.hid (lfind_yes H K.ord wn hf)
  obtain ⟨ha, _⟩ := find_mem hf
  obtain ⟨c0, c1, c2, c3, c4, c5, hb⟩ := ac_cells (H.acc a ha)
  dsimp only [Acc.ac] at c0 c1 c2 c3 c4 c5
  clear hf H K ha
  go_enter Try.func32, Try.ntmps32
  go_wp2_with (go_at_call 47; refine HF.out.mono ?_; rintro e w1 ⟨rfl, hw⟩; obtain rfl := hw.symm; clear hw)
  go_ret
  exact ⟨by trivial, rfl⟩
theorem q_held (H : Lst w bl bm B s) (K : LOk G s) (wn : (Lit.int .i64 a.n).wf = true) (hf : s.find a.n = some a) : Calls Try.prog 31 #[lp bl, .int .i64 a.n] w fun e w' => e = .returned (.int .i64 a.held) ∧ w' = w := by
  have HF := Lib.hid (lfind_yes H K.ord wn hf)
  obtain ⟨ha, _⟩ := find_mem hf
  obtain ⟨c0, c1, c2, c3, c4, c5, hb⟩ := ac_cells (H.acc a ha)
  dsimp only [Acc.ac] at c0 c1 c2 c3 c4 c5
  clear hf H K ha
  go_enter Try.func31, Try.ntmps31
  go_wp2_with (go_at_call 47; refine HF.out.mono ?_; rintro e w1 ⟨rfl, hw⟩; obtain rfl := hw.symm; clear hw)
  go_ret
  exact ⟨by trivial, rfl⟩
theorem q_peak (H : Lst w bl bm B s) (K : LOk G s) (wn : (Lit.int .i64 a.n).wf = true) (hf : s.find a.n = some a) : Calls Try.prog 34 #[lp bl, .int .i64 a.n] w fun e w' => e = .returned (.int .i64 a.peak) ∧ w' = w := by
  have HF := Lib.hid (lfind_yes H K.ord wn hf)
  obtain ⟨ha, _⟩ := find_mem hf
  obtain ⟨c0, c1, c2, c3, c4, c5, hb⟩ := ac_cells (H.acc a ha)
  dsimp only [Acc.ac] at c0 c1 c2 c3 c4 c5
  clear hf H K ha
  go_enter Try.func34, Try.ntmps34
  go_wp2_with (go_at_call 47; refine HF.out.mono ?_; rintro e w1 ⟨rfl, hw⟩; obtain rfl := hw.symm; clear hw)
  go_ret
  exact ⟨by trivial, rfl⟩
theorem left_quiet {b : Nat} {a : Ac} (h : w.heap[b]? = some (acObj a)) (h1 : 0 ≤ a.held) (h2 : 0 ≤ a.granted) (h3 : 0 ≤ a.grant) (h4 : a.held ≤ 100000) (h5 : a.granted ≤ 100000) (h6 : a.grant ≤ 100000) :
    Calls Try.prog 49 #[.pointer (some ⟨b, 0, Option.none⟩)] w fun e w' => e = .returned (.int .i64 (Ac.left a)) ∧ ∃ m, w' = w.drewN m := by
  obtain ⟨c0, c1, c2, c3, c4, c5, hb⟩ := ac_cells h
  obtain ⟨ab, g, hd, pk, gr, be⟩ := a
  dsimp only at *
  clear h
  go_enter Try.func49, Try.ntmps49
  go_wp2
  go_quiet (fail)
  go_wp2
  go_ret
  exact ⟨rfl, _, rfl⟩
theorem q_left (H : Lst w bl bm B s) (K : LOk G s) (wn : (Lit.int .i64 a.n).wf = true) (hf : s.find a.n = some a) : Calls Try.prog 33 #[lp bl, .int .i64 a.n] w fun e w' => e = .returned (.int .i64 a.left) ∧ ∃ m, w' = w.drewN m := by
  have HF := Lib.hid (lfind_yes H K.ord wn hf)
  obtain ⟨ha, _⟩ := find_mem hf
  have h1 := K.acc a ha
  have h2 := K.gr0 ha
  have HL := Lib.hid (left_quiet (H.acc a ha) (by dsimp only [Acc.ac]; omega) (by dsimp only [Acc.ac]; omega) (by dsimp only [Acc.ac]; omega) (by dsimp only [Acc.ac]; omega) (by dsimp only [Acc.ac]; omega) (by dsimp only [Acc.ac]; omega))
  clear hf H K ha h1 h2
  go_enter Try.func33, Try.ntmps33
  go_wp2_with (first
    | (go_at_call 47; refine HF.out.mono ?_; rintro e w1 ⟨rfl, hw⟩; obtain rfl := hw.symm; clear hw)
    | (go_at_call 49; refine HL.out.mono ?_; rintro e w2 ⟨rfl, m, rfl⟩))
  go_ret
  exact ⟨rfl, m, rfl⟩
end
theorem Lst.drewN {w : World} {bl bm : Nat} {B : Int → Nat} {s : Ls} (H : Lst w bl bm B s) (n : Nat) : Lst (w.drewN n) bl bm B s := H.turn (S := fun _ => False) ((Turn.refl _ _).drewN n) (fun _ _ => id)
end Go.Proofs.Ytagknfjgokiidaa
