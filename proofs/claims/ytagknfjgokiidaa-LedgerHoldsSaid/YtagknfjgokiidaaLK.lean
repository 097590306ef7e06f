/- the ledger: Take. -/
import Derived.Test.YtagknfjgokiidaaLT
import Derived.Deep.RegionWith
namespace Go.Proofs.Ytagknfjgokiidaa
open Go.RowKit Go.Maps
set_option linter.unusedVariables false
set_option linter.unusedSimpArgs false

theorem take_total {G p : Int} {s : Ls} (K : LOk G s) {a : Acc} (ha : a ∈ s.l) (h : s.takeE a.n p = 0) : sumL (updL s.l a.n (holdA p)) (·.held) ≤ 16384 ∧ ∀ x ∈ updL s.l a.n (holdA p), 0 ≤ x.held := by
  have h1 := K.take_ a.n p
  rw [take_do h] at h1
  have h2 := h1.total_le
  have h3 := h1.grantG
  exact ⟨by have : sumL (updL s.l a.n (holdA p)) (·.held) ≤ G := h2.2; omega, fun x hx => (h1.acc x hx).1⟩
set_option maxHeartbeats 2000000 in
theorem take_walk {w : World} {bl bm : Nat} {B : Int → Nat} {s : Ls} {G n p : Int} (H : Lst w bl bm B s) (K : LOk G s) (wn : (Lit.int .i64 n).wf = true) (wp : (Lit.int .i64 p).wf = true) :
    Calls Try.prog 28 #[.pointer (some ⟨bl, 0, Option.none⟩), .int .i64 n, .int .i64 p] w fun e w' => e = .returned (.int .i64 (s.takeE n p)) ∧ LPost w bl bm B s (s.take_ n p) w' := by
  have HR := Lib.hid (fun W (b : Below w.heap.size w W) => lready (H.below b) K.ord)
  have HH := Lib.hid (And.intro H K)
  cases hf : s.find n with
  | none =>
    have HF := Lib.hid (lfind_no H K.ord wn hf)
    have e0 : s.takeE n p = if p < 0 then 1 else 4 := by unfold Ls.takeE; rw [hf]
    rw [take_keep (by rw [e0]; split <;> decide), e0]
    clear e0 hf H K
    by_cases hp : p < 0
    · rw [if_pos hp]
      go_enter Try.func28, Try.ntmps28
      go_wp2_with (first
        | (go_at_call 47; refine HF.out.mono ?_; rintro e w1 ⟨rfl, _, b1⟩)
        | (go_at_call 48; refine (HR.out w1 b1).mono ?_; rintro e w2 ⟨rfl, hw2⟩; obtain rfl := hw2.symm; clear hw2))
      go_ret
      exact ⟨by trivial, LPost.same HH.out.1 b1⟩
    · rw [if_neg hp]
      go_enter Try.func28, Try.ntmps28
      go_wp2_with (first
        | (go_at_call 47; refine HF.out.mono ?_; rintro e w1 ⟨rfl, _, b1⟩)
        | (go_at_call 48; refine (HR.out w1 b1).mono ?_; rintro e w2 ⟨rfl, hw2⟩; obtain rfl := hw2.symm; clear hw2))
      go_ret
      exact ⟨by trivial, LPost.same HH.out.1 b1⟩
  | some a =>
    have HF := Lib.hid (lfind_yes H K.ord wn hf)
    obtain ⟨ha, rfl⟩ := find_mem hf
    have HE := Lib.hid hf
    have hac := K.acc a ha
    have hgr := K.gr0 ha
    have HL := Lib.hid (aleft K ha (H.acc a ha))
    have HA := Lib.hid (H.acc a ha)
    have HB := Lib.hid ha
    clear hf H K ha
    by_cases h1 : p < 0
    · have e0 : s.takeE a.n p = 1 := by unfold Ls.takeE; exact if_pos h1
      rw [take_keep (by rw [e0]; decide), e0]
      clear e0
      go_enter Try.func28, Try.ntmps28
      go_wp2_with (first
        | (go_at_call 47; refine HF.out.mono ?_; rintro e w1 ⟨rfl, hw⟩; obtain rfl := hw.symm; clear hw)
        | (go_at_call 48; refine (HR.out _ (Below.refl _ _)).mono ?_; rintro e w2 ⟨rfl, hw2⟩; obtain rfl := hw2.symm; clear hw2))
      go_ret
      exact ⟨by trivial, LPost.same HH.out.1 (Below.refl _ _)⟩
    · by_cases h2 : a.left < p
      · have e0 : s.takeE a.n p = 60 := by unfold Ls.takeE; rw [if_neg h1, HE.out]; exact if_pos h2
        rw [take_keep (by rw [e0]; decide), e0]
        clear e0
        go_enter Try.func28, Try.ntmps28
        go_wp2_with (first
          | (go_at_call 47; refine HF.out.mono ?_; rintro e w1 ⟨rfl, hw⟩; obtain rfl := hw.symm; clear hw)
          | (go_at_call 48; refine (HR.out _ (Below.refl _ _)).mono ?_; rintro e w2 ⟨rfl, hw2⟩; obtain rfl := hw2.symm; clear hw2)
          | (go_at_call 49; refine HL.out.mono ?_; rintro e w3 ⟨rfl, b3⟩))
        go_ret
        exact ⟨by trivial, LPost.same HH.out.1 b3⟩
      · have e0 : s.takeE a.n p = 0 := by unfold Ls.takeE; rw [if_neg h1, HE.out]; exact if_neg h2
        have HTT := Lib.hid (take_total HH.out.2 HB.out e0)
        rw [take_do e0, e0]
        clear e0
        unfold Acc.left at h2 HL
        go_enter Try.func28, Try.ntmps28
        go_wp2_with (first
          | (go_at_call 47; refine HF.out.mono ?_; rintro e w1 ⟨rfl, hw⟩; obtain rfl := hw.symm; clear hw)
          | (go_at_call 48; refine (HR.out _ (Below.refl _ _)).mono ?_; rintro e w2 ⟨rfl, hw2⟩; obtain rfl := hw2.symm; clear hw2)
          | (go_at_call 49; refine HL.out.mono ?_; rintro e w3 ⟨rfl, b3⟩; have H3 := Lib.hid (HH.out.1.below b3); have HA3 := Lib.hid (blk_below HA.out b3 (lt_of_heap HA.out)); obtain ⟨c0, c1, c2, c3, c4, c5, hb⟩ := ac_cells HA3.out; have hfr2 := free_of_blk HA3.out 2; have hfr3 := free_of_blk HA3.out 3; dsimp only [Acc.ac] at c0 c1 c2 c3 c4 c5))
        go_region
        go_wp2
        have hT4 : Turn (fun k => k = bl ∨ k = B a.n) w (((w3.setCell { block := B a.n, off := 2 } (Value.int IntKind.i64 (a.held + p))).setCell { block := B a.n, off := 3 } (Value.int IntKind.i64 (max a.peak (a.held + p)))).drew) := ((((Turn.of_below b3 _).setCell (.inl (.inr rfl)) _).setCell (.inl (.inr rfl)) _).drew)
        have hne := HH.out.1.ne.2.1 a HB.out
        have hb4 : (((w3.setCell { block := B a.n, off := 2 } (Value.int IntKind.i64 (a.held + p))).setCell { block := B a.n, off := 3 } (Value.int IntKind.i64 (max a.peak (a.held + p)))).drew).heap[bl]? = some (.cells #[.map (some bm), .int .i64 s.made, .int .i64 s.most] 90 (0, 0)) := blk_far (blk_far H3.out.led (fun e => hne e.symm) _) (fun e => hne e.symm) _
        have ha4 : (((w3.setCell { block := B a.n, off := 2 } (Value.int IntKind.i64 (a.held + p))).setCell { block := B a.n, off := 3 } (Value.int IntKind.i64 (max a.peak (a.held + p)))).drew).heap[B a.n]? = some (acObj ((holdA p a).ac B)) := blk_set (blk_set HA3.out 2 _) 3 _
        clear c0 c1 c2 c3 c4 c5 hfr2 hfr3 hb
        generalize (((w3.setCell { block := B a.n, off := 2 } (Value.int IntKind.i64 (a.held + p))).setCell { block := B a.n, off := 3 } (Value.int IntKind.i64 (max a.peak (a.held + p)))).drew) = w4 at hT4 hb4 ha4 ⊢
        have HS4 : Hid (Lst w4 bl bm B ⟨s.made, s.most, updL s.l a.n (holdA p)⟩) := HH.out.1.upd (f := holdA p) HH.out.2.ord HB.out rfl (fun _ => rfl) hT4 hb4 ha4
        have HTot := Lib.hid (fun W (b : Below w4.heap.size w4 W) => ltotal (HS4.out.below b) (updL_ord (fun _ => rfl) HH.out.2.ord) HTT.out.2 HTT.out.1)
        have hl2 : w4.cell? ⟨bl, 2, Option.none⟩ = some (.int .i64 s.most) := cell_of_blk hb4 2
        have HL4 := Lib.hid hb4
        have HA4 := Lib.hid ha4
        have HT4 := Lib.hid hT4
        clear hT4 hb4 ha4
        go_region_with (go_at_call 35; refine (HTot.out w4.drew (show Below w4.heap.size w4 w4.drew from ⟨rfl, rfl, rfl, Nat.le_refl _, fun _ _ => rfl⟩)).mono ?_; rintro e w5 ⟨rfl, b5⟩; have hl5 : w5.cell? ⟨bl, 2, Option.none⟩ = some (.int .i64 s.most) := cell_of_blk (blk_below (w := w4.drew) HL4.out b5 (lt_of_heap HL4.out)) 2; have hf5 : w5.frozen? ⟨bl, 2, Option.none⟩ = false := free_of_blk (blk_below (w := w4.drew) HL4.out b5 (lt_of_heap HL4.out)) 2)
        all_goals go_wp2
        all_goals go_ret
        all_goals exact ⟨rfl, LPost.upd (f := holdA p) HH.out.1 HH.out.2.ord HB.out rfl (fun _ => rfl) ((((HT4.out.drew).then_ (S2 := fun _ => False) (Turn.of_below (b5.mono (Nat.le_refl _)) _) (fun _ h => h.elim))).setCell (.inl (.inl rfl)) _) (blk_set (blk_below (w := w4.drew) HL4.out b5 (lt_of_heap HL4.out)) 2 _) (blk_far (blk_below (w := w4.drew) HA4.out b5 (lt_of_heap HA4.out)) hne _)⟩
end Go.Proofs.Ytagknfjgokiidaa
