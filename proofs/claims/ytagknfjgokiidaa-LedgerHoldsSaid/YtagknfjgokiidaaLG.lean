/- the ledger: Give, Grant, Held, Left, Peak, Most. -/
import Derived.Test.YtagknfjgokiidaaLS
namespace Go.Proofs.Ytagknfjgokiidaa
open Go.RowKit Go.Maps
set_option linter.unusedVariables false
set_option linter.unusedSimpArgs false

def LPost (w : World) (bl bm : Nat) (B : Int → Nat) (s s' : Ls) (w' : World) : Prop :=
  ∃ B', Lst w' bl bm B' s' ∧ Turn (LS bl bm B s) w w' ∧ ∀ k, LS bl bm B' s' k → LS bl bm B s k ∨ w.heap.size ≤ k
theorem LPost.same {w w' : World} {bl bm : Nat} {B : Int → Nat} {s : Ls} (H : Lst w bl bm B s) (hb : Below w.heap.size w w') : LPost w bl bm B s s w' :=
  ⟨B, H.below hb, Turn.of_below hb _, fun _ h => .inl h⟩
/-- One account has turned, in place. -/
theorem LPost.upd {w w' : World} {bl bm : Nat} {B : Int → Nat} {s s' : Ls} {a : Acc} {f : Acc → Acc} (H : Lst w bl bm B s) (ho : s.l.Pairwise (fun x y => x.n < y.n)) (ha : a ∈ s.l) (hl : s'.l = updL s.l a.n f) (hn : ∀ x, (f x).n = x.n)
    (ht : Turn (fun k => k = bl ∨ k = B a.n) w w') (h1 : w'.heap[bl]? = some (.cells #[.map (some bm), .int .i64 s'.made, .int .i64 s'.most] 90 (0, 0))) (h2 : w'.heap[B a.n]? = some (acObj ((f a).ac B))) : LPost w bl bm B s s' w' := by
  refine ⟨B, H.upd ho ha hl hn ht h1 h2, ht.mono ?_, ?_⟩
  · rintro k (rfl | rfl)
    · exact .inl rfl
    · exact .inr (.inr ⟨a, ha, rfl⟩)
  · rintro k (rfl | rfl | ⟨x, hx, rfl⟩)
    · exact .inl (.inl rfl)
    · exact .inl (.inr (.inl rfl))
    · rw [hl] at hx
      rcases updL_mem hx with ⟨hx, _⟩ | ⟨y, hy, e, rfl⟩
      · exact .inl (.inr (.inr ⟨x, hx, rfl⟩))
      · exact .inl (.inr (.inr ⟨y, hy, by rw [hn]⟩))
theorem give_walk {w : World} {bl bm : Nat} {B : Int → Nat} {s : Ls} {G n p : Int} (H : Lst w bl bm B s) (K : LOk G s) (wn : (Lit.int .i64 n).wf = true) (wp : (Lit.int .i64 p).wf = true) :
    Calls Try.prog 29 #[.pointer (some ⟨bl, 0, Option.none⟩), .int .i64 n, .int .i64 p] w fun e w' => e = .returned (.int .i64 (s.giveE n p)) ∧ LPost w bl bm B s (s.give_ n p) w' := by
  have HR := Lib.hid (fun W (b : Below w.heap.size w W) => lready (H.below b) K.ord)
  have HH := Lib.hid (And.intro H K)
  cases hf : s.find n with
  | none =>
    have e0 : s.giveE n p = 4 := by unfold Ls.giveE; rw [hf]
    rw [give_keep (by rw [e0]; decide), e0]
    clear e0
    have HF := Lib.hid (lfind_no H K.ord wn hf)
    clear hf H K
    go_enter Try.func29, Try.ntmps29
    go_wp2_with (first
      | (go_at_call 47; refine HF.out.mono ?_; rintro e w1 ⟨rfl, _, b1⟩)
      | (go_at_call 48; refine (HR.out w1 b1).mono ?_; rintro e w2 ⟨rfl, hw2⟩; obtain rfl := hw2.symm; clear hw2))
    go_ret
    exact ⟨by trivial, LPost.same HH.out.1 b1⟩
  | some a =>
    have HF := Lib.hid (lfind_yes H K.ord wn hf)
    obtain ⟨ha, rfl⟩ := find_mem hf
    have HE := Lib.hid hf
    have hac := K.acc a ha
    have hgr := K.gr0 ha
    obtain ⟨c0, c1, c2, c3, c4, c5, hb⟩ := ac_cells (H.acc a ha)
    have hfr := free_of_blk (H.acc a ha) 2
    dsimp only [Acc.ac] at c0 c1 c2 c3 c4 c5
    have HA := Lib.hid (H.acc a ha)
    have HB := Lib.hid ha
    clear hf H K ha
    by_cases h1 : p < 0
    · have e0 : s.giveE a.n p = 1 := by unfold Ls.giveE; rw [HE.out]; exact if_pos (.inl h1)
      rw [give_keep (by rw [e0]; decide), e0]
      clear e0
      go_enter Try.func29, Try.ntmps29
      go_wp2_with (first
        | (go_at_call 47; refine HF.out.mono ?_; rintro e w1 ⟨rfl, hw⟩; obtain rfl := hw.symm; clear hw)
        | (go_at_call 48; refine (HR.out _ (Below.refl _ _)).mono ?_; rintro e w2 ⟨rfl, hw2⟩; obtain rfl := hw2.symm; clear hw2))
      go_ret
      exact ⟨by trivial, LPost.same HH.out.1 (Below.refl _ _)⟩
    · have h1d : decide (p < 0) = false := by simpa using h1
      by_cases h2 : a.held < p
      · have e0 : s.giveE a.n p = 1 := by unfold Ls.giveE; rw [HE.out]; exact if_pos (.inr h2)
        rw [give_keep (by rw [e0]; decide), e0]
        clear e0
        go_enter Try.func29, Try.ntmps29
        go_wp2_with (first
          | (go_at_call 47; refine HF.out.mono ?_; rintro e w1 ⟨rfl, hw⟩; obtain rfl := hw.symm; clear hw)
          | (go_at_call 48; refine (HR.out _ (Below.refl _ _)).mono ?_; rintro e w2 ⟨rfl, hw2⟩; obtain rfl := hw2.symm; clear hw2))
        go_ret
        exact ⟨by trivial, LPost.same HH.out.1 (Below.refl _ _)⟩
      · have e0 : s.giveE a.n p = 0 := by unfold Ls.giveE; rw [HE.out]; exact if_neg (by omega)
        rw [give_do e0, e0]
        clear e0
        go_enter Try.func29, Try.ntmps29
        go_wp2_with (first
          | (go_at_call 47; refine HF.out.mono ?_; rintro e w1 ⟨rfl, hw⟩; obtain rfl := hw.symm; clear hw)
          | (go_at_call 48; refine (HR.out _ (Below.refl _ _)).mono ?_; rintro e w2 ⟨rfl, hw2⟩; obtain rfl := hw2.symm; clear hw2))
        go_ret
        obtain ⟨H, K⟩ := HH.out
        have hne := H.ne.2.1 a HB.out
        refine ⟨by trivial, LPost.upd (f := giveA p) H K.ord HB.out rfl (fun _ => rfl) ((Turn.refl _ _).setCell (.inl (.inr rfl)) _) (blk_far H.led (fun e => hne e.symm) _) (blk_set HA.out 2 _)⟩
theorem agrant {w : World} {bl bm : Nat} {B : Int → Nat} {s : Ls} {G n : Int} (H : Lst w bl bm B s) (K : LOk G s) (wn : (Lit.int .i64 n).wf = true) :
    Calls Try.prog 32 #[.pointer (some ⟨bl, 0, Option.none⟩), .int .i64 n] w fun e w' => e = .returned (.int .i64 ((s.find n).elim 0 (·.grant))) ∧ Below w.heap.size w w' := by
  cases hf : s.find n with
  | none =>
    have HF := Lib.hid (lfind_no H K.ord wn hf)
    clear hf H K
    go_enter Try.func32, Try.ntmps32
    go_wp2_with (go_at_call 47; refine HF.out.mono ?_; rintro e w1 ⟨rfl, hg, b1⟩; obtain ⟨c0, c1, c2, c3, c4, c5, hb⟩ := ac_cells hg; dsimp only [Ac.none] at c0 c1 c2 c3 c4 c5; clear hg)
    go_ret
    exact ⟨by trivial, b1⟩
  | some a =>
    have HF := Lib.hid (lfind_yes H K.ord wn hf)
    obtain ⟨ha, rfl⟩ := find_mem hf
    obtain ⟨c0, c1, c2, c3, c4, c5, hb⟩ := ac_cells (H.acc a ha)
    dsimp only [Acc.ac] at c0 c1 c2 c3 c4 c5
    clear hf H K ha
    go_enter Try.func32, Try.ntmps32
    go_wp2_with (go_at_call 47; refine HF.out.mono ?_; rintro e w1 ⟨rfl, hw⟩; obtain rfl := hw.symm; clear hw)
    go_ret
    exact ⟨by trivial, Below.refl _ _⟩
theorem aheld {w : World} {bl bm : Nat} {B : Int → Nat} {s : Ls} {G n : Int} (H : Lst w bl bm B s) (K : LOk G s) (wn : (Lit.int .i64 n).wf = true) :
    Calls Try.prog 31 #[.pointer (some ⟨bl, 0, Option.none⟩), .int .i64 n] w fun e w' => e = .returned (.int .i64 ((s.find n).elim 0 (·.held))) ∧ Below w.heap.size w w' := by
  cases hf : s.find n with
  | none =>
    have HF := Lib.hid (lfind_no H K.ord wn hf)
    clear hf H K
    go_enter Try.func31, Try.ntmps31
    go_wp2_with (go_at_call 47; refine HF.out.mono ?_; rintro e w1 ⟨rfl, hg, b1⟩; obtain ⟨c0, c1, c2, c3, c4, c5, hb⟩ := ac_cells hg; dsimp only [Ac.none] at c0 c1 c2 c3 c4 c5; clear hg)
    go_ret
    exact ⟨by trivial, b1⟩
  | some a =>
    have HF := Lib.hid (lfind_yes H K.ord wn hf)
    obtain ⟨ha, rfl⟩ := find_mem hf
    obtain ⟨c0, c1, c2, c3, c4, c5, hb⟩ := ac_cells (H.acc a ha)
    dsimp only [Acc.ac] at c0 c1 c2 c3 c4 c5
    clear hf H K ha
    go_enter Try.func31, Try.ntmps31
    go_wp2_with (go_at_call 47; refine HF.out.mono ?_; rintro e w1 ⟨rfl, hw⟩; obtain rfl := hw.symm; clear hw)
    go_ret
    exact ⟨by trivial, Below.refl _ _⟩
theorem apeak {w : World} {bl bm : Nat} {B : Int → Nat} {s : Ls} {G n : Int} (H : Lst w bl bm B s) (K : LOk G s) (wn : (Lit.int .i64 n).wf = true) :
    Calls Try.prog 34 #[.pointer (some ⟨bl, 0, Option.none⟩), .int .i64 n] w fun e w' => e = .returned (.int .i64 ((s.find n).elim 0 (·.peak))) ∧ Below w.heap.size w w' := by
  cases hf : s.find n with
  | none =>
    have HF := Lib.hid (lfind_no H K.ord wn hf)
    clear hf H K
    go_enter Try.func34, Try.ntmps34
    go_wp2_with (go_at_call 47; refine HF.out.mono ?_; rintro e w1 ⟨rfl, hg, b1⟩; obtain ⟨c0, c1, c2, c3, c4, c5, hb⟩ := ac_cells hg; dsimp only [Ac.none] at c0 c1 c2 c3 c4 c5; clear hg)
    go_ret
    exact ⟨by trivial, b1⟩
  | some a =>
    have HF := Lib.hid (lfind_yes H K.ord wn hf)
    obtain ⟨ha, rfl⟩ := find_mem hf
    obtain ⟨c0, c1, c2, c3, c4, c5, hb⟩ := ac_cells (H.acc a ha)
    dsimp only [Acc.ac] at c0 c1 c2 c3 c4 c5
    clear hf H K ha
    go_enter Try.func34, Try.ntmps34
    go_wp2_with (go_at_call 47; refine HF.out.mono ?_; rintro e w1 ⟨rfl, hw⟩; obtain rfl := hw.symm; clear hw)
    go_ret
    exact ⟨by trivial, Below.refl _ _⟩
theorem aleftN {w : World} {bl bm : Nat} {B : Int → Nat} {s : Ls} {G n : Int} (H : Lst w bl bm B s) (K : LOk G s) (wn : (Lit.int .i64 n).wf = true) :
    Calls Try.prog 33 #[.pointer (some ⟨bl, 0, Option.none⟩), .int .i64 n] w fun e w' => e = .returned (.int .i64 ((s.find n).elim 0 (·.left))) ∧ Below w.heap.size w w' := by
  cases hf : s.find n with
  | none =>
    have HF := Lib.hid (lfind_no H K.ord wn hf)
    clear hf H K
    go_enter Try.func33, Try.ntmps33
    go_wp2_with (first
      | (go_at_call 47; refine HF.out.mono ?_; rintro e w1 ⟨rfl, hg, b1⟩; have HL := Lib.hid (left_walk hg (by decide) (by decide) (by decide) (by decide) (by decide) (by decide)); clear hg)
      | (go_at_call 49; refine HL.out.mono ?_; rintro e w2 ⟨rfl, b2⟩))
    go_ret
    exact ⟨by trivial, b1.trans (b2.mono b1.size)⟩
  | some a =>
    have HF := Lib.hid (lfind_yes H K.ord wn hf)
    obtain ⟨ha, rfl⟩ := find_mem hf
    have HL := Lib.hid (aleft K ha (H.acc a ha))
    clear hf H K ha
    go_enter Try.func33, Try.ntmps33
    go_wp2_with (first
      | (go_at_call 47; refine HF.out.mono ?_; rintro e w1 ⟨rfl, hw⟩; obtain rfl := hw.symm; clear hw)
      | (go_at_call 49; refine HL.out.mono ?_; rintro e w2 ⟨rfl, b2⟩))
    go_ret
    exact ⟨by trivial, b2⟩
theorem lmost {w : World} {bl bm : Nat} {B : Int → Nat} {s : Ls} {G : Int} (H : Lst w bl bm B s) (K : LOk G s) : Calls Try.prog 36 #[.pointer (some ⟨bl, 0, Option.none⟩)] w fun e w' => e = .returned (.int .i64 s.most) ∧ Below w.heap.size w w' := by
  have HR := Lib.hid (lready H K.ord)
  have c2 := cell_of_blk H.led 2
  clear H K
  go_enter Try.func36, Try.ntmps36
  go_wp2_with (go_at_call 48; refine HR.out.mono ?_; rintro e w2 ⟨rfl, hw2⟩; obtain rfl := hw2.symm; clear hw2)
  go_ret
  exact ⟨by trivial, Below.refl _ _⟩
end Go.Proofs.Ytagknfjgokiidaa
