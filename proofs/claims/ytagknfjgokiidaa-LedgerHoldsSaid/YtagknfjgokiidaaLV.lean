/- the ledger: lives(). -/
import Derived.Test.YtagknfjgokiidaaLC
import Derived.Test.YtagknfjgokiidaaLN
namespace Go.Proofs.Ytagknfjgokiidaa
open Go.RowKit Go.Maps
set_option linter.unusedVariables false
set_option linter.unusedSimpArgs false

/-- A ledger that lies above base, in a world that has kept what lay below. -/
structure LV (base : Nat) (w0 w : World) (bl : Nat) (s : Ls) : Prop where
  ex : ∃ bm B, Lst w bl bm B s ∧ ∀ k, LS bl bm B s k → base ≤ k
  le : base ≤ w.heap.size
  bel : Below base w0 w
theorem LV.below {base B : Nat} {w0 w w' : World} {bl : Nat} {s : Ls} (H : LV base w0 w bl s) (hb : Below w.heap.size w w') : LV base w0 w' bl s := by
  obtain ⟨bm, B, h1, h2⟩ := H.ex
  exact ⟨⟨bm, B, h1.below hb, h2⟩, Nat.le_trans H.le hb.size, H.bel.trans (hb.mono H.le)⟩
theorem LV.post {base : Nat} {w0 w w' : World} {bl bm : Nat} {B : Int → Nat} {s s' : Ls} (H : LV base w0 w bl s) (h2 : ∀ k, LS bl bm B s k → base ≤ k) (hp : LPost w bl bm B s s' w') : LV base w0 w' bl s' := by
  obtain ⟨B', h3, h4, h5⟩ := hp
  exact ⟨⟨bm, B', h3, fun k hk => (h5 k hk).elim (h2 k) (fun h => Nat.le_trans H.le h)⟩, Nat.le_trans H.le h4.size, H.bel.trans (h4.below H.le h2)⟩
section
variable {base : Nat} {w0 w : World} {bl : Nat} {s : Ls} {G : Int}
abbrev lp (bl : Nat) : Value := .pointer (some ⟨bl, 0, Option.none⟩)
theorem lv_open (H : LV base w0 w bl s) (K : LOk G s) (hm : s.made ≤ 1000000) {n g : Int} (wn : (Lit.int .i64 n).wf = true) (wg : (Lit.int .i64 g).wf = true) : Calls Try.prog 26 #[lp bl, .int .i64 n, .int .i64 g] w fun e w' => e = .returned (.tuple #[.int .i64 (if s.openE n g = 0 then s.made + 1 else 0), .int .i64 (s.openE n g)]) ∧ LV base w0 w' bl (s.open_ n g) := by
  obtain ⟨bm, B, h1, h2⟩ := H.ex
  exact (open_walk h1 K hm wn wg).mono fun e w' h => ⟨h.1, H.post h2 h.2⟩
theorem lv_close (H : LV base w0 w bl s) (K : LOk G s) {n : Int} (wn : (Lit.int .i64 n).wf = true) : Calls Try.prog 27 #[lp bl, .int .i64 n] w fun e w' => e = .returned (.int .i64 (s.closeE n)) ∧ LV base w0 w' bl (s.close_ n) := by
  obtain ⟨bm, B, h1, h2⟩ := H.ex
  exact (close_walk h1 K wn).mono fun e w' h => ⟨h.1, H.post h2 h.2⟩
theorem lv_take (H : LV base w0 w bl s) (K : LOk G s) {n g : Int} (wn : (Lit.int .i64 n).wf = true) (wg : (Lit.int .i64 g).wf = true) : Calls Try.prog 28 #[lp bl, .int .i64 n, .int .i64 g] w fun e w' => e = .returned (.int .i64 (s.takeE n g)) ∧ LV base w0 w' bl (s.take_ n g) := by
  obtain ⟨bm, B, h1, h2⟩ := H.ex
  exact (take_walk h1 K wn wg).mono fun e w' h => ⟨h.1, H.post h2 h.2⟩
theorem lv_give (H : LV base w0 w bl s) (K : LOk G s) {n g : Int} (wn : (Lit.int .i64 n).wf = true) (wg : (Lit.int .i64 g).wf = true) : Calls Try.prog 29 #[lp bl, .int .i64 n, .int .i64 g] w fun e w' => e = .returned (.int .i64 (s.giveE n g)) ∧ LV base w0 w' bl (s.give_ n g) := by
  obtain ⟨bm, B, h1, h2⟩ := H.ex
  exact (give_walk h1 K wn wg).mono fun e w' h => ⟨h.1, H.post h2 h.2⟩
theorem lv_grant (H : LV base w0 w bl s) (K : LOk G s) {n : Int} (wn : (Lit.int .i64 n).wf = true) : Calls Try.prog 32 #[lp bl, .int .i64 n] w fun e w' => e = .returned (.int .i64 ((s.find n).elim 0 (·.grant))) ∧ LV base w0 w' bl s := by
  obtain ⟨bm, B, h1, h2⟩ := H.ex
  exact (agrant h1 K wn).mono fun e w' h => ⟨h.1, H.below (B := 0) h.2⟩
theorem lv_held (H : LV base w0 w bl s) (K : LOk G s) {n : Int} (wn : (Lit.int .i64 n).wf = true) : Calls Try.prog 31 #[lp bl, .int .i64 n] w fun e w' => e = .returned (.int .i64 ((s.find n).elim 0 (·.held))) ∧ LV base w0 w' bl s := by
  obtain ⟨bm, B, h1, h2⟩ := H.ex
  exact (aheld h1 K wn).mono fun e w' h => ⟨h.1, H.below (B := 0) h.2⟩
theorem lv_peak (H : LV base w0 w bl s) (K : LOk G s) {n : Int} (wn : (Lit.int .i64 n).wf = true) : Calls Try.prog 34 #[lp bl, .int .i64 n] w fun e w' => e = .returned (.int .i64 ((s.find n).elim 0 (·.peak))) ∧ LV base w0 w' bl s := by
  obtain ⟨bm, B, h1, h2⟩ := H.ex
  exact (apeak h1 K wn).mono fun e w' h => ⟨h.1, H.below (B := 0) h.2⟩
theorem lv_left (H : LV base w0 w bl s) (K : LOk G s) {n : Int} (wn : (Lit.int .i64 n).wf = true) : Calls Try.prog 33 #[lp bl, .int .i64 n] w fun e w' => e = .returned (.int .i64 ((s.find n).elim 0 (·.left))) ∧ LV base w0 w' bl s := by
  obtain ⟨bm, B, h1, h2⟩ := H.ex
  exact (aleftN h1 K wn).mono fun e w' h => ⟨h.1, H.below (B := 0) h.2⟩
theorem lv_total (H : LV base w0 w bl s) (K : LOk G s) : Calls Try.prog 35 #[lp bl] w fun e w' => e = .returned (.int .i64 s.total) ∧ LV base w0 w' bl s := by
  obtain ⟨bm, B, h1, h2⟩ := H.ex
  exact (ltotal' h1 K).mono fun e w' h => ⟨h.1, H.below (B := 0) h.2⟩
theorem lv_most (H : LV base w0 w bl s) (K : LOk G s) : Calls Try.prog 36 #[lp bl] w fun e w' => e = .returned (.int .i64 s.most) ∧ LV base w0 w' bl s := by
  obtain ⟨bm, B, h1, h2⟩ := H.ex
  exact (lmost h1 K).mono fun e w' h => ⟨h.1, H.below (B := 0) h.2⟩
theorem lv_accounts (H : LV base w0 w bl s) (K : LOk G s) : Calls Try.prog 30 #[lp bl] w fun e w' => ∃ A c, e = .returned (.slice A s.l.length c) ∧ w'.ownsRow base 3 1 (.slice A s.l.length c) s.l.length (s.l.map fun a => Value.int .i64 a.n) ∧ (∀ k, (Value.slice A s.l.length c).ownBlock = some k → w.heap.size ≤ k) ∧ LV base w0 w' bl s := by
  obtain ⟨bm, B, h1, h2⟩ := H.ex
  refine (laccounts h1 K.ord K.len).mono fun e w' h => ?_
  obtain ⟨v, rfl, ho, hb⟩ := h
  obtain ⟨A, c, rfl⟩ := own_slice ho
  exact ⟨A, c, rfl, own_lower ho H.le, fun k hk => own_ge ho hk, H.below (B := 0) hb⟩
end
theorem lv_new {w : World} {g : Int} (h1 : 0 ≤ g) (h2 : g ≤ 16384) : Calls Try.prog 24 #[.int .i64 g] w fun e w' => ∃ bl, e = .returned (.tuple #[lp bl, .int .i64 0]) ∧ LV w.heap.size w w' bl (Ls.new g) :=
  (new_yes h1 h2).mono fun e w' ⟨bl, bm, B, e1, e2, e3, e4⟩ => ⟨bl, e1, ⟨bm, B, e2, e3⟩, e4.size, e4⟩
theorem LV.down {base base' : Nat} {w0 w w' : World} {bl : Nat} {s : Ls} (H : LV base w w' bl s) (hb : Below base' w0 w) (hz : base' ≤ base) : LV base' w0 w' bl s := by
  obtain ⟨bm, B, h1, h2⟩ := H.ex
  exact ⟨⟨bm, B, h1, fun k hk => Nat.le_trans hz (h2 k hk)⟩, Nat.le_trans hz H.le, hb.trans (H.bel.mono hz)⟩

abbrev s1 : Ls := ⟨1, 0, [⟨0, none, 5, 0, 0, 3, 1⟩, ⟨1, some 0, 3, 0, 0, 0, 0⟩]⟩
abbrev s2 : Ls := ⟨1, 3, [⟨0, none, 5, 0, 0, 3, 1⟩, ⟨1, some 0, 3, 3, 3, 0, 0⟩]⟩
abbrev s3 : Ls := ⟨1, 5, [⟨0, none, 5, 2, 2, 3, 1⟩, ⟨1, some 0, 3, 3, 3, 0, 0⟩]⟩
abbrev s4 : Ls := ⟨1, 5, [⟨0, none, 5, 2, 2, 3, 1⟩, ⟨1, some 0, 3, 0, 3, 0, 0⟩]⟩
abbrev s5 : Ls := ⟨1, 5, [⟨0, none, 5, 2, 2, 0, 0⟩]⟩
theorem k0 : LOk 5 (Ls.new 5) := LOk.new (by decide) (by decide)
theorem o1 : (Ls.new 5).open_ 0 3 = s1 := by decide
theorem o2 : s1.take_ 1 3 = s2 := by decide
theorem o2' : s2.take_ 1 1 = s2 := by decide
theorem o3 : s2.take_ 0 2 = s3 := by decide
theorem o3' : s3.close_ 1 = s3 := by decide
theorem o4 : s3.give_ 1 3 = s4 := by decide
theorem o5 : s4.close_ 1 = s5 := by decide
theorem k1 : LOk 5 s1 := by rw [← o1]; exact k0.open_ 0 3
theorem k2 : LOk 5 s2 := by rw [← o2]; exact k1.take_ 1 3
theorem k3 : LOk 5 s3 := by rw [← o3]; exact k2.take_ 0 2
theorem k4 : LOk 5 s4 := by rw [← o4]; exact k3.give_ 1 3
theorem k5 : LOk 5 s5 := by rw [← o5]; exact k4.close_ 1
set_option maxHeartbeats 4000000 in
theorem lives_walk (w : World) : Calls Try.prog 25 #[] w fun e w' => e = .returned (.bool true) ∧ Below w.heap.size w w' := by
  have C0 := Lib.hid (lv_new (w := w) (g := 5) (by decide) (by decide))
  have C1 := Lib.hid (fun (W : World) (bl : Nat) (h : LV w.heap.size w W bl (Ls.new 5)) => show Calls Try.prog 26 #[lp bl, .int .i64 0, .int .i64 3] W fun e w' => e = .returned (.tuple #[.int .i64 1, .int .i64 0]) ∧ LV w.heap.size w w' bl s1 from by
    have := lv_open h k0 (by decide) (n := 0) (g := 3) (by decide) (by decide); rw [o1, show (Ls.new 5).openE 0 3 = 0 from by decide] at this; exact this)
  have C1b := Lib.hid (fun (W : World) (bl : Nat) (h : LV w.heap.size w W bl s1) => show Calls Try.prog 33 #[lp bl, .int .i64 0] W fun e w' => e = .returned (.int .i64 2) ∧ LV w.heap.size w w' bl s1 from by
    have := lv_left h k1 (n := 0) (by decide); rw [show (s1.find 0).elim 0 (·.left) = 2 from by decide] at this; exact this)
  have C2 := Lib.hid (fun (W : World) (bl : Nat) (h : LV w.heap.size w W bl s1) => show Calls Try.prog 28 #[lp bl, .int .i64 1, .int .i64 3] W fun e w' => e = .returned (.int .i64 0) ∧ LV w.heap.size w w' bl s2 from by
    have := lv_take h k1 (n := 1) (g := 3) (by decide) (by decide); rw [o2, show s1.takeE 1 3 = 0 from by decide] at this; exact this)
  have C2b := Lib.hid (fun (W : World) (bl : Nat) (h : LV w.heap.size w W bl s2) => show Calls Try.prog 28 #[lp bl, .int .i64 1, .int .i64 1] W fun e w' => e = .returned (.int .i64 60) ∧ LV w.heap.size w w' bl s2 from by
    have := lv_take h k2 (n := 1) (g := 1) (by decide) (by decide); rw [o2', show s2.takeE 1 1 = 60 from by decide] at this; exact this)
  have C3 := Lib.hid (fun (W : World) (bl : Nat) (h : LV w.heap.size w W bl s2) => show Calls Try.prog 28 #[lp bl, .int .i64 0, .int .i64 2] W fun e w' => e = .returned (.int .i64 0) ∧ LV w.heap.size w w' bl s3 from by
    have := lv_take h k2 (n := 0) (g := 2) (by decide) (by decide); rw [o3, show s2.takeE 0 2 = 0 from by decide] at this; exact this)
  have C3b := Lib.hid (fun (W : World) (bl : Nat) (h : LV w.heap.size w W bl s3) => show Calls Try.prog 27 #[lp bl, .int .i64 1] W fun e w' => e = .returned (.int .i64 1) ∧ LV w.heap.size w w' bl s3 from by
    have := lv_close h k3 (n := 1) (by decide); rw [o3', show s3.closeE 1 = 1 from by decide] at this; exact this)
  have C4 := Lib.hid (fun (W : World) (bl : Nat) (h : LV w.heap.size w W bl s3) => show Calls Try.prog 29 #[lp bl, .int .i64 1, .int .i64 3] W fun e w' => e = .returned (.int .i64 0) ∧ LV w.heap.size w w' bl s4 from by
    have := lv_give h k3 (n := 1) (g := 3) (by decide) (by decide); rw [o4, show s3.giveE 1 3 = 0 from by decide] at this; exact this)
  have C5 := Lib.hid (fun (W : World) (bl : Nat) (h : LV w.heap.size w W bl s4) => show Calls Try.prog 27 #[lp bl, .int .i64 1] W fun e w' => e = .returned (.int .i64 0) ∧ LV w.heap.size w w' bl s5 from by
    have := lv_close h k4 (n := 1) (by decide); rw [o5, show s4.closeE 1 = 0 from by decide] at this; exact this)
  have D1 := Lib.hid (fun (W : World) (bl : Nat) (h : LV w.heap.size w W bl s5) => show Calls Try.prog 35 #[lp bl] W fun e w' => e = .returned (.int .i64 2) ∧ LV w.heap.size w w' bl s5 from by
    have := lv_total h k5; rw [show s5.total = 2 from by decide] at this; exact this)
  have D2 := Lib.hid (fun (W : World) (bl : Nat) (h : LV w.heap.size w W bl s5) => show Calls Try.prog 36 #[lp bl] W fun e w' => e = .returned (.int .i64 5) ∧ LV w.heap.size w w' bl s5 from lv_most h k5)
  have D3 := Lib.hid (fun (W : World) (bl : Nat) (h : LV w.heap.size w W bl s5) => show Calls Try.prog 34 #[lp bl, .int .i64 0] W fun e w' => e = .returned (.int .i64 2) ∧ LV w.heap.size w w' bl s5 from by
    have := lv_peak h k5 (n := 0) (by decide); rw [show (s5.find 0).elim 0 (·.peak) = 2 from by decide] at this; exact this)
  have D4 := Lib.hid (fun (W : World) (bl : Nat) (h : LV w.heap.size w W bl s5) => show Calls Try.prog 31 #[lp bl, .int .i64 0] W fun e w' => e = .returned (.int .i64 2) ∧ LV w.heap.size w w' bl s5 from by
    have := lv_held h k5 (n := 0) (by decide); rw [show (s5.find 0).elim 0 (·.held) = 2 from by decide] at this; exact this)
  have D5 := Lib.hid (fun (W : World) (bl : Nat) (h : LV w.heap.size w W bl s5) => show Calls Try.prog 32 #[lp bl, .int .i64 0] W fun e w' => e = .returned (.int .i64 5) ∧ LV w.heap.size w w' bl s5 from by
    have := lv_grant h k5 (n := 0) (by decide); rw [show (s5.find 0).elim 0 (·.grant) = 5 from by decide] at this; exact this)
  have D6 := Lib.hid (fun (W : World) (bl : Nat) (h : LV w.heap.size w W bl s5) => show Calls Try.prog 33 #[lp bl, .int .i64 0] W fun e w' => e = .returned (.int .i64 3) ∧ LV w.heap.size w w' bl s5 from by
    have := lv_left h k5 (n := 0) (by decide); rw [show (s5.find 0).elim 0 (·.left) = 3 from by decide] at this; exact this)
  have D7 := Lib.hid (fun (W : World) (bl : Nat) (h : LV w.heap.size w W bl s5) => show Calls Try.prog 30 #[lp bl] W fun e w' => ∃ A c, e = .returned (.slice A 1 c) ∧ LV w.heap.size w w' bl s5 from (lv_accounts h k5).mono fun e w' ⟨A, c, e1, _, _, e2⟩ => ⟨A, c, e1, e2⟩)
  have N0 := Lib.hid (fun W => new_no (w := W) (g := -1) (.inl (by decide)))
  go_enter Try.func25, Try.ntmps25
  go_wp2_with (first
    | (go_at_call 24; (with_reducible refine (N0.out _).mono ?_); rintro e w9 ⟨rfl, hw⟩; obtain rfl := hw.symm; clear hw)
    | (go_at_call 24; (with_reducible refine C0.out.mono ?_); rintro e w1 ⟨bl, rfl, V0⟩; have V0 := Lib.hid V0)
    | (go_at_call 26; (with_reducible refine (C1.out _ _ V0.out).mono ?_); rintro e w2 ⟨rfl, V1⟩; have V1 := Lib.hid V1)
    | (go_at_call 33; (with_reducible refine (D6.out _ _ V5.out).mono ?_); rintro e w9 ⟨rfl, V5⟩; have V5 := Lib.hid V5)
    | (go_at_call 33; (with_reducible refine (C1b.out _ _ V1.out).mono ?_); rintro e w3 ⟨rfl, V1b⟩; have V1b := Lib.hid V1b)
    | (go_at_call 28; (with_reducible refine (C3.out _ _ V2b.out).mono ?_); rintro e w6 ⟨rfl, V3⟩; have V3 := Lib.hid V3)
    | (go_at_call 28; (with_reducible refine (C2b.out _ _ V2.out).mono ?_); rintro e w5 ⟨rfl, V2b⟩; have V2b := Lib.hid V2b)
    | (go_at_call 28; (with_reducible refine (C2.out _ _ V1b.out).mono ?_); rintro e w4 ⟨rfl, V2⟩; have V2 := Lib.hid V2)
    | (go_at_call 27; (with_reducible refine (C5.out _ _ V4.out).mono ?_); rintro e w9 ⟨rfl, V5⟩; have V5 := Lib.hid V5)
    | (go_at_call 27; (with_reducible refine (C3b.out _ _ V3.out).mono ?_); rintro e w7 ⟨rfl, V3b⟩; have V3b := Lib.hid V3b)
    | (go_at_call 29; (with_reducible refine (C4.out _ _ V3b.out).mono ?_); rintro e w8 ⟨rfl, V4⟩; have V4 := Lib.hid V4)
    | (go_at_call 35; (with_reducible refine (D1.out _ _ V5.out).mono ?_); rintro e w9 ⟨rfl, V5⟩; have V5 := Lib.hid V5)
    | (go_at_call 36; (with_reducible refine (D2.out _ _ V5.out).mono ?_); rintro e w9 ⟨rfl, V5⟩; have V5 := Lib.hid V5)
    | (go_at_call 34; (with_reducible refine (D3.out _ _ V5.out).mono ?_); rintro e w9 ⟨rfl, V5⟩; have V5 := Lib.hid V5)
    | (go_at_call 31; (with_reducible refine (D4.out _ _ V5.out).mono ?_); rintro e w9 ⟨rfl, V5⟩; have V5 := Lib.hid V5)
    | (go_at_call 32; (with_reducible refine (D5.out _ _ V5.out).mono ?_); rintro e w9 ⟨rfl, V5⟩; have V5 := Lib.hid V5)
    | (go_at_call 30; (with_reducible refine (D7.out _ _ V5.out).mono ?_); rintro e w9 ⟨A9, c9, rfl, V5⟩; have V5 := Lib.hid V5))
  go_ret
  exact ⟨rfl, V5.out.bel⟩
end Go.Proofs.Ytagknfjgokiidaa
