/- The document's spill. -/
import Derived.Test.YtkbapoeilcapfaaGreatME
import Derived.Test.YtkbapoeilcapfaaGreatMG
import Derived.Test.YtkbapoeilcapfaaGreatMA
import Derived.LoopN
import Derived.Deep.QuietTactic
import Derived.BigQuiet
import Derived.RegionTactic
import Derived.BigRegion
import Derived.Test.YtkbapoeilcapfaaGreatMX
import Derived.Test.YtkbapoeilcapfaaGreatMD
/- the document's ledger of one account, as a thing apart. -/
namespace Go.Proofs.YtkbapoeilcapfaaGreat
open Go.RowKit Go.Maps
set_option linter.unusedVariables false
set_option linter.unusedSimpArgs false
set_option maxRecDepth 6000

abbrev lxObj (g : Nat) (pk : Int) : Obj := .cells #[.slice (some ⟨g, 0, none⟩) 1 1, .int .i64 0, .int .i64 pk] 107 (0, 0)
abbrev laObj (G h pk : Int) : Obj := .cells #[.int .i64 0, .int .i64 (-1), .int .i64 G, .int .i64 h, .int .i64 pk] 104 (0, 0)
def LX (bx : Nat) (G h : Int) : Res := fun w S => (0 ≤ h ∧ h ≤ G ∧ G ≤ 16384) ∧ ∃ g pk, (h ≤ pk ∧ pk ≤ G) ∧ star (blkR bx (lxObj g pk)) (blkR g (laObj G h pk)) w S
theorem LX_good (bx : Nat) (G h : Int) : Good (LX bx G h) := by
  refine ⟨?_, ?_⟩
  · rintro w S ⟨_, g, pk, _, h⟩
    exact (star_good (blkR_good _ _) (blkR_good _ _)).lt h
  · rintro w w' S T ⟨k, g, pk, k2, h⟩ ht hn
    exact ⟨k, g, pk, k2, (star_good (blkR_good _ _) (blkR_good _ _)).turn h ht hn⟩
section
variable {w0 w : World} {bx g : Nat} {G h pk mo : Int} {Fr : Res}
abbrev Lo (bx g : Nat) (G h pk mo : Int) (Fr : Res) : Res := star (blkR bx (lxObj g mo)) (star (blkR g (laObj G h pk)) Fr)
theorem Lo_good (gF : Good Fr) : Good (Lo bx g G h pk mo Fr) := star_good (blkR_good _ _) (star_good (blkR_good _ _) gF)
theorem Lo_open (H : In w0 w (star (LX bx G h) Fr)) : (0 ≤ h ∧ h ≤ G ∧ G ≤ 16384) ∧ ∃ g pk, (h ≤ pk ∧ pk ≤ G) ∧ In w0 w (Lo bx g G h pk pk Fr) := by
  obtain ⟨⟨S, ⟨S1, S2, ⟨k, g, pk, k2, h1⟩, h2, hd, hs⟩, hge⟩, hb⟩ := H
  exact ⟨k, g, pk, k2, ⟨S, star_assoc ⟨S1, S2, h1, h2, hd, hs⟩, hge⟩, hb⟩
theorem Lo_shut (k : 0 ≤ h ∧ h ≤ G ∧ G ≤ 16384) (k2 : h ≤ pk ∧ pk ≤ G) (H : In w0 w (Lo bx g G h pk pk Fr)) : In w0 w (star (LX bx G h) Fr) :=
  H.assoc'.imp fun S h => star_mono h (fun S h => ⟨k, g, pk, k2, h⟩) (fun _ => id)
structure LoC (w : World) (bx g : Nat) (G h pk mo : Int) : Prop where
  c0 : w.cell? ⟨bx, 0, none⟩ = some (.slice (some ⟨g, 0, none⟩) 1 1)
  c2 : w.cell? ⟨bx, 2, none⟩ = some (.int .i64 mo)
  a0 : w.cell? ⟨g, 0, none⟩ = some (.int .i64 0)
  a1 : w.cell? ⟨g, 1, none⟩ = some (.int .i64 (-1))
  a2 : w.cell? ⟨g, 2, none⟩ = some (.int .i64 G)
  a3 : w.cell? ⟨g, 3, none⟩ = some (.int .i64 h)
  a4 : w.cell? ⟨g, 4, none⟩ = some (.int .i64 pk)
  f2 : w.frozen? ⟨bx, 2, none⟩ = false
  f3 : w.frozen? ⟨g, 3, none⟩ = false
  f4 : w.frozen? ⟨g, 4, none⟩ = false
  ne : bx ≠ g
theorem Lo_cells (H : In w0 w (Lo bx g G h pk mo Fr)) : LoC w bx g G h pk mo := by
  have h1 := H.left.get fun S h => h.1
  have h2 := H.right.left.get fun S h => h.1
  refine ⟨cell_of_blk h1 0, cell_of_blk h1 2, cell_of_blk h2 0, cell_of_blk h2 1, cell_of_blk h2 2, cell_of_blk h2 3, cell_of_blk h2 4, free_of_blk h1 2, free_of_blk h2 3, free_of_blk h2 4, fun e => ?_⟩
  rw [e, h2] at h1
  injection h1 with h1
  injection h1 with _ h1
  exact absurd h1 (by decide)
theorem lx_at (C : LoC w bx g G h pk mo) : Calls Tryz.prog 113 #[dp bx, .int .i64 0] w fun e w' => e = .returned (.int .i64 0) ∧ w' = w := by
  obtain ⟨c0, c2, a0, a1, a2, a3, a4, f2, f3, f4, ne⟩ := C
  clear c2 a1 a2 a3 a4 f2 f3 f4
  go_enter Tryz.func113, Tryz.ntmps113
  go_wp2
  refine wp_loop_rounds 1 ?_
  rw [rounds_succ]
  go_wp2
  go_ret
  exact ⟨by trivial, rfl⟩
theorem lx_left (k : 0 ≤ h ∧ h ≤ G ∧ G ≤ 16384) (C : LoC w bx g G h pk mo) : Calls Tryz.prog 24 #[dp bx, .int .i64 0] w fun e w' => e = .returned (.int .i64 (G - h)) ∧ ∃ n, w' = w.drewN n := by
  obtain ⟨c0, c2, a0, a1, a2, a3, a4, f2, f3, f4, ne⟩ := C
  obtain ⟨k1, k2, k3⟩ := k
  clear c2 a4 f2 f3 f4
  go_enter Tryz.func24, Tryz.ntmps24
  go_wp2
  go_quiet (fail)
  go_wp2
  refine wp_loop_rounds 2 ?_
  rw [rounds_succ]
  go_wp2
  go_quiet (fail)
  go_wp2
  rw [rounds_succ]
  go_wp2
  go_ret
  exact ⟨by trivial, _, rfl⟩
theorem lx_total (k : 0 ≤ h ∧ h ≤ G ∧ G ≤ 16384) (C : LoC w bx g G h pk mo) : Calls Tryz.prog 114 #[dp bx] w fun e w' => e = .returned (.int .i64 h) ∧ w' = w := by
  obtain ⟨c0, c2, a0, a1, a2, a3, a4, f2, f3, f4, ne⟩ := C
  obtain ⟨k1, k2, k3⟩ := k
  clear c2 a4 f2 f3 f4 a0 a1 a2
  go_enter Tryz.func114, Tryz.ntmps114
  go_wp2
  refine wp_loop_rounds 2 ?_
  rw [rounds_succ]
  go_wp2
  rw [rounds_succ]
  go_wp2
  go_ret
  exact ⟨by trivial, rfl⟩
theorem Lo_put3 (gF : Good Fr) (H : In w0 w (Lo bx g G h pk mo Fr)) (h' : Int) : In w0 (w.setCell ⟨g, 3, none⟩ (.int .i64 h')) (Lo bx g G h' pk mo Fr) :=
  (H.swap.put (star_good (blkR_good _ _) gF) 3 (.int .i64 h')).swap
theorem Lo_put4 (gF : Good Fr) (H : In w0 w (Lo bx g G h pk mo Fr)) (p' : Int) : In w0 (w.setCell ⟨g, 4, none⟩ (.int .i64 p')) (Lo bx g G h p' mo Fr) :=
  (H.swap.put (star_good (blkR_good _ _) gF) 4 (.int .i64 p')).swap
theorem Lo_put2 (gF : Good Fr) (H : In w0 w (Lo bx g G h pk mo Fr)) (m' : Int) : In w0 (w.setCell ⟨bx, 2, none⟩ (.int .i64 m')) (Lo bx g G h pk m' Fr) :=
  H.put (star_good (blkR_good _ _) gF) 2 (.int .i64 m')
theorem Lo_drewN (gF : Good Fr) (H : In w0 w (Lo bx g G h pk mo Fr)) (n : Nat) : In w0 (w.drewN n) (Lo bx g G h pk mo Fr) := H.below (Lo_good gF) ⟨rfl, rfl, rfl, Nat.le_refl _, fun _ _ => rfl⟩
theorem Lo_drew (gF : Good Fr) (H : In w0 w (Lo bx g G h pk mo Fr)) : In w0 w.drew (Lo bx g G h pk mo Fr) := H.below (Lo_good gF) ⟨rfl, rfl, rfl, Nat.le_refl _, fun _ _ => rfl⟩
theorem lx_give (gF : Good Fr) (H : In w0 w (star (LX bx G h) Fr)) : Calls Tryz.prog 85 #[dp bx, .int .i64 0, .int .i64 1] w fun e w' => ∃ c : Int, e = .returned (.int .i64 c) ∧ In w0 w' (star (LX bx G (giveH h)) Fr) := by
  obtain ⟨k, g, pk, k2, H1⟩ := Lo_open H
  have C := Lo_cells H1
  have CA := Lib.hid (lx_at C)
  have hb := k
  by_cases h1 : 1 ≤ h
  · have eg : giveH h = h - 1 := by unfold giveH; exact if_pos h1
    rw [eg]
    have EN := Lib.hid (show In w0 (w.setCell ⟨g, 3, none⟩ (.int .i64 (h - 1))).drew (star (LX bx G (h - 1)) Fr) from Lo_shut (by omega) (by omega) (Lo_drew gF (Lo_put3 gF H1 (h - 1))))
    obtain ⟨c0, c2, a0, a1, a2, a3, a4, f2, f3, f4, ne⟩ := C
    have hd : ¬ h < 1 := by omega
    have hwr : IntKind.i64.wrap (h - 1) = h - 1 := by
      have := hb.2.1
      simp [IntKind.wrap, IntKind.min, IntKind.max, IntKind.bits, IntKind.signed]
      omega
    clear H H1 k k2 a0 a1 a2 a4 c2 f2 f4 eg
    go_enter Tryz.func85, Tryz.ntmps85
    go_wp2_with (go_at_call 113; (with_reducible refine CA.out.mono ?_); rintro e w1 ⟨rfl, rfl⟩)
    go_region
    all_goals go_wp2
    all_goals go_ret
    all_goals exact ⟨0, rfl, EN.out⟩
  · have eg : giveH h = h := by unfold giveH; exact if_neg h1
    rw [eg]
    have EN := Lib.hid H
    obtain ⟨c0, c2, a0, a1, a2, a3, a4, f2, f3, f4, ne⟩ := C
    have hd : h < 1 := by omega
    clear H H1 k k2 a0 a1 a2 a4 c2 f2 f4 eg
    go_enter Tryz.func85, Tryz.ntmps85
    go_wp2_with (go_at_call 113; (with_reducible refine CA.out.mono ?_); rintro e w1 ⟨rfl, rfl⟩)
    go_ret
    exact ⟨1, rfl, EN.out⟩
theorem lx_take_no (gF : Good Fr) (H : In w0 w (star (LX bx G h) Fr)) (hE : G ≤ h) : Calls Tryz.prog 83 #[dp bx, .int .i64 0, .int .i64 1] w fun e w' => e = .returned (.int .i64 60) ∧ In w0 w' (star (LX bx G h) Fr) := by
  obtain ⟨k, g, pk, k2, H1⟩ := Lo_open H
  have C := Lo_cells H1
  have CA := Lib.hid (lx_at C)
  have CL := Lib.hid (lx_left k C)
  have EN := Lib.hid (fun n => show In w0 (w.drewN n) (star (LX bx G h) Fr) from Lo_shut k k2 (Lo_drewN gF H1 n))
  have hd : G - h < 1 := by omega
  clear H H1 k k2 C hE
  go_enter Tryz.func83, Tryz.ntmps83
  go_wp2_with (first
    | (go_at_call 113; (with_reducible refine CA.out.mono ?_); rintro e w1 ⟨rfl, rfl⟩)
    | (go_at_call 24; (with_reducible refine CL.out.mono ?_); rintro e w2 ⟨rfl, n, hw⟩; subst hw))
  go_ret
  exact ⟨rfl, EN.out _⟩
theorem lx_take_up (gF : Good Fr) (H : In w0 w (star (LX bx G h) Fr)) (hE : ¬ G ≤ h) : Calls Tryz.prog 83 #[dp bx, .int .i64 0, .int .i64 1] w fun e w' => e = .returned (.int .i64 0) ∧ In w0 w' (star (LX bx G (h + 1)) Fr) := by
  obtain ⟨k, g, pk, k2, H1⟩ := Lo_open H
  have C := Lo_cells H1
  have CA := Lib.hid (lx_at C)
  have CL := Lib.hid ((lx_left k C).mono fun (e : Ending) (w' : World) hh => show e = .returned (.int .i64 (G - h)) ∧ LoC w' bx g G h pk pk ∧ In w0 w' (Lo bx g G h pk pk Fr) from by
    obtain ⟨h1, n, h2⟩ := hh
    subst h2
    have V := Lo_drewN gF H1 n
    exact ⟨h1, Lo_cells V, V⟩)
  have hd : ¬ G - h < 1 := by omega
  have hwr : IntKind.i64.wrap (h + 1) = h + 1 := by
    have := k.2.2
    simp [IntKind.wrap, IntKind.min, IntKind.max, IntKind.bits, IntKind.signed]
    omega
  have kk := k
  have P3 := Lib.hid (fun W (V : In w0 W (Lo bx g G h pk pk Fr)) => Lo_drew gF (Lo_put3 gF V (h + 1)))
  have kb : 0 ≤ h + 1 ∧ h + 1 ≤ G ∧ G ≤ 16384 := by omega
  have TT := Lib.hid (fun W (V : In w0 W (Lo bx g G (h + 1) (h + 1) pk Fr)) => (lx_total kb (Lo_cells V)).mono fun (e : Ending) (w' : World) hh => show e = .returned (.int .i64 (h + 1)) ∧ w' = W from hh)
  have TN := Lib.hid (fun W (V : In w0 W (Lo bx g G (h + 1) pk pk Fr)) => (lx_total kb (Lo_cells V)).mono fun (e : Ending) (w' : World) hh => show e = .returned (.int .i64 (h + 1)) ∧ w' = W from hh)
  clear C
  have W3 := Lib.hid (fun W (V : In w0 W (Lo bx g G (h + 1) pk pk Fr)) => And.intro (Lo_cells (Lo_drew gF V)) (Lo_drew gF V))
  by_cases hp : pk < h + 1
  · have hpk : pk = h := by omega
    subst hpk
    have P4 := Lib.hid (fun W (V : In w0 W (Lo bx g G (pk + 1) pk pk Fr)) => And.intro (Lo_cells (Lo_drew gF (Lo_put4 gF V (pk + 1)))) (Lo_drew gF (Lo_put4 gF V (pk + 1))))
    have P2 := Lib.hid (fun W (V : In w0 W (Lo bx g G (pk + 1) (pk + 1) pk Fr)) => show In w0 (W.setCell ⟨bx, 2, none⟩ (.int .i64 (pk + 1))) (star (LX bx G (pk + 1)) Fr) from Lo_shut kb ⟨Int.le_refl _, by omega⟩ (Lo_put2 gF V (pk + 1)))
    have TQ := Lib.hid (fun W (V : In w0 W (Lo bx g G (pk + 1) (pk + 1) pk Fr)) n => TT.out (W.drewN n) (Lo_drewN gF V n))
    have DN := Lib.hid (fun W (V : In w0 W (Lo bx g G (pk + 1) (pk + 1) pk Fr)) n => And.intro (Lo_cells (Lo_drewN gF V n)) (Lo_drewN gF V n))
    clear H H1 k k2 hE kb TN
    go_enter Tryz.func83, Tryz.ntmps83
    go_wp2_with (first
      | (go_at_call 113; (with_reducible refine CA.out.mono ?_); rintro e w1 ⟨rfl, rfl⟩)
      | (go_at_call 24; (with_reducible refine CL.out.mono ?_); rintro e w2 ⟨rfl, ⟨c0, c2, a0, a1, a2, a3, a4, f2, f3, f4, ne⟩, V⟩; have V2 := Lib.hid (P3.out _ V); clear V a0 a1 a2))
    go_region
    have C3 := Lo_cells V2.out
    generalize (w2.setCell ⟨g, 3, none⟩ (.int .i64 (pk + 1))).drew = w3 at V2 C3 ⊢
    clear c0 c2 a3 a4 f2 f3 f4
    obtain ⟨c0, c2, a0, a1, a2, a3, a4, f2, f3, f4, _⟩ := C3
    clear a0 a1 a2
    go_wp2
    go_region
    have C4 := (W3.out _ V2.out).1
    have V4 := Lib.hid (W3.out _ V2.out).2
    generalize w3.drew = w4 at V4 C4 ⊢
    clear c0 c2 a3 a4 f2 f3 f4
    obtain ⟨c0, c2, a0, a1, a2, a3, a4, f2, f3, f4, _⟩ := C4
    clear a0 a1 a2
    go_wp2
    go_region
    have C5 := (P4.out _ V4.out).1
    have V5 := Lib.hid (P4.out _ V4.out).2
    generalize (w4.setCell ⟨g, 4, none⟩ (.int .i64 (pk + 1))).drew = w5 at V5 C5 ⊢
    clear c0 c2 a3 a4 f2 f3 f4
    obtain ⟨c0, c2, a0, a1, a2, a3, a4, f2, f3, f4, _⟩ := C5
    clear a0 a1 a2
    go_wp2
    go_quiet ((go_at_call 114; exact Calls.quiet_of_same (TQ.out _ V5.out _)))
    have C6 := (DN.out _ V5.out nq).1
    have V6 := Lib.hid (DN.out _ V5.out nq).2
    generalize w5.drewN nq = w6 at V6 C6 ⊢
    clear c0 c2 a3 a4 f2 f3 f4
    obtain ⟨c0, c2, a0, a1, a2, a3, a4, f2, f3, f4, _⟩ := C6
    clear a0 a1 a2
    go_wp2_with (go_at_call 114; (with_reducible refine (TT.out _ V6.out).mono ?_); rintro e w7 ⟨rfl, hw⟩; subst hw)
    go_ret
    exact ⟨by trivial, P2.out _ V6.out⟩
  · have E0 := Lib.hid (fun W (V : In w0 W (Lo bx g G (h + 1) pk pk Fr)) => show In w0 W (star (LX bx G (h + 1)) Fr) from Lo_shut kb ⟨by omega, k2.2⟩ V)
    have TQ := Lib.hid (fun W (V : In w0 W (Lo bx g G (h + 1) pk pk Fr)) n => TN.out (W.drewN n) (Lo_drewN gF V n))
    have DN := Lib.hid (fun W (V : In w0 W (Lo bx g G (h + 1) pk pk Fr)) n => Lo_drewN gF V n)
    clear H H1 k k2 hE kb TT
    go_enter Tryz.func83, Tryz.ntmps83
    go_wp2_with (first
      | (go_at_call 113; (with_reducible refine CA.out.mono ?_); rintro e w1 ⟨rfl, rfl⟩)
      | (go_at_call 24; (with_reducible refine CL.out.mono ?_); rintro e w2 ⟨rfl, ⟨c0, c2, a0, a1, a2, a3, a4, f2, f3, f4, ne⟩, V⟩; have V2 := Lib.hid (P3.out _ V); clear V a0 a1 a2))
    go_region
    have C3 := Lo_cells V2.out
    generalize (w2.setCell ⟨g, 3, none⟩ (.int .i64 (h + 1))).drew = w3 at V2 C3 ⊢
    clear c0 c2 a3 a4 f2 f3 f4
    obtain ⟨c0, c2, a0, a1, a2, a3, a4, f2, f3, f4, _⟩ := C3
    clear a0 a1 a2
    go_wp2
    go_region
    have C4 := (W3.out _ V2.out).1
    have V4 := Lib.hid (W3.out _ V2.out).2
    generalize w3.drew = w4 at V4 C4 ⊢
    clear c0 c2 a3 a4 f2 f3 f4
    obtain ⟨c0, c2, a0, a1, a2, a3, a4, f2, f3, f4, _⟩ := C4
    clear a0 a1 a2
    go_wp2
    go_quiet ((go_at_call 114; exact Calls.quiet_of_same (TQ.out _ V4.out _)))
    go_wp2
    go_ret
    exact ⟨by trivial, E0.out _ (DN.out _ V4.out _)⟩
/-- A new ledger. -/
theorem lx_new_yes (gF : Good Fr) (H : In w0 w Fr) (h0 : 0 ≤ G) (h1 : G ≤ 16384) : Calls Tryz.prog 12 #[.int .i64 G] w fun e w' => ∃ bx, e = .returned (dp bx) ∧ In w0 w' (star (LX bx G 0) Fr) := by
  have V1 := H.blk gF (laObj G 0 0)
  have V2 := V1.blk (star_good gF (blkR_good _ _)) (lxObj w.heap.size 0)
  have E0 := Lib.hid (show In w0 ((w.alloc (laObj G 0 0)).alloc (lxObj w.heap.size 0)) (star (LX (w.heap.size + 1) G 0) Fr) from by
    have hs : (w.alloc (laObj G 0 0)).heap.size = w.heap.size + 1 := by simp
    rw [← hs]
    exact Lo_shut ⟨Int.le_refl _, h0, h1⟩ ⟨Int.le_refl _, h0⟩ (V2.comm.imp fun S h => star_mono h (fun _ => id) (fun _ => star_comm)))
  have hd0 : ¬ G < 0 := by omega
  have hd1 : ¬ 16384 < G := by omega
  clear H V1 V2 h0 h1
  go_enter Tryz.func12, Tryz.ntmps12
  go_wp2
  go_ret
  exact ⟨_, by trivial, E0.out⟩
theorem lx_new_no (h : G < 0 ∨ 16384 < G) : Calls Tryz.prog 12 #[.int .i64 G] w fun e w' => e = .returned (.pointer none) ∧ w' = w := by
  by_cases h0 : G < 0
  · clear h
    go_enter Tryz.func12, Tryz.ntmps12
    go_wp2
    go_ret
    exact ⟨by trivial, rfl⟩
  · have h1 : 16384 < G := by omega
    clear h
    go_enter Tryz.func12, Tryz.ntmps12
    go_wp2
    go_ret
    exact ⟨by trivial, rfl⟩
end
end Go.Proofs.YtkbapoeilcapfaaGreat

/- the document's place and its writers, as things apart. -/
namespace Go.Proofs.YtkbapoeilcapfaaGreat
open Go.RowKit Go.Maps
set_option linter.unusedVariables false
set_option linter.unusedSimpArgs false
set_option maxRecDepth 6000

def PX (bx bm : Nat) (R : Int) (F : List Int) (G : Int) (d : Ds) (h : Int) : Res := fun w S => (SOk R d ∧ F.length ≤ 9223372036854775807) ∧ star (XR bx R F d) (LX bm G h) w S
theorem PX_good (bx bm : Nat) (R : Int) (F : List Int) (G : Int) (d : Ds) (h : Int) : Good (PX bx bm R F G d h) := by
  have g := star_good (XR_good bx R F d) (LX_good bm G h)
  exact ⟨fun h => g.lt h.2, fun h ht hn => ⟨h.1, g.turn h.2 ht hn⟩⟩
abbrev hsR (v : Value) (n : Nat) (hs : List Value) : Res := rowR 25 1 v n hs
abbrev pvx (bx bm : Nat) : Value := .agg #[dp bx, dp bm, .int .i64 0]
abbrev yObj (bx bm : Nat) (x : Ws) (v : Value) : Obj := .cells #[dp bx, dp bm, .int .i64 0, .int .i64 x.file, v, .int .i64 x.n, .int .i64 x.wrong, .bool x.ended] 152 (0, 0)
/-- A writer; its rows lie below w0. -/
def WX (w0 : World) (bw bx bm : Nat) (x : Ws) : Res := fun w S => WOk x ∧ ∃ A k c hds, (k = x.rows.length ∧ ∀ W, Below w0.heap.size w0 W → RdAcc W hds x.rows) ∧ star (blkR bw (yObj bx bm x (.slice A k c))) (hsR (.slice A k c) k hds) w S
theorem WX_good (w0 : World) (bw bx bm : Nat) (x : Ws) : Good (WX w0 bw bx bm x) := by
  refine ⟨?_, ?_⟩
  · rintro w S ⟨_, A, k, c, hds, _, h⟩
    exact (star_good (blkR_good _ _) (rowR_good _ _ _ _ _)).lt h
  · rintro w w' S T ⟨k1, A, k, c, hds, k2, h⟩ ht hn
    exact ⟨k1, A, k, c, hds, k2, (star_good (blkR_good _ _) (rowR_good _ _ _ _ _)).turn h ht hn⟩
section
variable {w0 w W : World} {bx bm bw : Nat} {R : Int} {F : List Int} {G : Int} {d : Ds} {h : Int} {x : Ws} {r : List V} {Fr X : Res} {A : Option Addr} {k c : Nat} {hds : List Value}
theorem PX_ok (H : In w0 w (star (PX bx bm R F G d h) Fr)) : (SOk R d ∧ F.length ≤ 9223372036854775807) ∧ 0 ≤ h ∧ h ≤ G ∧ G ≤ 16384 := by
  obtain ⟨⟨S, ⟨S1, S2, ⟨k, T1, T2, h1, ⟨k2, _⟩, _⟩, _⟩, _⟩, _⟩ := H
  exact ⟨k, k2⟩
theorem PX_disk (H : In w0 w (star (PX bx bm R F G d h) Fr)) : In w0 w (star (XR bx R F d) (star (LX bm G h) Fr)) :=
  (H.imp fun S h => star_mono h (fun S h => h.2) (fun _ => id)).assoc
theorem PX_disk' (K : SOk R d ∧ F.length ≤ 9223372036854775807) (H : In w0 w (star (XR bx R F d) (star (LX bm G h) Fr))) : In w0 w (star (PX bx bm R F G d h) Fr) :=
  H.assoc'.imp fun S h => star_mono h (fun S h => ⟨K, h⟩) (fun _ => id)
theorem q_take_no (g : Good Fr) (H : In w0 w (star (PX bx bm R F G d h) Fr)) (hE : G ≤ h) : Calls Tryz.prog 83 #[dp bm, .int .i64 0, .int .i64 1] w fun e w' => e = .returned (.int .i64 60) ∧ In w0 w' (star (PX bx bm R F G d h) Fr) :=
  (lx_take_no (star_good (XR_good _ _ _ _) g) (PX_disk H).swap hE).mono fun e w' hh => ⟨hh.1, PX_disk' (PX_ok H).1 hh.2.swap⟩
theorem q_take_up (g : Good Fr) (H : In w0 w (star (PX bx bm R F G d h) Fr)) (hE : ¬ G ≤ h) : Calls Tryz.prog 83 #[dp bm, .int .i64 0, .int .i64 1] w fun e w' => e = .returned (.int .i64 0) ∧ In w0 w' (star (PX bx bm R F G d (h + 1)) Fr) :=
  (lx_take_up (star_good (XR_good _ _ _ _) g) (PX_disk H).swap hE).mono fun e w' hh => ⟨hh.1, PX_disk' (PX_ok H).1 hh.2.swap⟩
theorem q_give (g : Good Fr) (H : In w0 w (star (PX bx bm R F G d h) Fr)) : Calls Tryz.prog 85 #[dp bm, .int .i64 0, .int .i64 1] w fun e w' => ∃ c : Int, e = .returned (.int .i64 c) ∧ In w0 w' (star (PX bx bm R F G d (giveH h)) Fr) :=
  (lx_give (star_good (XR_good _ _ _ _) g) (PX_disk H).swap).mono fun e w' ⟨c, h1, h2⟩ => ⟨c, h1, PX_disk' (PX_ok H).1 h2.swap⟩
theorem q_create (g : Good Fr) (H : In w0 w (star (PX bx bm R F G d h) Fr)) (hm : d.made ≤ 1000000000) :
    Calls Tryz.prog 84 #[dp bx] w fun e w' => e = .returned (.tuple #[.int .i64 (if d.createE = 0 then d.made + 1 else 0), .int .i64 d.createE]) ∧ In w0 w' (star (PX bx bm R F G d.create h) Fr) :=
  (y_create (star_good (LX_good _ _ _) g) (PX_disk H) (PX_ok H).1.1.dok hm).mono fun e w' hh => ⟨hh.1, PX_disk' ⟨(PX_ok H).1.1.create, (PX_ok H).1.2⟩ hh.2⟩
theorem q_del (g : Good Fr) (H : In w0 w (star (PX bx bm R F G d h) Fr)) {n : Int} :
    Calls Tryz.prog 117 #[dp bx, .int .i64 n] w fun e w' => e = .returned (.int .i64 (d.delE n)) ∧ In w0 w' (star (PX bx bm R F G (d.del n) h) Fr) :=
  (y_del (star_good (LX_good _ _ _) g) (PX_disk H) (PX_ok H).1.1.dok).mono fun e w' hh => ⟨hh.1, PX_disk' ⟨(PX_ok H).1.1.del n, (PX_ok H).1.2⟩ hh.2⟩
theorem q_read {n i : Int} (g : Good Fr) (H : In w0 w (star (PX bx bm R F G d h) Fr)) (hd : d.deeds ≤ 1000000000) :
    Calls Tryz.prog 90 #[dp bx, .int .i64 n, .int .i64 i] w fun e w' => ∃ v : Option Addr × Nat × Nat, e = .returned (.tuple #[.slice v.1 v.2.1 v.2.2, .int .i64 (d.readE F n i)]) ∧ In w0 w' (star (PX bx bm R F G (d.read F n i) h) (star (rowR 5 1 (.slice v.1 v.2.1 v.2.2) v.2.1 (b8 (d.readQ F n i))) Fr)) :=
  (y_read (star_good (LX_good _ _ _) g) (PX_disk H) (PX_ok H).1.1.dok hd (PX_ok H).1.2).mono fun e w' ⟨v, h1, h2⟩ => ⟨v, h1, PX_disk' ⟨(PX_ok H).1.1.read n i, (PX_ok H).1.2⟩ (h2.imp fun S h => star_mono h (fun _ => id) (fun _ => star_swap))⟩
theorem q_at (H : In w0 w (star (PX bx bm R F G d h) Fr)) (n : Int) : Calls Tryz.prog 89 #[dp bx, .int .i64 n] w fun e w' => e = .returned (.int .i64 (d.at_ n)) ∧ w' = w :=
  y_at (PX_disk H) (PX_ok H).1.1.dok n
theorem q_app (g : Good Fr) {B : Option Addr} {cp : Nat} {rows : List (List V)} {n : Int} (H : In w0 w (star (PX bx bm R F G d h) (star (rowR 5 1 (.slice B 256 cp) 256 (u8s (mkP rows))) Fr))) (hr : rows ≠ []) (hok : ∀ r ∈ rows, rowOk r = true) (hu : usedN rows ≤ 256) (hd : d.deeds ≤ 1000000000) :
    Calls Tryz.prog 116 #[dp bx, .int .i64 n, .slice B 256 cp] w fun e w' => e = .returned (.int .i64 (d.appE R F n (mkP rows))) ∧ In w0 w' (star (PX bx bm R F G (d.app R F n (mkP rows)) h) Fr) := by
  have H1 := (PX_disk H).imp fun S h => star_mono h (fun _ => id) (fun _ => star_swap)
  exact (y_app (star_good (LX_good _ _ _) g) H1 (PX_ok H).1.1.dok hd (PX_ok H).1.2).mono fun e w' hh => ⟨hh.1, PX_disk' ⟨(PX_ok H).1.1.app hr hok hu n, (PX_ok H).1.2⟩ hh.2.drop⟩
theorem hs_nil {S : Nat → Prop} (h : X w S) : star (hsR (.slice none 0 0) 0 []) X w S := ⟨fun _ => False, S, ⟨⟨rfl, .inl ⟨rfl, rfl⟩⟩, by funext k; simp [Value.ownBlock]⟩, h, fun _ h => h.elim, fun k => by simp⟩
/-- The writer opened, ahead of the place. -/
abbrev Yo (bx bm bw : Nat) (R : Int) (F : List Int) (G : Int) (d : Ds) (h : Int) (x : Ws) (v : Value) (k : Nat) (hds : List Value) (Fr : Res) : Res := star (blkR bw (yObj bx bm x v)) (star (hsR v k hds) (star (PX bx bm R F G d h) Fr))
theorem Yo_good (g : Good Fr) (v : Value) (k : Nat) (hds : List Value) : Good (Yo bx bm bw R F G d h x v k hds Fr) := star_good (blkR_good _ _) (star_good (rowR_good _ _ _ _ _) (star_good (PX_good _ _ _ _ _ _ _) g))
theorem Yo_open (H : In w0 w (star (PX bx bm R F G d h) (star (WX w0 bw bx bm x) Fr))) : ∃ A k c hds, WOk x ∧ k = x.rows.length ∧ k ≤ 127 ∧ (∀ W, Below w0.heap.size w0 W → RdAcc W hds x.rows) ∧ In w0 w (Yo bx bm bw R F G d h x (.slice A k c) k hds Fr) := by
  obtain ⟨⟨S, ⟨S1, S2, ⟨k1, A, k, c, hds, ⟨k2, k3⟩, h1⟩, h2, hd, hs⟩, hge⟩, hb⟩ := H.swap
  have hf := k1.fit
  unfold usedN at hf
  exact ⟨A, k, c, hds, k1, k2, by omega, k3, ⟨S, star_assoc ⟨S1, S2, h1, h2, hd, hs⟩, hge⟩, hb⟩
theorem Yo_shut (K : WOk x) (hk : k = x.rows.length) (ha : ∀ W, Below w0.heap.size w0 W → RdAcc W hds x.rows) (H : In w0 w (Yo bx bm bw R F G d h x (.slice A k c) k hds Fr)) : In w0 w (star (PX bx bm R F G d h) (star (WX w0 bw bx bm x) Fr)) :=
  (H.assoc'.imp fun S h => star_mono h (fun S h => ⟨K, A, k, c, hds, ⟨hk, ha⟩, h⟩) (fun _ => id)).swap
theorem Yo_cells {v : Value} {F' : Res} (H : In w0 w (star (blkR bw (yObj bx bm x v)) F')) :
    w.cell? ⟨bw, 0, none⟩ = some (dp bx) ∧ w.cell? ⟨bw, 1, none⟩ = some (dp bm) ∧ w.cell? ⟨bw, 2, none⟩ = some (.int .i64 0) ∧ w.cell? ⟨bw, 3, none⟩ = some (.int .i64 x.file) ∧ w.cell? ⟨bw, 4, none⟩ = some v ∧ w.cell? ⟨bw, 5, none⟩ = some (.int .i64 x.n) ∧ w.cell? ⟨bw, 6, none⟩ = some (.int .i64 x.wrong) ∧ w.cell? ⟨bw, 7, none⟩ = some (.bool x.ended) := by
  have h := H.left.get fun S h => h.1
  exact ⟨cell_of_blk h 0, cell_of_blk h 1, cell_of_blk h 2, cell_of_blk h 3, cell_of_blk h 4, cell_of_blk h 5, cell_of_blk h 6, cell_of_blk h 7⟩
theorem Yo_free {v : Value} {F' : Res} (H : In w0 w (star (blkR bw (yObj bx bm x v)) F')) (i : Nat) : w.frozen? ⟨bw, i, none⟩ = false :=
  free_of_blk (H.left.get fun S h => h.1) i
theorem yflush_nil (H : In w0 w (star (PX bx bm R F G d h) (star (WX w0 bw bx bm x) Fr))) (hr : x.rows = []) :
    Calls Tryz.prog 87 #[wp_ bw] w fun e w' => e = .returned (.int .i64 0) ∧ w' = w := by
  obtain ⟨A, k, c, hds, K, hk, _, _, H1⟩ := Yo_open H
  obtain ⟨c0, c1, c2, c3, c4, c5, c6, c7⟩ := Yo_cells H1
  rw [hr] at hk
  obtain rfl : k = 0 := hk
  clear H H1 K hr c0 c1 c2 c3 c5 c6 c7
  go_enter Tryz.func87, Tryz.ntmps87
  go_wp2
  go_ret
  exact ⟨by trivial, rfl⟩
abbrev bytR (B : Option Addr) (cp : Nat) (rows : List (List V)) : Res := rowR 5 1 (.slice B 256 cp) 256 (u8s (mkP rows))
set_option maxHeartbeats 1000000 in
theorem yflush_c (g : Good Fr) (H : In w0 w (star (PX bx bm R F G d h) (star (WX w0 bw bx bm x) Fr))) (hd : d.deeds ≤ 1000000000) (hw : x.wrong = 0) (hr : x.rows ≠ []) :
    Calls Tryz.prog 87 #[wp_ bw] w fun e w' => e = .returned (.int .i64 (x.flushE R F d)) ∧ In w0 w' (star (PX bx bm R F G (x.flushD R F d) h) (star (WX w0 bw bx bm (x.flushX R F d)) Fr)) := by
  have e1 : x.flushE R F d = d.appE R F x.file (mkP x.rows) := if_pos ⟨hw, hr⟩
  have e2 : x.flushD R F d = d.app R F x.file (mkP x.rows) := if_pos ⟨hw, hr⟩
  unfold Ws.flushX
  rw [e1, e2]
  obtain ⟨A, k, c, hds, K, hk, hk7, ha, H1⟩ := Yo_open H
  obtain ⟨c0, c1, c2, c3, c4, c5, c6, c7⟩ := Yo_cells H1
  have hl : RdL w A k hds x.rows := acc_rdl (ha _ H1.bel) (H1.right.left.get fun S h => h.1)
  have gY := Yo_good (bx := bx) (bm := bm) (bw := bw) (R := R) (F := F) (G := G) (d := d) (h := h) (x := x) g (.slice A k c) k hds
  have CM := Lib.hid ((make_walk (c := c) hl K.ok (by omega)).mono fun (e : Ending) (w' : World) hh => show ∃ B cp, e = .returned (.tuple #[.slice B 256 cp, .bool true]) ∧ (w'.cell? ⟨bw, 0, none⟩ = some (dp bx) ∧ w'.cell? ⟨bw, 3, none⟩ = some (.int .i64 x.file)) ∧ In w0 w' (star (Yo bx bm bw R F G d h x (.slice A k c) k hds Fr) (bytR B cp x.rows)) from by
    unfold MakePost at hh
    rw [if_neg (Nat.not_lt.2 K.fit)] at hh
    obtain ⟨⟨B, cp, h1, h2⟩, h3⟩ := hh
    have V := H1.row gY h3 h2
    obtain ⟨q0, q1, q2, q3, q4, q5, q6, q7⟩ := Yo_cells V.left
    exact ⟨B, cp, h1, ⟨q0, q3⟩, V⟩)
  have CA := Lib.hid (fun W B cp (V : In w0 W (star (Yo bx bm bw R F G d h x (.slice A k c) k hds Fr) (bytR B cp x.rows))) => (q_app (n := x.file) (star_good (blkR_good _ _) (star_good (rowR_good _ _ _ _ _) g)) (show In w0 W.drew (star (PX bx bm R F G d h) (star (bytR B cp x.rows) (star (blkR bw (yObj bx bm x (.slice A k c))) (star (hsR (.slice A k c) k hds) Fr)))) from by
    have V1 := in_drew (star_good gY (rowR_good _ _ _ _ _)) V
    have V2 := V1.comm.imp fun S h => star_mono h (fun _ => id) (fun _ h => star_swap (star_mono h (fun _ => id) (fun _ => star_swap)))
    exact V2.swap) hr K.ok K.fit hd).mono fun (e : Ending) (w' : World) hh => show e = .returned (.int .i64 (d.appE R F x.file (mkP x.rows))) ∧ (w'.cell? ⟨bw, 0, none⟩ = some (dp bx) ∧ w'.cell? ⟨bw, 3, none⟩ = some (.int .i64 x.file) ∧ w'.cell? ⟨bw, 4, none⟩ = some (.slice A k c) ∧ w'.cell? ⟨bw, 6, none⟩ = some (.int .i64 x.wrong) ∧ w'.frozen? ⟨bw, 6, none⟩ = false ∧ w'.frozen? ⟨bw, 4, none⟩ = false) ∧
      (∀ E, (w'.setCell ⟨bw, 6, none⟩ E).cell? ⟨bw, 0, none⟩ = some (dp bx) ∧ (w'.setCell ⟨bw, 6, none⟩ E).cell? ⟨bw, 3, none⟩ = some (.int .i64 x.file)) ∧
      In w0 ((w'.setCell ⟨bw, 6, none⟩ (.int .i64 (d.appE R F x.file (mkP x.rows)))).setCell ⟨bw, 4, none⟩ (.slice none 0 0)) (star (PX bx bm R F G (d.app R F x.file (mkP x.rows)) h) (star (WX w0 bw bx bm ⟨x.file, x.n, d.appE R F x.file (mkP x.rows), x.ended, []⟩) Fr)) from by
    obtain ⟨h1, h2⟩ := hh
    have V3 := h2.swap.imp fun S h => star_mono h (fun _ => id) (fun _ => star_swap)
    obtain ⟨q0, q1, q2, q3, q4, q5, q6, q7⟩ := Yo_cells V3
    have gB : Good (star (hsR (.slice A k c) k hds) (star (PX bx bm R F G (d.app R F x.file (mkP x.rows)) h) Fr)) := star_good (rowR_good _ _ _ _ _) (star_good (PX_good _ _ _ _ _ _ _) g)
    refine ⟨h1, ⟨q0, q3, q4, q6, Yo_free V3 6, Yo_free V3 4⟩, fun E => ?_, ?_⟩
    · have V4 := V3.put gB 6 E
      have hb := V4.left.get fun S h => h.1
      exact ⟨cell_of_blk hb 0, cell_of_blk hb 3⟩
    · have V4 := (V3.put gB 6 (.int .i64 (d.appE R F x.file (mkP x.rows)))).put gB 4 (.slice none 0 0)
      have V5 := V4.drop.imp fun S h => star_mono h (fun _ => id) (fun _ h => hs_nil h)
      exact Yo_shut (x := ⟨x.file, x.n, d.appE R F x.file (mkP x.rows), x.ended, []⟩) (hds := []) (WOk.none K.num K.file) rfl (fun W _ => ⟨rfl, fun i r hr => by simp at hr⟩) V5)
  have hkn : ((k : Int) == 0) = false := by
    have := List.length_pos_iff.2 hr
    simp
    omega
  obtain ⟨E, hE⟩ : ∃ E, E = d.appE R F x.file (mkP x.rows) := ⟨_, rfl⟩
  obtain ⟨D, hD⟩ : ∃ D, D = d.app R F x.file (mkP x.rows) := ⟨_, rfl⟩
  rw [← hE, ← hD] at CA ⊢
  obtain ⟨file, n, wrong, ended, rows⟩ := x
  dsimp only at c3 c4 CM CA
  clear H H1 K ha hl gY e1 e2 hw hr hE hD c1 c2 c5 c6 c7 hk hd
  go_enter Tryz.func87, Tryz.ntmps87
  go_wp2_with (go_at_call 115; (with_reducible refine CM.out.mono ?_); rintro e w1 ⟨B, cp, rfl, ⟨q0, q3⟩, V⟩; have V1 := Lib.hid V; clear V CM)
  go_region_held3 (fun w' => w'.cell? ⟨bw, 0, none⟩ = some (dp bx) ∧ w'.cell? ⟨bw, 3, none⟩ = some (.int .i64 file)) (first | go_keep | (refine ⟨?_, ?_⟩ <;> assumption)) (first
    | (go_at_call 116; (with_reducible refine (CA.out _ _ _ V1.out).mono ?_); rintro e w2 ⟨rfl, ⟨m0, m3, m4, m6, mf, mf4⟩, mS, V⟩; obtain ⟨s0, s3⟩ := mS (.int .i64 E); have V2 := Lib.hid V; clear V mS))
  all_goals go_wp2
  all_goals go_ret
  all_goals exact ⟨by trivial, V2.out⟩
end
end Go.Proofs.YtkbapoeilcapfaaGreat

/- the document's writer: Put. -/
namespace Go.Proofs.YtkbapoeilcapfaaGreat
open Go.RowKit Go.Maps
set_option linter.unusedVariables false
set_option linter.unusedSimpArgs false
set_option maxRecDepth 6000

section
variable {w0 w W : World} {bx bm bw : Nat} {R : Int} {F : List Int} {G : Int} {d : Ds} {h : Int} {x : Ws} {r : List V} {Fr X : Res} {A C : Option Addr} {k c m cc : Nat} {hds : List Value}
theorem yflush (g : Good Fr) (H : In w0 w (star (PX bx bm R F G d h) (star (WX w0 bw bx bm x) Fr))) (hd : d.deeds ≤ 1000000000) (hw : x.wrong = 0) :
    Calls Tryz.prog 87 #[wp_ bw] w fun e w' => e = .returned (.int .i64 (x.flushE R F d)) ∧ In w0 w' (star (PX bx bm R F G (x.flushD R F d) h) (star (WX w0 bw bx bm (x.flushX R F d)) Fr)) := by
  by_cases hr : x.rows = []
  · have e1 : x.flushE R F d = x.wrong := if_neg (fun h => h.2 hr)
    have e2 : x.flushD R F d = d := if_neg (fun h => h.2 hr)
    have e3 : x.flushX R F d = x := by
      unfold Ws.flushX
      rw [e1]
      obtain ⟨a, b, c, e, f⟩ := x
      dsimp only at hr
      rw [hr]
    rw [e1, e2, e3, hw]
    refine (yflush_nil H hr).mono fun e w' hh => ?_
    obtain ⟨h1, h2⟩ := hh
    subst h2
    exact ⟨h1, H⟩
  · exact yflush_c g H hd hw hr
/-- Room for nothing. -/
theorem box_own (w : World) : (w.alloc (.cells #[] 25 (0, 0))).ownsRow w.heap.size 25 1 (.slice (some ⟨w.heap.size, 0, none⟩) 0 0) 0 [] :=
  ⟨rfl, .inr ⟨w.heap.size, 0, #[], rfl, Nat.le_refl _, heap_alloc_new w _, Nat.le_refl _, by decide, by simp, by simp⟩⟩
/-- The rows of the page, copied into a row of their own. -/
theorem acc_one {acc : List (List V)} (h : RdAcc W hds acc) : ∀ u ∈ hds, u.oneCell' = true := by
  intro u hu
  obtain ⟨i, hi, rfl⟩ := List.getElem_of_mem hu
  obtain ⟨B, m, c, e, _⟩ := h.2 i _ (List.getElem?_eq_getElem (show i < acc.length by rw [← h.1]; exact hi))
  rw [List.getElem?_eq_getElem hi] at e
  injection e with e
  rw [e]
  rfl
theorem y_more (g : Good Fr) {acc : List (List V)} (ha : RdAcc W hds acc) (H : In w0 w (Yo bx bm bw R F G d h x (.slice A k c) k hds Fr)) :
    In w0 (w.alloc (.cells #[] 25)) (star (hsR (.slice (some ⟨w.heap.size, 0, none⟩) 0 0) 0 []) (Yo bx bm bw R F G d h x (.slice A k c) k hds Fr)) ∧ (w.alloc (.cells #[] 25)).ownsRow 0 25 1 (.slice (some ⟨w.heap.size, 0, none⟩) 0 0) 0 [] ∧ hds.length = k ∧
      (0 < k → ∃ ad, A = some ad ∧ ∀ j u, hds[j]? = some u → (w.alloc (.cells #[] 25)).cell? (ad.add j) = some u) ∧ (∀ u ∈ hds, u.oneCell' = true) := by
  have gY := Yo_good (bx := bx) (bm := bm) (bw := bw) (R := R) (F := F) (G := G) (d := d) (h := h) (x := x) g (.slice A k c) k hds
  have V := (H.row gY ((Below.refl _ _).alloc (Nat.le_refl _) _) (box_own w)).comm
  have ho := V.right.right.left.get fun S h => h.1
  have h1 := (Rd1.of_own ho).2
  refine ⟨V, own_lower (box_own w) (Nat.zero_le _), h1.1, fun hk => ?_, acc_one ha⟩
  obtain ⟨ad, e, _, hc⟩ := h1.2.2 hk
  exact ⟨ad, e, hc⟩
def YPutP (bw bx bm : Nat) (R : Int) (F : List Int) (G : Int) (d : Ds) (h : Int) (x : Ws) (r : List V) (w0 : World) (Fr : Res) (e : Ending) (w' : World) : Prop :=
  e = .returned (.int .i64 (x.putE R F d r)) ∧ In w0 w' (star (PX bx bm R F G (x.putD R F d r) h) (star (WX w0 bw bx bm (x.putX R F d r)) Fr))
theorem yput_a (H : In w0 w (star (PX bx bm R F G d h) (star (WX w0 bw bx bm x) Fr))) (hx : x.ended = true) :
    Calls Tryz.prog 49 #[wp_ bw, .slice C m cc] w (YPutP bw bx bm R F G d h x r w0 Fr) := by
  have es : x.stop r = 6 := if_pos hx
  have e0 : YPutP bw bx bm R F G d h x r w0 Fr (.returned (.int .i64 6)) w := by
    unfold YPutP Ws.putE Ws.putD Ws.putX
    rw [es]
    exact ⟨rfl, H⟩
  have E0 := Lib.hid e0
  obtain ⟨A, k, c, hds, K, hk, hk7, ha, H1⟩ := Yo_open H
  obtain ⟨c0, c1, c2, c3, c4, c5, c6, c7⟩ := Yo_cells H1
  rw [hx] at c7
  clear H H1 K hx es e0 ha c0 c1 c2 c3 c4 c5 c6 hk hk7
  go_enter Tryz.func49, Tryz.ntmps49
  go_wp2
  go_ret
  exact E0.out
theorem yput_b (H : In w0 w (star (PX bx bm R F G d h) (star (WX w0 bw bx bm x) Fr))) (hx : x.ended = false) (hw : x.wrong ≠ 0) :
    Calls Tryz.prog 49 #[wp_ bw, .slice C m cc] w (YPutP bw bx bm R F G d h x r w0 Fr) := by
  have es : x.stop r = x.wrong := by unfold Ws.stop; rw [hx, if_neg (by decide), if_pos hw]
  have e0 : YPutP bw bx bm R F G d h x r w0 Fr (.returned (.int .i64 x.wrong)) w := by
    unfold YPutP Ws.putE Ws.putD Ws.putX
    rw [es]
    simp only [if_pos hw]
    exact ⟨by trivial, H⟩
  have E0 := Lib.hid e0
  obtain ⟨A, k, c, hds, K, hk, hk7, ha, H1⟩ := Yo_open H
  obtain ⟨c0, c1, c2, c3, c4, c5, c6, c7⟩ := Yo_cells H1
  rw [hx] at c7
  have hne : (x.wrong != 0) = true := by simpa using hw
  obtain ⟨file, n, wrong, ended, rows⟩ := x
  dsimp only at c6 hne
  clear H H1 K hx es e0 ha c0 c1 c2 c3 c4 c5 hw hk hk7
  go_enter Tryz.func49, Tryz.ntmps49
  go_wp2
  go_ret
  exact E0.out
theorem yput_c (g : Good Fr) (H : In w0 w (star (PX bx bm R F G d h) (star (WX w0 bw bx bm x) Fr))) (HR : RdV w C m r) (hx : x.ended = false) (hw : x.wrong = 0) (hm : mayE r ≠ 0) :
    Calls Tryz.prog 49 #[wp_ bw, .slice C m cc] w (YPutP bw bx bm R F G d h x r w0 Fr) := by
  have es : x.stop r = mayE r := by unfold Ws.stop; rw [hx, if_neg (by decide), hw, if_neg (by decide)]
  have e0 : ∀ W, Below w.heap.size w W → YPutP bw bx bm R F G d h x r w0 Fr (.returned (.int .i64 (mayE r))) W := by
    intro W b
    unfold YPutP Ws.putE Ws.putD Ws.putX
    rw [es]
    simp only [if_pos hm]
    exact ⟨by trivial, H.below (star_good (PX_good _ _ _ _ _ _ _) (star_good (WX_good _ _ _ _ _) g)) b⟩
  have E0 := Lib.hid e0
  have CM := Lib.hid (may_walk (c := cc) HR)
  obtain ⟨A, k, c, hds, K, hk, hk7, ha, H1⟩ := Yo_open H
  obtain ⟨c0, c1, c2, c3, c4, c5, c6, c7⟩ := Yo_cells H1
  rw [hx] at c7
  have hne : (x.wrong != 0) = false := by simpa using hw
  have hm1 : (mayE r != 0) = true := by simpa using hm
  obtain ⟨E, hE⟩ : ∃ E, E = mayE r := ⟨_, rfl⟩
  rw [← hE] at E0 CM hm1
  obtain ⟨file, n, wrong, ended, rows⟩ := x
  dsimp only at c6 hne
  clear H H1 K hx es e0 ha c0 c1 c2 c3 c4 c5 hw hk hk7 HR hm hE
  go_enter Tryz.func49, Tryz.ntmps49
  go_wp2_with (go_at_call 86; (with_reducible refine CM.out.mono ?_); rintro e w1 ⟨rfl, b⟩; have B1 := Lib.hid b; clear b)
  go_ret
  exact E0.out _ B1.out
/-- What Put does with the rows of the page and a row more. -/
structure YMore (w0 w : World) (bx bm bw : Nat) (R : Int) (F : List Int) (G : Int) (d : Ds) (h : Int) (x : Ws) (A : Option Addr) (k c : Nat) (hds : List Value) (C : Option Addr) (m cc : Nat) (r : List V) (Fr : Res) : Prop where
  inn : In w0 w (Yo bx bm bw R F G d h x (.slice A k c) k hds Fr)
  acc : ∀ W, Below w0.heap.size w0 W → RdAcc W hds x.rows
  row : ∀ W, Below w0.heap.size w0 W → RdV W C m r
  ok : WOk x
  hr : rowOk r = true
  hk : k = x.rows.length
  hk7 : k ≤ 127
theorem YMore.below (S : YMore w0 w bx bm bw R F G d h x A k c hds C m cc r Fr) (g : Good Fr) (b : Below w.heap.size w W) : YMore w0 W bx bm bw R F G d h x A k c hds C m cc r Fr :=
  ⟨S.inn.below (Yo_good g _ _ _) b, S.acc, S.row, S.ok, S.hr, S.hk, S.hk7⟩
theorem YMore.used (S : YMore w0 w bx bm bw R F G d h x A k c hds C m cc r Fr) (g : Good Fr) {A2 : Option Addr} {c2 : Nat} (V : In w0 W (star (hsR (.slice A2 (k + 1) c2) (k + 1) (hds ++ [.slice C m cc])) (Yo bx bm bw R F G d h x (.slice A k c) k hds Fr))) :
    Calls Tryz.prog 58 #[.slice A2 (k + 1) c2] W fun e w' => e = .returned (.int .i64 (usedN (x.rows ++ [r]) : Nat)) ∧ (w'.cell? ⟨bw, 4, none⟩ = some (.slice A k c) ∧ w'.cell? ⟨bw, 5, none⟩ = some (.int .i64 x.n) ∧ w'.frozen? ⟨bw, 4, none⟩ = false ∧ w'.frozen? ⟨bw, 5, none⟩ = false) ∧ In w0 w' (star (hsR (.slice A2 (k + 1) c2) (k + 1) (hds ++ [.slice C m cc])) (Yo bx bm bw R F G d h x (.slice A k c) k hds Fr)) := by
  have hl : RdL W A2 (k + 1) (hds ++ [.slice C m cc]) (x.rows ++ [r]) := acc_rdl ((S.acc W V.bel).snoc (S.row W V.bel)) (V.left.get fun S h => h.1)
  have hok : ∀ q ∈ x.rows ++ [r], rowOk q = true := by
    intro q hq
    rcases List.mem_append.1 hq with hq | hq
    · exact S.ok.ok q hq
    · rw [List.mem_singleton.1 hq]; exact S.hr
  refine (used_walk (c := c2) hl hok (by have := S.hk7; omega)).mono fun e w' hh => ?_
  have V2 := V.below (star_good (rowR_good _ _ _ _ _) (Yo_good g _ _ _)) hh.2
  obtain ⟨q0, q1, q2, q3, q4, q5, q6, q7⟩ := Yo_cells V2.right
  exact ⟨hh.1, ⟨q4, q5, Yo_free V2.right 4, Yo_free V2.right 5⟩, V2⟩
/-- The longer page is laid in. -/
theorem YMore.put (S : YMore w0 w bx bm bw R F G d h x A k c hds C m cc r Fr) (g : Good Fr) (hn : x.n < 1000000) (hu : usedN (x.rows ++ [r]) ≤ 256) {A2 : Option Addr} {c2 : Nat} (V : In w0 W (star (hsR (.slice A2 (k + 1) c2) (k + 1) (hds ++ [.slice C m cc])) (Yo bx bm bw R F G d h x (.slice A k c) k hds Fr))) :
    In w0 ((W.setCell ⟨bw, 4, none⟩ (.slice A2 (k + 1) c2)).setCell ⟨bw, 5, none⟩ (.int .i64 (x.n + 1))) (star (PX bx bm R F G d h) (star (WX w0 bw bx bm ⟨x.file, x.n + 1, x.wrong, x.ended, x.rows ++ [r]⟩) Fr)) := by
  have gA : Good (star (hsR (.slice A2 (k + 1) c2) (k + 1) (hds ++ [.slice C m cc])) (star (hsR (.slice A k c) k hds) (star (PX bx bm R F G d h) Fr))) := star_good (rowR_good _ _ _ _ _) (star_good (rowR_good _ _ _ _ _) (star_good (PX_good _ _ _ _ _ _ _) g))
  have V2 := (V.swap.put gA 4 (.slice A2 (k + 1) c2)).put gA 5 (.int .i64 (x.n + 1))
  have V3 := V2.imp fun S h => star_mono h (fun _ => id) (fun _ => star_swap)
  refine Yo_shut (x := ⟨x.file, x.n + 1, x.wrong, x.ended, x.rows ++ [r]⟩) ⟨?_, hu, by have := S.ok.num; dsimp only; omega, S.ok.file⟩ (by rw [S.hk]; simp) (fun W hW => (S.acc W hW).snoc (S.row W hW)) V3.drop
  intro q hq
  rcases List.mem_append.1 hq with hq | hq
  · exact S.ok.ok q hq
  · rw [List.mem_singleton.1 hq]; exact S.hr
set_option maxHeartbeats 1000000 in
theorem yput_d (g : Good Fr) (H : In w0 w (star (PX bx bm R F G d h) (star (WX w0 bw bx bm x) Fr))) (HR : ∀ W, Below w0.heap.size w0 W → RdV W C m r) (hn : x.n < 1000000) (hx : x.ended = false) (hw : x.wrong = 0) (hm : mayE r = 0) (hu : usedN (x.rows ++ [r]) ≤ 256) :
    Calls Tryz.prog 49 #[wp_ bw, .slice C m cc] w (YPutP bw bx bm R F G d h x r w0 Fr) := by
  have es : x.stop r = 0 := by unfold Ws.stop; rw [hx, if_neg (by decide), hw, if_neg (by decide)]; exact hm
  have CM := may_walk (c := cc) (HR _ H.bel)
  rw [hm] at CM
  have CM := Lib.hid CM
  have gW : Good (star (PX bx bm R F G d h) (star (WX w0 bw bx bm x) Fr)) := star_good (PX_good _ _ _ _ _ _ _) (star_good (WX_good _ _ _ _ _) g)
  obtain ⟨A, k, c, hds, K, hk, hk7, ha, H1⟩ := Yo_open H
  have S : YMore w0 w bx bm bw R F G d h x A k c hds C m cc r Fr := ⟨H1, ha, HR, K, (mayE_ok hm).1, hk, hk7⟩
  obtain ⟨c0, c1, c2, c3, c4, c5, c6, c7⟩ := Yo_cells H1
  rw [hx] at c7
  have hb := K.num
  have hne : (x.wrong != 0) = false := by simpa using hw
  have e0 : ∀ W, In w0 W (star (PX bx bm R F G d h) (star (WX w0 bw bx bm ⟨x.file, x.n + 1, x.wrong, x.ended, x.rows ++ [r]⟩) Fr)) → YPutP bw bx bm R F G d h x r w0 Fr (.returned (.int .i64 0)) W := by
    intro W b
    unfold YPutP Ws.putE Ws.putD Ws.putX
    rw [es]
    simp only [if_neg (Nat.not_lt.2 hu), if_neg (show ¬ (0 : Int) ≠ 0 by decide)]
    exact ⟨by trivial, b⟩
  have E0 := Lib.hid (fun W A2 c2 (V : In w0 W (star (hsR (.slice A2 (k + 1) c2) (k + 1) (hds ++ [.slice C m cc])) (Yo bx bm bw R F G d h x (.slice A k c) k hds Fr))) => e0 _ (S.put g hn hu V))
  have CU := Lib.hid (fun W A2 c2 (V : In w0 W (star (hsR (.slice A2 (k + 1) c2) (k + 1) (hds ++ [.slice C m cc])) (Yo bx bm bw R F G d h x (.slice A k c) k hds Fr))) => S.used g V)
  obtain ⟨U, hU⟩ : ∃ U, U = usedN (x.rows ++ [r]) := ⟨_, rfl⟩
  rw [← hU] at CU hu
  have hu1 : ¬ (256 : Int) < (U : Int) := by omega
  have SS := Lib.hid S
  obtain ⟨file, n, wrong, ended, rows⟩ := x
  dsimp only at c6 hne hb hn E0 CU
  clear H H1 K hx es e0 ha c0 c1 c2 c3 c4 c5 hw hm HR S hU hk gW
  go_enter Tryz.func49, Tryz.ntmps49
  go_wp2_with (first
    | (go_at_call 86; (with_reducible refine CM.out.mono ?_); rintro e w1 ⟨rfl, b⟩; have S1 := Lib.hid (SS.out.below g b); have M1 := y_more g (S1.out.acc _ S1.out.inn.bel) S1.out.inn; obtain ⟨q0, q1, q2, q3, q4, q5, q6, q7⟩ := Yo_cells M1.1.right; have HM := Lib.hid M1; clear b M1 q0 q1 q2 q3 q5 q6 q7 CM)
    | (at_builtin; refine wp_appendL (W := w1.alloc (.cells #[] 25)) 0 rfl (.tmp 26) (.tmp 30) 23 25 (.slice none 0 0) 1 24 rfl Tryz.underlying23 info_L rfl (by omega) (by omega) (.slice (some ⟨w1.heap.size, 0, none⟩) 0 0) 0 [] rfl A k c hds rfl (by rw [Nat.mul_one]; exact HM.out.2.2.1) HM.out.2.2.2.1 HM.out.2.2.2.2 HM.out.2.1 (Nat.zero_le _) (by omega) ?_; intro v2 w2 h2 t2 hor; rw [Nat.zero_add, List.nil_append] at h2; obtain ⟨A2, c2, rfl⟩ := own_slice h2; have V2 := Lib.hid (HM.out.1.grow (Yo_good g _ _ _) h2 t2 hor); have HO2 := Lib.hid h2; clear h2 t2 hor HM)
    | (at_builtin; refine wp_append1 (W := w2) 0 rfl (.tmp 31) (.tmp 33) 23 25 (.slice none 0 0) 1 24 rfl Tryz.underlying23 info_L rfl (by omega) (by omega) (.slice A2 k c2) k _ [.slice C m cc] rfl rfl (by simp) rfl (by simp [Value.oneCell']) HO2.out (by omega) (by omega) ?_; intro v3 w3 h3 t3 hor; obtain ⟨A3, c3, rfl⟩ := own_slice h3; have V3 := Lib.hid (V2.out.grow (Yo_good g _ _ _) h3 t3 hor); clear h3 t3 hor V2 HO2)
    | (go_at_call 58; (with_reducible refine (CU.out _ _ _ V3.out).mono ?_); rintro e w4 ⟨rfl, ⟨m4, m5, f4, f5⟩, V⟩; have V4 := Lib.hid V; clear V V3))
  go_ret
  exact E0.out _ _ _ V4.out
set_option maxHeartbeats 1000000 in
theorem yput_e (g : Good Fr) (H : In w0 w (star (PX bx bm R F G d h) (star (WX w0 bw bx bm x) Fr))) (HR : ∀ W, Below w0.heap.size w0 W → RdV W C m r) (hd : d.deeds ≤ 1000000000) (hx : x.ended = false) (hw : x.wrong = 0) (hm : mayE r = 0) (hu : 256 < usedN (x.rows ++ [r])) (hf : x.flushE R F d ≠ 0) :
    Calls Tryz.prog 49 #[wp_ bw, .slice C m cc] w (YPutP bw bx bm R F G d h x r w0 Fr) := by
  have es : x.stop r = 0 := by unfold Ws.stop; rw [hx, if_neg (by decide), hw, if_neg (by decide)]; exact hm
  have CM := may_walk (c := cc) (HR _ H.bel)
  rw [hm] at CM
  have CM := Lib.hid CM
  have gW : Good (star (PX bx bm R F G d h) (star (WX w0 bw bx bm x) Fr)) := star_good (PX_good _ _ _ _ _ _ _) (star_good (WX_good _ _ _ _ _) g)
  obtain ⟨A, k, c, hds, K, hk, hk7, ha, H1⟩ := Yo_open H
  have S : YMore w0 w bx bm bw R F G d h x A k c hds C m cc r Fr := ⟨H1, ha, HR, K, (mayE_ok hm).1, hk, hk7⟩
  obtain ⟨c0, c1, c2, c3, c4, c5, c6, c7⟩ := Yo_cells H1
  rw [hx] at c7
  have hb := K.num
  have hne : (x.wrong != 0) = false := by simpa using hw
  have e0 : ∀ W, In w0 W (star (PX bx bm R F G (x.flushD R F d) h) (star (WX w0 bw bx bm (x.flushX R F d)) Fr)) → YPutP bw bx bm R F G d h x r w0 Fr (.returned (.int .i64 (x.flushE R F d))) W := by
    intro W b
    unfold YPutP Ws.putE Ws.putD Ws.putX
    rw [es]
    simp only [if_pos hu, if_neg (show ¬ (0 : Int) ≠ 0 by decide), if_pos hf]
    exact ⟨by trivial, b⟩
  have E0 := Lib.hid e0
  have CU := Lib.hid (fun W A2 c2 (V : In w0 W (star (hsR (.slice A2 (k + 1) c2) (k + 1) (hds ++ [.slice C m cc])) (Yo bx bm bw R F G d h x (.slice A k c) k hds Fr))) => (S.used g V).mono fun (e : Ending) (w' : World) hh => show e = .returned (.int .i64 (usedN (x.rows ++ [r]) : Nat)) ∧ In w0 w' (star (PX bx bm R F G d h) (star (WX w0 bw bx bm x) Fr)) from ⟨hh.1, Yo_shut K hk ha hh.2.2.right⟩)
  have CF := Lib.hid (fun W (V : In w0 W (star (PX bx bm R F G d h) (star (WX w0 bw bx bm x) Fr))) => yflush g V hd hw)
  obtain ⟨U, hU⟩ : ∃ U, U = usedN (x.rows ++ [r]) := ⟨_, rfl⟩
  rw [← hU] at CU hu
  have hu1 : (256 : Int) < (U : Int) := by omega
  have hf1 : (x.flushE R F d != 0) = true := by simpa using hf
  obtain ⟨E, hE⟩ : ∃ E, E = x.flushE R F d := ⟨_, rfl⟩
  rw [← hE] at E0 CF hf1
  have SS := Lib.hid S
  obtain ⟨file, n, wrong, ended, rows⟩ := x
  dsimp only at c6 hne hb
  clear H H1 K hx es e0 ha c0 c1 c2 c3 c4 c5 hw hm HR S hU hk gW hf hE
  go_enter Tryz.func49, Tryz.ntmps49
  go_wp2_with (first
    | (go_at_call 86; (with_reducible refine CM.out.mono ?_); rintro e w1 ⟨rfl, b⟩; have S1 := Lib.hid (SS.out.below g b); have M1 := y_more g (S1.out.acc _ S1.out.inn.bel) S1.out.inn; obtain ⟨q0, q1, q2, q3, q4, q5, q6, q7⟩ := Yo_cells M1.1.right; have HM := Lib.hid M1; clear b M1 q0 q1 q2 q3 q5 q6 q7 CM)
    | (at_builtin; refine wp_appendL (W := w1.alloc (.cells #[] 25)) 0 rfl (.tmp 26) (.tmp 30) 23 25 (.slice none 0 0) 1 24 rfl Tryz.underlying23 info_L rfl (by omega) (by omega) (.slice (some ⟨w1.heap.size, 0, none⟩) 0 0) 0 [] rfl A k c hds rfl (by rw [Nat.mul_one]; exact HM.out.2.2.1) HM.out.2.2.2.1 HM.out.2.2.2.2 HM.out.2.1 (Nat.zero_le _) (by omega) ?_; intro v2 w2 h2 t2 hor; rw [Nat.zero_add, List.nil_append] at h2; obtain ⟨A2, c2, rfl⟩ := own_slice h2; have V2 := Lib.hid (HM.out.1.grow (Yo_good g _ _ _) h2 t2 hor); have HO2 := Lib.hid h2; clear h2 t2 hor HM)
    | (at_builtin; refine wp_append1 (W := w2) 0 rfl (.tmp 31) (.tmp 33) 23 25 (.slice none 0 0) 1 24 rfl Tryz.underlying23 info_L rfl (by omega) (by omega) (.slice A2 k c2) k _ [.slice C m cc] rfl rfl (by simp) rfl (by simp [Value.oneCell']) HO2.out (by omega) (by omega) ?_; intro v3 w3 h3 t3 hor; obtain ⟨A3, c3, rfl⟩ := own_slice h3; have V3 := Lib.hid (V2.out.grow (Yo_good g _ _ _) h3 t3 hor); clear h3 t3 hor V2 HO2)
    | (go_at_call 58; (with_reducible refine (CU.out _ _ _ V3.out).mono ?_); rintro e w4 ⟨rfl, V⟩; have V4 := Lib.hid V; clear V V3)
    | (go_at_call 87; (with_reducible refine (CF.out _ V4.out).mono ?_); rintro e w5 ⟨rfl, V⟩; have V5 := Lib.hid V; clear V V4))
  go_ret
  exact E0.out _ V5.out
set_option maxHeartbeats 1000000 in
theorem yput_f (g : Good Fr) (H : In w0 w (star (PX bx bm R F G d h) (star (WX w0 bw bx bm x) Fr))) (HR : ∀ W, Below w0.heap.size w0 W → RdV W C m r) (hd : d.deeds ≤ 1000000000) (hn : x.n < 1000000) (hx : x.ended = false) (hw : x.wrong = 0) (hm : mayE r = 0) (hu : 256 < usedN (x.rows ++ [r])) (hf : x.flushE R F d = 0) :
    Calls Tryz.prog 49 #[wp_ bw, .slice C m cc] w (YPutP bw bx bm R F G d h x r w0 Fr) := by
  have es : x.stop r = 0 := by unfold Ws.stop; rw [hx, if_neg (by decide), hw, if_neg (by decide)]; exact hm
  have CM := may_walk (c := cc) (HR _ H.bel)
  rw [hm] at CM
  have CM := Lib.hid CM
  have gW : Good (star (PX bx bm R F G d h) (star (WX w0 bw bx bm x) Fr)) := star_good (PX_good _ _ _ _ _ _ _) (star_good (WX_good _ _ _ _ _) g)
  obtain ⟨A, k, c, hds, K, hk, hk7, ha, H1⟩ := Yo_open H
  have S : YMore w0 w bx bm bw R F G d h x A k c hds C m cc r Fr := ⟨H1, ha, HR, K, (mayE_ok hm).1, hk, hk7⟩
  obtain ⟨c0, c1, c2, c3, c4, c5, c6, c7⟩ := Yo_cells H1
  rw [hx] at c7
  have hb := K.num
  have hne : (x.wrong != 0) = false := by simpa using hw
  have ez : x.flushX R F d = ⟨x.file, x.n, 0, x.ended, []⟩ := by unfold Ws.flushX; rw [hf]
  have e0 : ∀ W, In w0 W (star (PX bx bm R F G (x.flushD R F d) h) (star (WX w0 bw bx bm ⟨x.file, x.n + 1, 0, x.ended, [r]⟩) Fr)) → YPutP bw bx bm R F G d h x r w0 Fr (.returned (.int .i64 0)) W := by
    intro W b
    unfold YPutP Ws.putE Ws.putD Ws.putX
    rw [es]
    simp only [if_pos hu, if_neg (show ¬ (0 : Int) ≠ 0 by decide), if_neg (show ¬ x.flushE R F d ≠ 0 by simpa using hf)]
    exact ⟨by rw [hf], b⟩
  have CU := Lib.hid (fun W A2 c2 (V : In w0 W (star (hsR (.slice A2 (k + 1) c2) (k + 1) (hds ++ [.slice C m cc])) (Yo bx bm bw R F G d h x (.slice A k c) k hds Fr))) => (S.used g V).mono fun (e : Ending) (w' : World) hh => show e = .returned (.int .i64 (usedN (x.rows ++ [r]) : Nat)) ∧ In w0 w' (star (PX bx bm R F G d h) (star (WX w0 bw bx bm x) Fr)) from ⟨hh.1, Yo_shut K hk ha hh.2.2.right⟩)
  have CF := (fun W (V : In w0 W (star (PX bx bm R F G d h) (star (WX w0 bw bx bm x) Fr))) => yflush g V hd hw)
  rw [hf, ez] at CF
  have CF := Lib.hid (fun W V => (CF W V).mono fun (e : Ending) (w' : World) hh => show e = .returned (.int .i64 0) ∧ (∃ v, w'.cell? ⟨bw, 4, none⟩ = some v ∧ w'.cell? ⟨bw, 5, none⟩ = some (.int .i64 x.n) ∧ w'.frozen? ⟨bw, 4, none⟩ = false ∧ w'.frozen? ⟨bw, 5, none⟩ = false) ∧
      (∀ A2 c2, ((w'.alloc (.cells #[.slice C m cc] 25)).cell? ⟨bw, 4, none⟩ = w'.cell? ⟨bw, 4, none⟩ ∧ (w'.alloc (.cells #[.slice C m cc] 25)).cell? ⟨bw, 5, none⟩ = w'.cell? ⟨bw, 5, none⟩ ∧ (w'.alloc (.cells #[.slice C m cc] 25)).frozen? ⟨bw, 4, none⟩ = false ∧ (w'.alloc (.cells #[.slice C m cc] 25)).frozen? ⟨bw, 5, none⟩ = false) ∧ (A2 = 1 → c2 = 1 → YPutP bw bx bm R F G d h x r w0 Fr (.returned (.int .i64 0)) (((w'.alloc (.cells #[.slice C m cc] 25)).setCell ⟨bw, 4, none⟩ (.slice (some ⟨w'.heap.size, 0, none⟩) A2 c2)).setCell ⟨bw, 5, none⟩ (.int .i64 (x.n + 1))))) from by
    obtain ⟨h1, h2⟩ := hh
    obtain ⟨A', k', c', hds', K', hk', hk7', ha', H1'⟩ := Yo_open h2
    obtain ⟨q0, q1, q2, q3, q4, q5, q6, q7⟩ := Yo_cells H1'
    have hkz : k' = 0 := hk'
    subst hkz
    refine ⟨h1, ⟨_, q4, q5, Yo_free H1' 4, Yo_free H1' 5⟩, fun A2 c2 => ⟨?_, fun e1 e2 => ?_⟩⟩
    · have V3 := in_alloc (Yo_good g _ _ _) H1' (.cells #[.slice C m cc] 25 (0, 0))
      obtain ⟨z0, z1, z2, z3, z4, z5, z6, z7⟩ := Yo_cells V3
      exact ⟨z4.trans q4.symm, z5.trans q5.symm, Yo_free V3 4, Yo_free V3 5⟩
    · subst e1 e2
      refine e0 _ ?_
      have ho : (w'.alloc (.cells #[.slice C m cc] 25 (0, 0))).ownsRow w'.heap.size 25 1 (.slice (some ⟨w'.heap.size, 0, none⟩) 1 1) 1 [.slice C m cc] :=
        ⟨rfl, .inr ⟨w'.heap.size, 1, #[.slice C m cc], rfl, Nat.le_refl _, heap_alloc_new w' _, Nat.le_refl _, by decide, by simp, by simp⟩⟩
      have V3 := (H1'.row (Yo_good g _ _ _) ((Below.refl _ _).alloc (Nat.le_refl _) _) ho).comm
      have gA : Good (star (hsR (.slice (some ⟨w'.heap.size, 0, none⟩) 1 1) 1 [.slice C m cc]) (star (hsR (.slice A' 0 c') 0 hds') (star (PX bx bm R F G (x.flushD R F d) h) Fr))) := star_good (rowR_good _ _ _ _ _) (star_good (rowR_good _ _ _ _ _) (star_good (PX_good _ _ _ _ _ _ _) g))
      have V4 := (V3.swap.put gA 4 (.slice (some ⟨w'.heap.size, 0, none⟩) 1 1)).put gA 5 (.int .i64 (x.n + 1))
      have V5 := V4.imp fun S h => star_mono h (fun _ => id) (fun _ => star_swap)
      exact Yo_shut (x := ⟨x.file, x.n + 1, 0, x.ended, [r]⟩) (WOk.one (mayE_ok hm).1 (mayE_ok hm).2 (by have := K.num; omega) K.file) rfl (fun W hW => (show RdAcc W ([] ++ [.slice C m cc]) ([] ++ [r]) from (show RdAcc W [] [] from ⟨rfl, fun i r hr => by simp at hr⟩).snoc (HR W hW))) V5.drop)
  obtain ⟨U, hU⟩ : ∃ U, U = usedN (x.rows ++ [r]) := ⟨_, rfl⟩
  rw [← hU] at CU hu
  have hu1 : (256 : Int) < (U : Int) := by omega
  have SS := Lib.hid S
  obtain ⟨file, n, wrong, ended, rows⟩ := x
  dsimp only at c6 hne hb hn CF
  clear H H1 K hx es e0 ha c0 c1 c2 c3 c4 c5 hw hm HR S hU hk gW hf ez
  go_enter Tryz.func49, Tryz.ntmps49
  go_wp2_with (first
    | (go_at_call 86; (with_reducible refine CM.out.mono ?_); rintro e w1 ⟨rfl, b⟩; have S1 := Lib.hid (SS.out.below g b); have M1 := y_more g (S1.out.acc _ S1.out.inn.bel) S1.out.inn; obtain ⟨q0, q1, q2, q3, q4, q5, q6, q7⟩ := Yo_cells M1.1.right; have HM := Lib.hid M1; clear b M1 q0 q1 q2 q3 q5 q6 q7 CM)
    | (at_builtin; refine wp_appendL (W := w1.alloc (.cells #[] 25)) 0 rfl (.tmp 26) (.tmp 30) 23 25 (.slice none 0 0) 1 24 rfl Tryz.underlying23 info_L rfl (by omega) (by omega) (.slice (some ⟨w1.heap.size, 0, none⟩) 0 0) 0 [] rfl A k c hds rfl (by rw [Nat.mul_one]; exact HM.out.2.2.1) HM.out.2.2.2.1 HM.out.2.2.2.2 HM.out.2.1 (Nat.zero_le _) (by omega) ?_; intro v2 w2 h2 t2 hor; rw [Nat.zero_add, List.nil_append] at h2; obtain ⟨A2, c2, rfl⟩ := own_slice h2; have V2 := Lib.hid (HM.out.1.grow (Yo_good g _ _ _) h2 t2 hor); have HO2 := Lib.hid h2; clear h2 t2 hor HM)
    | (at_builtin; refine wp_append1 (W := w2) 0 rfl (.tmp 31) (.tmp 33) 23 25 (.slice none 0 0) 1 24 rfl Tryz.underlying23 info_L rfl (by omega) (by omega) (.slice A2 k c2) k _ [.slice C m cc] rfl rfl (by simp) rfl (by simp [Value.oneCell']) HO2.out (by omega) (by omega) ?_; intro v3 w3 h3 t3 hor; obtain ⟨A3, c3, rfl⟩ := own_slice h3; have V3 := Lib.hid (V2.out.grow (Yo_good g _ _ _) h3 t3 hor); clear h3 t3 hor V2 HO2)
    | (go_at_call 58; (with_reducible refine (CU.out _ _ _ V3.out).mono ?_); rintro e w4 ⟨rfl, V⟩; have V4 := Lib.hid V; clear V V3)
    | (go_at_call 87; (with_reducible refine (CF.out _ V4.out).mono ?_); rintro e w5 ⟨rfl, ⟨v5, z4, z5, zf4, zf5⟩, V⟩; obtain ⟨⟨y4, y5, y6, y7⟩, V⟩ := V 1 1; rw [z4] at y4; rw [z5] at y5; have V5 := Lib.hid (V rfl rfl); clear V V4))
  go_ret
  exact V5.out
theorem yput (g : Good Fr) (H : In w0 w (star (PX bx bm R F G d h) (star (WX w0 bw bx bm x) Fr))) (HR : ∀ W, Below w0.heap.size w0 W → RdV W C m r) (hd : d.deeds ≤ 1000000000) (hn : x.n < 1000000) :
    Calls Tryz.prog 49 #[wp_ bw, .slice C m cc] w (YPutP bw bx bm R F G d h x r w0 Fr) := by
  cases hx : x.ended with
  | true => exact yput_a H hx
  | false =>
    by_cases hw : x.wrong = 0
    · by_cases hm : mayE r = 0
      · by_cases hu : 256 < usedN (x.rows ++ [r])
        · by_cases hf : x.flushE R F d = 0
          · exact yput_f g H HR hd hn hx hw hm hu hf
          · exact yput_e g H HR hd hx hw hm hu hf
        · exact yput_d g H HR hn hx hw hm (by omega)
      · exact yput_c g H (HR _ H.bel) hx hw hm
    · exact yput_b H hx hw
end
end Go.Proofs.YtkbapoeilcapfaaGreat

/- the document's writer: end, Done, Drop; a new one. -/
namespace Go.Proofs.YtkbapoeilcapfaaGreat
open Go.RowKit Go.Maps
set_option linter.unusedVariables false
set_option linter.unusedSimpArgs false
set_option maxRecDepth 6000

section
variable {w0 w W : World} {bx bm bw b : Nat} {R : Int} {F : List Int} {G : Int} {d : Ds} {h : Int} {x : Ws} {Fr X A C : Res}
def Ws.yX (x : Ws) : Ws := if x.ended = true then x else ⟨x.file, x.n, x.wrong, true, x.rows⟩
def YEndP (bw bx bm : Nat) (R : Int) (F : List Int) (G : Int) (d : Ds) (h : Int) (x : Ws) (dr : Bool) (w0 : World) (Fr : Res) (e : Ending) (w' : World) : Prop :=
  e = .returned (.tuple #[]) ∧ In w0 w' (star (PX bx bm R F G (if dr = true ∧ x.ended = false then d.del x.file else d) (x.endH h)) (star (WX w0 bw bx bm x.yX) Fr))
theorem Yo_ended (g : Good Fr) (H : In w0 w (star (PX bx bm R F G d h) (star (WX w0 bw bx bm x) Fr))) (hx : x.ended = false) :
    (w.cell? ⟨bw, 7, none⟩ = some (.bool false) ∧ w.frozen? ⟨bw, 7, none⟩ = false) ∧ ((w.setCell ⟨bw, 7, none⟩ (.bool true)).cell? ⟨bw, 0, none⟩ = some (dp bx) ∧ (w.setCell ⟨bw, 7, none⟩ (.bool true)).cell? ⟨bw, 1, none⟩ = some (dp bm) ∧ (w.setCell ⟨bw, 7, none⟩ (.bool true)).cell? ⟨bw, 2, none⟩ = some (.int .i64 0) ∧ (w.setCell ⟨bw, 7, none⟩ (.bool true)).cell? ⟨bw, 3, none⟩ = some (.int .i64 x.file)) ∧
      In w0 (w.setCell ⟨bw, 7, none⟩ (.bool true)) (star (PX bx bm R F G d h) (star (WX w0 bw bx bm ⟨x.file, x.n, x.wrong, true, x.rows⟩) Fr)) := by
  obtain ⟨A, k, c, hds, K, hk, hk7, ha, H1⟩ := Yo_open H
  obtain ⟨c0, c1, c2, c3, c4, c5, c6, c7⟩ := Yo_cells H1
  rw [hx] at c7
  have gA : Good (star (hsR (.slice A k c) k hds) (star (PX bx bm R F G d h) Fr)) := star_good (rowR_good _ _ _ _ _) (star_good (PX_good _ _ _ _ _ _ _) g)
  have V := H1.put gA 7 (.bool true)
  obtain ⟨q0, q1, q2, q3, q4, q5, q6, q7⟩ := Yo_cells (x := ⟨x.file, x.n, x.wrong, true, x.rows⟩) V
  exact ⟨⟨c7, Yo_free H1 7⟩, ⟨q0, q1, q2, q3⟩, Yo_shut (x := ⟨x.file, x.n, x.wrong, true, x.rows⟩) ⟨K.ok, K.fit, K.num, K.file⟩ hk ha V⟩
theorem WX_at (H : In w0 w (star (PX bx bm R F G d h) (star (WX w0 bw bx bm x) Fr))) : w.cell? ⟨bw, 0, none⟩ = some (dp bx) ∧ w.cell? ⟨bw, 1, none⟩ = some (dp bm) ∧ w.cell? ⟨bw, 2, none⟩ = some (.int .i64 0) ∧ w.cell? ⟨bw, 3, none⟩ = some (.int .i64 x.file) ∧ w.cell? ⟨bw, 6, none⟩ = some (.int .i64 x.wrong) ∧ w.cell? ⟨bw, 7, none⟩ = some (.bool x.ended) := by
  obtain ⟨A, k, c, hds, K, hk, hk7, ha, H1⟩ := Yo_open H
  obtain ⟨c0, c1, c2, c3, c4, c5, c6, c7⟩ := Yo_cells H1
  exact ⟨c0, c1, c2, c3, c6, c7⟩
theorem yend (g : Good Fr) (H : In w0 w (star (PX bx bm R F G d h) (star (WX w0 bw bx bm x) Fr))) (dr : Bool) :
    Calls Tryz.prog 88 #[wp_ bw, .bool dr] w (YEndP bw bx bm R F G d h x dr w0 Fr) := by
  cases hx : x.ended with
  | true =>
    have e0 : YEndP bw bx bm R F G d h x dr w0 Fr (.returned (.tuple #[])) w := by
      unfold YEndP Ws.yX Ws.endH
      rw [if_neg (fun h => by rw [hx] at h; cases h.2), if_pos hx, if_pos hx]
      exact ⟨rfl, H⟩
    have E0 := Lib.hid e0
    obtain ⟨_, _, _, _, _, c7⟩ := WX_at H
    rw [hx] at c7
    clear H e0 hx
    go_enter Tryz.func88, Tryz.ntmps88
    go_wp2
    refine bodyPost_ret (results_none rfl _ _ _) rfl ?_
    exact E0.out
  | false =>
    obtain ⟨⟨c7, f7⟩, ⟨c0, c1, c2, c3⟩, V⟩ := Yo_ended g H hx
    have gV : Good (star (PX bx bm R F G d h) (star (WX w0 bw bx bm ⟨x.file, x.n, x.wrong, true, x.rows⟩) Fr)) := star_good (PX_good _ _ _ _ _ _ _) (star_good (WX_good _ _ _ _ _) g)
    have gV2 : Good (star (PX bx bm R F G d (giveH h)) (star (WX w0 bw bx bm ⟨x.file, x.n, x.wrong, true, x.rows⟩) Fr)) := star_good (PX_good _ _ _ _ _ _ _) (star_good (WX_good _ _ _ _ _) g)
    have CG := Lib.hid ((q_give (star_good (WX_good _ _ _ _ _) g) (in_drew gV V)).mono fun (e : Ending) (w' : World) hh => show ∃ c : Int, e = .returned (.int .i64 c) ∧ (w'.cell? ⟨bw, 0, none⟩ = some (dp bx) ∧ w'.cell? ⟨bw, 1, none⟩ = some (dp bm) ∧ w'.cell? ⟨bw, 2, none⟩ = some (.int .i64 0) ∧ w'.cell? ⟨bw, 3, none⟩ = some (.int .i64 x.file)) ∧ In w0 w' (star (PX bx bm R F G d (giveH h)) (star (WX w0 bw bx bm ⟨x.file, x.n, x.wrong, true, x.rows⟩) Fr)) from by
      obtain ⟨c, h1, h2⟩ := hh
      obtain ⟨q0, q1, q2, q3, _⟩ := WX_at h2
      exact ⟨c, h1, ⟨q0, q1, q2, q3⟩, h2⟩)
    have CD := Lib.hid (fun W (V : In w0 W (star (PX bx bm R F G d (giveH h)) (star (WX w0 bw bx bm ⟨x.file, x.n, x.wrong, true, x.rows⟩) Fr))) => (q_del (n := x.file) (star_good (WX_good _ _ _ _ _) g) (in_drew gV2 V)).mono fun (e : Ending) (w' : World) hh => show e = .returned (.int .i64 (d.delE x.file)) ∧ (w'.cell? ⟨bw, 0, none⟩ = some (dp bx) ∧ w'.cell? ⟨bw, 3, none⟩ = some (.int .i64 x.file)) ∧ In w0 w' (star (PX bx bm R F G (d.del x.file) (giveH h)) (star (WX w0 bw bx bm ⟨x.file, x.n, x.wrong, true, x.rows⟩) Fr)) from by
      obtain ⟨h1, h2⟩ := hh
      obtain ⟨q0, q1, q2, q3, _⟩ := WX_at h2
      exact ⟨h1, ⟨q0, q3⟩, h2⟩)
    obtain ⟨E, hE⟩ : ∃ E, E = d.delE x.file := ⟨_, rfl⟩
    rw [← hE] at CD
    have hyx : x.yX = ⟨x.file, x.n, x.wrong, true, x.rows⟩ := by unfold Ws.yX; rw [if_neg (by rw [hx]; decide)]
    have hyh : x.endH h = giveH h := by unfold Ws.endH; rw [if_neg (by rw [hx]; decide)]
    cases dr with
    | true =>
      have E0 := Lib.hid (fun W (V : In w0 W (star (PX bx bm R F G (d.del x.file) (giveH h)) (star (WX w0 bw bx bm ⟨x.file, x.n, x.wrong, true, x.rows⟩) Fr))) => show YEndP bw bx bm R F G d h x true w0 Fr (.returned (.tuple #[])) W from by
        unfold YEndP
        rw [if_pos ⟨rfl, hx⟩, hyx, hyh]
        exact ⟨rfl, V⟩)
      clear H V gV gV2 hE hyx hyh hx
      go_enter Tryz.func88, Tryz.ntmps88
      go_wp2
      go_region_held3 (fun w' => w'.cell? ⟨bw, 1, none⟩ = some (dp bm) ∧ w'.cell? ⟨bw, 2, none⟩ = some (.int .i64 0)) (first | go_keep | (refine ⟨?_, ?_⟩ <;> assumption)) (first
        | (go_at_call 85; (with_reducible refine CG.out.mono ?_); rintro e w2 ⟨c, rfl, ⟨s0, s1, s2, s3⟩, V⟩; have V2 := Lib.hid V; clear V))
      all_goals go_wp2
      all_goals go_region_held3 (fun w' => w'.cell? ⟨bw, 0, none⟩ = some (dp bx) ∧ w'.cell? ⟨bw, 3, none⟩ = some (.int .i64 x.file)) (first | go_keep | (refine ⟨?_, ?_⟩ <;> assumption)) (first
        | (go_at_call 117; (with_reducible refine (CD.out _ V2.out).mono ?_); rintro e w3 ⟨rfl, ⟨t0, t3⟩, V⟩; have V3 := Lib.hid V; clear V))
      all_goals go_wp2
      all_goals go_end0
      all_goals exact E0.out _ V3.out
    | false =>
      have E0 := Lib.hid (fun W (V : In w0 W (star (PX bx bm R F G d (giveH h)) (star (WX w0 bw bx bm ⟨x.file, x.n, x.wrong, true, x.rows⟩) Fr))) => show YEndP bw bx bm R F G d h x false w0 Fr (.returned (.tuple #[])) W from by
        unfold YEndP
        rw [if_neg (fun h => by cases h.1), hyx, hyh]
        exact ⟨rfl, V⟩)
      clear H V gV gV2 hE hyx hyh hx CD
      go_enter Tryz.func88, Tryz.ntmps88
      go_wp2
      go_region_held3 (fun w' => w'.cell? ⟨bw, 1, none⟩ = some (dp bm) ∧ w'.cell? ⟨bw, 2, none⟩ = some (.int .i64 0)) (first | go_keep | (refine ⟨?_, ?_⟩ <;> assumption)) (first
        | (go_at_call 85; (with_reducible refine CG.out.mono ?_); rintro e w2 ⟨c, rfl, ⟨s0, s1, s2, s3⟩, V⟩; have V2 := Lib.hid V; clear V))
      all_goals go_wp2
      all_goals go_end0
      all_goals exact E0.out _ V2.out
theorem ydrop (g : Good Fr) (H : In w0 w (star (PX bx bm R F G d h) (star (WX w0 bw bx bm x) Fr))) :
    Calls Tryz.prog 50 #[wp_ bw] w fun e w' => e = .returned (.tuple #[]) ∧ In w0 w' (star (PX bx bm R F G (x.dropD d) (x.endH h)) (star (WX w0 bw bx bm x.yX) Fr)) := by
  have CE := Lib.hid ((yend g H true).mono fun (e : Ending) (w' : World) hh => show e = .returned (.tuple #[]) ∧ In w0 w' (star (PX bx bm R F G (x.dropD d) (x.endH h)) (star (WX w0 bw bx bm x.yX) Fr)) from by
    unfold YEndP at hh
    refine ⟨hh.1, ?_⟩
    have h2 := hh.2
    unfold Ws.dropD
    cases hx : x.ended with
    | true => rw [if_neg (fun h => by rw [hx] at h; cases h.2)] at h2; exact h2
    | false => rw [if_pos ⟨rfl, hx⟩] at h2; exact h2)
  clear H
  go_enter Tryz.func50, Tryz.ntmps50
  go_wp2_with (go_at_call 88; (with_reducible refine CE.out.mono ?_); rintro e w1 ⟨rfl, V⟩; have V1 := Lib.hid V; clear V)
  go_end0
  exact ⟨by trivial, V1.out⟩
def Ws.yDoneX (R : Int) (F : List Int) (d : Ds) (x : Ws) : Ws := if x.ended = true then x else if x.wrong ≠ 0 then ⟨x.file, x.n, x.wrong, true, x.rows⟩ else ⟨x.file, x.n, x.flushE R F d, true, []⟩
def YDoneP (bw bx bm : Nat) (R : Int) (F : List Int) (G : Int) (d : Ds) (h : Int) (x : Ws) (w0 : World) (Fr : Res) (e : Ending) (w' : World) : Prop :=
  e = .returned (.tuple #[.int .i64 (x.doneN R F d), .int .i64 (x.doneE R F d)]) ∧ In w0 w' (star (PX bx bm R F G (x.doneD R F d) (x.endH h)) (star (WX w0 bw bx bm (x.yDoneX R F d)) Fr))
theorem ydone (g : Good Fr) (H : In w0 w (star (PX bx bm R F G d h) (star (WX w0 bw bx bm x) Fr))) (hd : d.deeds ≤ 1000000000) :
    Calls Tryz.prog 51 #[wp_ bw] w (YDoneP bw bx bm R F G d h x w0 Fr) := by
  obtain ⟨c0, c1, c2, c3, c6, c7⟩ := WX_at H
  cases hx : x.ended with
  | true =>
    have e0 : YDoneP bw bx bm R F G d h x w0 Fr (.returned (.tuple #[.int .i64 0, .int .i64 6])) w := by
      unfold YDoneP Ws.doneN Ws.doneE Ws.doneD Ws.yDoneX Ws.endH
      rw [if_pos hx, if_pos hx, if_pos hx, if_pos hx, if_neg (by decide)]
      exact ⟨rfl, H⟩
    have E0 := Lib.hid e0
    rw [hx] at c7
    clear H e0 hx c0 c1 c2 c3 c6
    go_enter Tryz.func51, Tryz.ntmps51
    go_wp2
    go_ret2
    exact E0.out
  | false =>
    have hxn : ¬ x.ended = true := by rw [hx]; decide
    rw [hx] at c7
    by_cases hw : x.wrong = 0
    · have hwn : ¬ x.wrong ≠ 0 := by simpa using hw
      have CF := Lib.hid ((yflush g H hd hw).mono fun (e : Ending) (w' : World) hh => show e = .returned (.int .i64 (x.flushE R F d)) ∧ In w0 w' (star (PX bx bm R F G (x.flushD R F d) h) (star (WX w0 bw bx bm (x.flushX R F d)) Fr)) from hh)
      have CE := Lib.hid (fun W dr (V : In w0 W (star (PX bx bm R F G (x.flushD R F d) h) (star (WX w0 bw bx bm (x.flushX R F d)) Fr))) => (yend g V dr).mono fun (e : Ending) (w' : World) hh => show e = .returned (.tuple #[]) ∧ w'.cell? ⟨bw, 3, none⟩ = some (.int .i64 x.file) ∧ YEndP bw bx bm R F G (x.flushD R F d) h (x.flushX R F d) dr w0 Fr e w' from by
        have h3 := (WX_at hh.2).2.2.2.1
        have e3 : ((x.flushX R F d).yX).file = x.file := by unfold Ws.yX; split <;> rfl
        rw [e3] at h3
        exact ⟨hh.1, h3, hh⟩)
      have hne : (x.wrong == 0) = true := by simpa using hw
      by_cases hE : x.flushE R F d = 0
      · have E0 := Lib.hid (fun e' W (P : YEndP bw bx bm R F G (x.flushD R F d) h (x.flushX R F d) false w0 Fr e' W) => show YDoneP bw bx bm R F G d h x w0 Fr (.returned (.tuple #[.int .i64 x.file, .int .i64 0])) W from by
          unfold YDoneP Ws.doneN Ws.doneE Ws.doneD Ws.yDoneX Ws.endH
          rw [if_neg hxn, if_neg hxn, if_neg hxn, if_neg hxn, if_neg hwn, if_pos hE, if_pos hE, hE]
          have h2 := P.2
          rw [if_neg (fun h => by cases h.1)] at h2
          have ex : (x.flushX R F d).yX = ⟨x.file, x.n, 0, true, []⟩ := by
            unfold Ws.yX Ws.flushX
            dsimp only
            rw [if_neg hxn, hE]
          have eh : (x.flushX R F d).endH h = giveH h := by unfold Ws.endH Ws.flushX; dsimp only; rw [if_neg hxn]
          rw [ex, eh] at h2
          exact ⟨rfl, h2⟩)
        rw [hE] at CF
        clear H hE hx hxn hw hwn c0 c1 c2
        obtain ⟨file, n, wrong, ended, rows⟩ := x
        dsimp only at c3 c6 hne CE E0 CF
        go_enter Tryz.func51, Tryz.ntmps51
        go_wp2_with (first
          | (go_at_call 87; (with_reducible refine CF.out.mono ?_); rintro e w2 ⟨rfl, V⟩; have V2 := Lib.hid V; clear V CF)
          | (go_at_call 88; (with_reducible refine (CE.out _ _ V2.out).mono ?_); rintro e w3 ⟨rfl, t3, P⟩; have V3 := Lib.hid P; clear P))
        go_ret2
        exact E0.out _ _ V3.out
      · have E0 := Lib.hid (fun e' W (P : YEndP bw bx bm R F G (x.flushD R F d) h (x.flushX R F d) true w0 Fr e' W) => show YDoneP bw bx bm R F G d h x w0 Fr (.returned (.tuple #[.int .i64 0, .int .i64 (x.flushE R F d)])) W from by
          unfold YDoneP Ws.doneN Ws.doneE Ws.doneD Ws.yDoneX Ws.endH
          rw [if_neg hxn, if_neg hxn, if_neg hxn, if_neg hxn, if_neg hwn, if_neg hE, if_neg hE]
          have h2 := P.2
          rw [if_pos ⟨rfl, hx⟩] at h2
          have ex : (x.flushX R F d).yX = ⟨x.file, x.n, x.flushE R F d, true, []⟩ := by
            unfold Ws.yX Ws.flushX
            dsimp only
            rw [if_neg hxn]
          have eh : (x.flushX R F d).endH h = giveH h := by unfold Ws.endH Ws.flushX; dsimp only; rw [if_neg hxn]
          rw [ex, eh] at h2
          exact ⟨rfl, h2⟩)
        have hE1 : (x.flushE R F d != 0) = true := by simpa using hE
        obtain ⟨E, hEE⟩ : ∃ E, E = x.flushE R F d := ⟨_, rfl⟩
        rw [← hEE] at CF E0 hE1
        clear H hE hx hxn hw hwn c0 c1 c2 hEE
        obtain ⟨file, n, wrong, ended, rows⟩ := x
        dsimp only at c3 c6 hne CE E0 CF
        go_enter Tryz.func51, Tryz.ntmps51
        go_wp2_with (first
          | (go_at_call 87; (with_reducible refine CF.out.mono ?_); rintro e w2 ⟨rfl, V⟩; have V2 := Lib.hid V; clear V CF)
          | (go_at_call 88; (with_reducible refine (CE.out _ _ V2.out).mono ?_); rintro e w3 ⟨rfl, t3, P⟩; have V3 := Lib.hid P; clear P))
        go_ret2
        exact E0.out _ _ V3.out
    · have e1 : x.flushE R F d = x.wrong := if_neg (fun h => hw h.1)
      have e2 : x.flushD R F d = d := if_neg (fun h => hw h.1)
      have E0 := Lib.hid (fun e' W (P : YEndP bw bx bm R F G d h x true w0 Fr e' W) => show YDoneP bw bx bm R F G d h x w0 Fr (.returned (.tuple #[.int .i64 0, .int .i64 x.wrong])) W from by
        unfold YDoneP Ws.doneN Ws.doneE Ws.doneD Ws.yDoneX Ws.endH
        rw [if_neg hxn, if_neg hxn, if_neg hxn, if_neg hxn, if_pos hw, e1, e2, if_neg hw, if_neg hw]
        have h2 := P.2
        rw [if_pos ⟨rfl, hx⟩] at h2
        have ex : x.yX = ⟨x.file, x.n, x.wrong, true, x.rows⟩ := by unfold Ws.yX; rw [if_neg hxn]
        have eh : x.endH h = giveH h := by unfold Ws.endH; rw [if_neg hxn]
        rw [ex, eh] at h2
        exact ⟨rfl, h2⟩)
      have CE := Lib.hid ((yend g H true).mono fun (e : Ending) (w' : World) hh => show e = .returned (.tuple #[]) ∧ YEndP bw bx bm R F G d h x true w0 Fr e w' from ⟨hh.1, hh⟩)
      have hne : (x.wrong == 0) = false := by simpa using hw
      have hne1 : (x.wrong != 0) = true := by simpa using hw
      clear H hx hxn hw e1 e2 c0 c1 c2 c3
      obtain ⟨file, n, wrong, ended, rows⟩ := x
      dsimp only at c6 hne hne1 CE E0
      go_enter Tryz.func51, Tryz.ntmps51
      go_wp2_with (go_at_call 88; (with_reducible refine CE.out.mono ?_); rintro e w3 ⟨rfl, P⟩; have V3 := Lib.hid P; clear P)
      go_ret2
      exact E0.out _ _ V3.out
end
end Go.Proofs.YtkbapoeilcapfaaGreat

/- the document's new writer; its reader as a thing apart; a new reader, Close. -/
namespace Go.Proofs.YtkbapoeilcapfaaGreat
open Go.RowKit Go.Maps
set_option linter.unusedVariables false
set_option linter.unusedSimpArgs false
set_option maxRecDepth 6000

abbrev xbox (bx bm : Nat) : Obj := .cells #[dp bx, dp bm, .int .i64 0] 37 (0, 0)
section
variable {w0 w W : World} {bx bm bw br b : Nat} {R : Int} {F : List Int} {G : Int} {d : Ds} {h : Int} {x : Ws} {y : Rs} {Q Q' : World → Prop} {Fr X A C : Res}
theorem xb_cells (H : In w0 w (star A (star (blkR b (xbox bx bm)) C))) : w.cell? ⟨b, 0, none⟩ = some (dp bx) ∧ w.cell? ⟨b, 1, none⟩ = some (dp bm) ∧ w.cell? ⟨b, 2, none⟩ = some (.int .i64 0) := by
  have h := H.right.left.get fun S h => h.1
  exact ⟨cell_of_blk h 0, cell_of_blk h 1, cell_of_blk h 2⟩
theorem ywriter_a (g : Good Fr) (H : In w0 w (star (PX bx bm R F G d h) Fr)) (hE : G ≤ h) :
    Calls Tryz.prog 48 #[pvx bx bm] w fun e w' => e = .returned (.tuple #[.pointer none, .int .i64 60]) ∧ In w0 w' (star (PX bx bm R F G d h) Fr) := by
  have H1 := H.pushB (star_good (PX_good _ _ _ _ _ _ _) g) (xbox bx bm)
  have CT := Lib.hid (q_take_no (star_good (blkR_good _ _) g) H1 hE)
  clear H H1 hE
  go_enter Tryz.func48, Tryz.ntmps48
  go_wp2_with (go_at_call 83; (with_reducible refine CT.out.mono ?_); rintro e w1 ⟨rfl, V⟩; have V1 := Lib.hid V.drop; clear V CT)
  go_ret2
  exact ⟨by trivial, V1.out⟩
theorem ywriter_b (g : Good Fr) (H : In w0 w (star (PX bx bm R F G d h) Fr)) (hE : ¬ G ≤ h) (hm : d.made ≤ 1000000000) (hC : d.createE ≠ 0) :
    Calls Tryz.prog 48 #[pvx bx bm] w fun e w' => e = .returned (.tuple #[.pointer none, .int .i64 d.createE]) ∧ In w0 w' (star (PX bx bm R F G d h) Fr) := by
  have h0 := (PX_ok H).2.1
  have H1 := H.pushB (star_good (PX_good _ _ _ _ _ _ _) g) (xbox bx bm)
  have gB : Good (star (blkR w.heap.size (xbox bx bm)) Fr) := star_good (blkR_good _ _) g
  have CT := Lib.hid (q_take_up gB H1 hE)
  have CC := (fun W (V : In w0 W (star (PX bx bm R F G d (h + 1)) (star (blkR w.heap.size (xbox bx bm)) Fr))) => q_create gB V hm)
  rw [createE_keep hC, if_neg hC] at CC
  have CC := Lib.hid CC
  have CG := (fun W (V : In w0 W (star (PX bx bm R F G d (h + 1)) (star (blkR w.heap.size (xbox bx bm)) Fr))) => q_give gB V)
  rw [giveH_up h0] at CG
  have CG := Lib.hid CG
  have hC1 : (d.createE != 0) = true := by simpa using hC
  obtain ⟨E, hEE⟩ : ∃ E, E = d.createE := ⟨_, rfl⟩
  rw [← hEE] at CC hC1 ⊢
  clear H H1 hE hC hEE h0 hm
  go_enter Tryz.func48, Tryz.ntmps48
  go_wp2_with (first
    | (go_at_call 83; (with_reducible refine CT.out.mono ?_); rintro e w1 ⟨rfl, V⟩; obtain ⟨k0, k1, k2⟩ := xb_cells V; have V1 := Lib.hid V; clear V CT)
    | (go_at_call 84; (with_reducible refine (CC.out _ V1.out).mono ?_); rintro e w2 ⟨rfl, V⟩; obtain ⟨l0, l1, l2⟩ := xb_cells V; have V2 := Lib.hid V; clear V CC)
    | (go_at_call 85; (with_reducible refine (CG.out _ V2.out).mono ?_); rintro e w3 ⟨c, rfl, V⟩; have V3 := Lib.hid V.drop; clear V CG))
  go_ret2
  exact ⟨by trivial, V3.out⟩
theorem WX_new (g : Good Fr) (K : SOk R d) (hm : d.made ≤ 1000000000) (H : In w0 w (star (PX bx bm R F G d.create h) Fr)) : In w0 (w.alloc (yObj bx bm (wrX d) (.slice none 0 0))) (star (PX bx bm R F G d.create h) (star (WX w0 w.heap.size bx bm (wrX d)) Fr)) := by
  have gP : Good (star (PX bx bm R F G d.create h) Fr) := star_good (PX_good _ _ _ _ _ _ _) g
  have H1 := (H.blk gP (yObj bx bm (wrX d) (.slice none 0 0))).comm
  exact Yo_shut (x := wrX d) (hds := []) (WOk.new K hm) rfl (fun W _ => ⟨rfl, fun i r hr => by simp [wrX] at hr⟩) (H1.imp fun S hS => star_mono hS (fun _ => id) (fun S hS => hs_nil hS))
theorem ywriter_c (g : Good Fr) (H : In w0 w (star (PX bx bm R F G d h) Fr)) (hE : ¬ G ≤ h) (hm : d.made ≤ 1000000000) (hC : d.createE = 0) :
    Calls Tryz.prog 48 #[pvx bx bm] w fun e w' => ∃ bw, e = .returned (.tuple #[wp_ bw, .int .i64 0]) ∧ In w0 w' (star (PX bx bm R F G d.create (h + 1)) (star (WX w0 bw bx bm (wrX d)) Fr)) := by
  have K := (PX_ok H).1.1
  have H1 := H.pushB (star_good (PX_good _ _ _ _ _ _ _) g) (xbox bx bm)
  have gB : Good (star (blkR w.heap.size (xbox bx bm)) Fr) := star_good (blkR_good _ _) g
  have CT := Lib.hid (q_take_up gB H1 hE)
  have CC := (fun W (V : In w0 W (star (PX bx bm R F G d (h + 1)) (star (blkR w.heap.size (xbox bx bm)) Fr))) => q_create gB V hm)
  rw [if_pos hC, hC] at CC
  have CC := Lib.hid CC
  have EN := Lib.hid (fun W (V : In w0 W (star (PX bx bm R F G d.create (h + 1)) (star (blkR w.heap.size (xbox bx bm)) Fr))) => WX_new g K hm V.drop)
  clear H H1 hE hC K hm gB
  unfold wrX at EN ⊢
  go_enter Tryz.func48, Tryz.ntmps48
  go_wp2_with (first
    | (go_at_call 83; (with_reducible refine CT.out.mono ?_); rintro e w1 ⟨rfl, V⟩; obtain ⟨k0, k1, k2⟩ := xb_cells V; have V1 := Lib.hid V; clear V CT)
    | (go_at_call 84; (with_reducible refine (CC.out _ V1.out).mono ?_); rintro e w2 ⟨rfl, V⟩; obtain ⟨l0, l1, l2⟩ := xb_cells V; have V2 := Lib.hid V; clear V CC))
  go_ret2
  exact ⟨_, by trivial, EN.out _ V2.out⟩
abbrev qObj (bx bm : Nat) (y : Rs) (hv : Value) : Obj := .cells #[dp bx, dp bm, .int .i64 0, .int .i64 y.file, .int .i64 (y.page : Int), hv, .bool y.closed] 155 (0, 0)
def RX (br bx bm : Nat) (y : Rs) (Q : World → Prop) : Res := fun w S => ROk y ∧ ∃ A n c hds, star (blkR br (qObj bx bm y (.slice A n c))) (rd (fun w => RdRs w A n c hds y.rows ∧ Q w)) w S
theorem RX_good (br bx bm : Nat) (y : Rs) (Q : World → Prop) : Good (RX br bx bm y Q) := by
  refine ⟨?_, ?_⟩
  · rintro w S ⟨_, A, n, c, hds, h⟩
    exact (star_good (blkR_good _ _) (rd_good _)).lt h
  · rintro w w' S T ⟨k, A, n, c, hds, h⟩ ht hn
    exact ⟨k, A, n, c, hds, (star_good (blkR_good _ _) (rd_good _)).turn h ht hn⟩
abbrev Xo (bx bm br : Nat) (R : Int) (F : List Int) (G : Int) (d : Ds) (h : Int) (y : Rs) (P : World → Prop) (hv : Value) (Fr : Res) : Res := star (blkR br (qObj bx bm y hv)) (star (rd P) (star (PX bx bm R F G d h) Fr))
theorem Xo_good (g : Good Fr) (P : World → Prop) (hv : Value) : Good (Xo bx bm br R F G d h y P hv Fr) := star_good (blkR_good _ _) (star_good (rd_good _) (star_good (PX_good _ _ _ _ _ _ _) g))
theorem Xo_open (H : In w0 w (star (PX bx bm R F G d h) (star (RX br bx bm y Q) Fr))) : ROk y ∧ ∃ A n c hds, In w0 w (Xo bx bm br R F G d h y (fun w => RdRs w A n c hds y.rows ∧ Q w) (.slice A n c) Fr) := by
  obtain ⟨⟨S, ⟨S1, S2, ⟨k, A, n, c, hds, h1⟩, h2, hd, hs⟩, hge⟩, hb⟩ := H.swap
  exact ⟨k, A, n, c, hds, ⟨S, star_assoc ⟨S1, S2, h1, h2, hd, hs⟩, hge⟩, hb⟩
theorem Xo_shut {A : Option Addr} {n c : Nat} {hds : List Value} (k : ROk y) (H : In w0 w (Xo bx bm br R F G d h y (fun w => RdRs w A n c hds y.rows ∧ Q w) (.slice A n c) Fr)) : In w0 w (star (PX bx bm R F G d h) (star (RX br bx bm y Q) Fr)) :=
  (H.assoc'.imp fun S h => star_mono h (fun S h => ⟨k, A, n, c, hds, h⟩) (fun _ => id)).swap
theorem Xo_cells {hv : Value} {F' : Res} (H : In w0 w (star (blkR br (qObj bx bm y hv)) F')) :
    w.cell? ⟨br, 0, none⟩ = some (dp bx) ∧ w.cell? ⟨br, 1, none⟩ = some (dp bm) ∧ w.cell? ⟨br, 2, none⟩ = some (.int .i64 0) ∧ w.cell? ⟨br, 3, none⟩ = some (.int .i64 y.file) ∧ w.cell? ⟨br, 4, none⟩ = some (.int .i64 (y.page : Int)) ∧ w.cell? ⟨br, 5, none⟩ = some hv ∧ w.cell? ⟨br, 6, none⟩ = some (.bool y.closed) := by
  have h := H.left.get fun S h => h.1
  exact ⟨cell_of_blk h 0, cell_of_blk h 1, cell_of_blk h 2, cell_of_blk h 3, cell_of_blk h 4, cell_of_blk h 5, cell_of_blk h 6⟩
theorem Xo_free {hv : Value} {F' : Res} (H : In w0 w (star (blkR br (qObj bx bm y hv)) F')) (i : Nat) : w.frozen? ⟨br, i, none⟩ = false :=
  free_of_blk (H.left.get fun S h => h.1) i
theorem Xo_place {P : World → Prop} {hv : Value} (H : In w0 w (Xo bx bm br R F G d h y P hv Fr)) : In w0 w (star (PX bx bm R F G d h) (star (rd P) (star (blkR br (qObj bx bm y hv)) Fr))) :=
  (H.imp fun S h => star_mono h (fun _ => id) (fun _ => star_swap)).swap.imp fun S h => star_mono h (fun _ => id) (fun _ => star_swap)
theorem Xo_place' {P : World → Prop} {hv : Value} (H : In w0 w (star (PX bx bm R F G d h) (star (rd P) (star (blkR br (qObj bx bm y hv)) Fr)))) : In w0 w (Xo bx bm br R F G d h y P hv Fr) :=
  ((H.imp fun S h => star_mono h (fun _ => id) (fun _ => star_swap)).swap).imp fun S h => star_mono h (fun _ => id) (fun _ => star_swap)
theorem RX_imp (H : In w0 w (star A (star (RX br bx bm y Q) X))) (hi : ∀ w, Q w → Q' w) : In w0 w (star A (star (RX br bx bm y Q') X)) :=
  H.imp fun S h => star_mono h (fun _ => id) (fun S h => star_mono h (fun S ⟨k, A, n, c, hds, h⟩ => ⟨k, A, n, c, hds, star_mono h (fun _ => id) (fun _ h => rd_imp h fun w q => ⟨q.1, hi w q.2⟩)⟩) (fun _ => id))
theorem RX_rd (H : In w0 w (star A (star (RX br bx bm y Q) X))) : In w0 w (star A (star (rd Q) X)) := by
  obtain ⟨⟨S, ⟨S1, S2, ⟨k, B, n, c, hds, h1⟩, h2, hd, hs⟩, hge⟩, hb⟩ := H.swap
  have H1 : In w0 w (star (star (blkR br (qObj bx bm y (.slice B n c))) (rd (fun w => RdRs w B n c hds y.rows ∧ Q w))) (star A X)) := ⟨⟨S, ⟨S1, S2, h1, h2, hd, hs⟩, hge⟩, hb⟩
  exact (H1.assoc.right.imp fun S h => star_mono h (fun _ h => rd_imp h fun w q => q.2) (fun _ => id)).swap
def XCloseP (br bx bm : Nat) (R : Int) (F : List Int) (G : Int) (d : Ds) (h : Int) (y : Rs) (Q : World → Prop) (w0 : World) (Fr : Res) (e : Ending) (w' : World) : Prop :=
  e = .returned (.tuple #[]) ∧ In w0 w' (star (PX bx bm R F G d (y.closeH h)) (star (RX br bx bm y.closeX Q) Fr))
theorem xclose_get (g : Good Fr) (H : In w0 w (star (PX bx bm R F G d h) (star (RX br bx bm y Q) Fr))) : w.cell? ⟨br, 6, none⟩ = some (.bool y.closed) ∧ w.frozen? ⟨br, 6, none⟩ = false ∧
    (w.setCell ⟨br, 6, none⟩ (.bool true)).cell? ⟨br, 1, none⟩ = some (dp bm) ∧ (w.setCell ⟨br, 6, none⟩ (.bool true)).cell? ⟨br, 2, none⟩ = some (.int .i64 0) ∧
    In w0 (w.setCell ⟨br, 6, none⟩ (.bool true)) (star (PX bx bm R F G d h) (star (RX br bx bm y.closeX Q) Fr)) := by
  obtain ⟨k, A, n, c, hds, H1⟩ := Xo_open H
  obtain ⟨c0, c1, c2, c3, c4, c5, c6⟩ := Xo_cells H1
  have gY : Good (star (rd (fun w => RdRs w A n c hds y.rows ∧ Q w)) (star (PX bx bm R F G d h) Fr)) := star_good (rd_good _) (star_good (PX_good _ _ _ _ _ _ _) g)
  have H2 := H1.put gY 6 (.bool true)
  obtain ⟨k0, k1, k2, k3, k4, k5, k6⟩ := Xo_cells (y := y.closeX) H2
  exact ⟨c6, Xo_free H1 6, k1, k2, Xo_shut (y := y.closeX) ⟨k.page, k.file⟩ H2⟩
theorem xclose (g : Good Fr) (H : In w0 w (star (PX bx bm R F G d h) (star (RX br bx bm y Q) Fr))) :
    Calls Tryz.prog 55 #[rp_ br] w (XCloseP br bx bm R F G d h y Q w0 Fr) := by
  obtain ⟨c6, f6, c1, c2, V⟩ := xclose_get g H
  cases hc : y.closed with
  | true =>
    have e0 : XCloseP br bx bm R F G d h y Q w0 Fr (.returned (.tuple #[])) w := by
      unfold XCloseP Rs.closeH
      rw [if_pos hc]
      have : y.closeX = y := by
        obtain ⟨a, b, c, e⟩ := y
        dsimp only at hc
        subst hc
        rfl
      rw [this]
      exact ⟨rfl, H⟩
    have E0 := Lib.hid e0
    rw [hc] at c6
    clear H V e0 hc
    go_enter Tryz.func55, Tryz.ntmps55
    go_wp2
    go_end0
    exact E0.out
  | false =>
    have CG := Lib.hid ((q_give (star_good (RX_good _ _ _ _ _) g) (in_drew (star_good (PX_good _ _ _ _ _ _ _) (star_good (RX_good _ _ _ _ _) g)) V)).mono fun (e : Ending) (w' : World) hh => show ∃ c : Int, e = .returned (.int .i64 c) ∧ (w'.cell? ⟨br, 1, none⟩ = some (dp bm) ∧ w'.cell? ⟨br, 2, none⟩ = some (.int .i64 0)) ∧ XCloseP br bx bm R F G d h y Q w0 Fr (.returned (.tuple #[])) w' from by
      obtain ⟨c, h1, h2⟩ := hh
      obtain ⟨k, A, n, cc, hds, H1⟩ := Xo_open h2
      obtain ⟨c0, c1, c2, c3, c4, c5, c6⟩ := Xo_cells H1
      refine ⟨c, h1, ⟨c1, c2⟩, ?_⟩
      unfold XCloseP Rs.closeH
      rw [if_neg (by rw [hc]; decide)]
      exact ⟨rfl, h2⟩)
    rw [hc] at c6
    clear H V hc
    go_enter Tryz.func55, Tryz.ntmps55
    go_wp2
    go_region_held3 (fun w' => w'.cell? ⟨br, 1, none⟩ = some (dp bm) ∧ w'.cell? ⟨br, 2, none⟩ = some (.int .i64 0)) (first | go_keep | (refine ⟨?_, ?_⟩ <;> assumption)) (first
      | (go_at_call 85; (with_reducible refine CG.out.mono ?_); rintro e w2 ⟨c, rfl, ⟨s1, s2⟩, V⟩; have V2 := Lib.hid V; clear V))
    all_goals go_wp2
    all_goals go_end0
    all_goals exact V2.out
theorem RX_new (g : Good Fr) {n : Int} (hw : (Lit.int .i64 n).wf = true) (H : In w0 w (star (PX bx bm R F G d h) Fr)) : In w0 (w.alloc (qObj bx bm ⟨n, 0, [], false⟩ (.slice none 0 0))) (star (PX bx bm R F G d h) (star (RX w.heap.size bx bm ⟨n, 0, [], false⟩ (fun _ => True)) Fr)) := by
  have gP : Good (star (PX bx bm R F G d h) Fr) := star_good (PX_good _ _ _ _ _ _ _) g
  have H1 := (H.blk gP (qObj bx bm ⟨n, 0, [], false⟩ (.slice none 0 0))).comm
  refine Xo_shut (y := ⟨n, 0, [], false⟩) (hds := []) ⟨Nat.zero_le _, hw⟩ (H1.imp fun S hS => star_mono hS (fun _ => id) (fun S hS => ?_))
  refine ⟨fun _ => False, S, ⟨fun _ h => h.elim, fun W _ => ⟨⟨Nat.le_refl _, by omega, ⟨⟨rfl, by omega, fun h => absurd h (by omega)⟩, rfl, fun i r' hr' => by simp at hr'⟩⟩, trivial⟩⟩, hS, fun _ h => h.elim, fun k => by simp⟩
theorem xreader_a (g : Good Fr) (H : In w0 w (star (PX bx bm R F G d h) Fr)) {n : Int} (hf : d.find n = none) :
    Calls Tryz.prog 53 #[pvx bx bm, .int .i64 n] w fun e w' => e = .returned (.tuple #[.pointer none, .int .i64 4]) ∧ In w0 w' (star (PX bx bm R F G d h) Fr) := by
  have V := Lib.hid (fun o => in_alloc (star_good (PX_good _ _ _ _ _ _ _) g) H o)
  have CS := (fun W (V : In w0 W (star (PX bx bm R F G d h) Fr)) => q_at V n)
  rw [Ds.at_none hf] at CS
  have CS := Lib.hid CS
  clear H hf
  go_enter Tryz.func53, Tryz.ntmps53
  go_wp2_with (go_at_call 89; (with_reducible refine (CS.out _ (V.out _)).mono ?_); rintro e w1 ⟨rfl, hw1⟩; subst hw1)
  go_ret2
  exact ⟨by trivial, V.out _⟩
theorem xreader_b (g : Good Fr) (H : In w0 w (star (PX bx bm R F G d h) Fr)) {n : Int} {l : List Pg} (hf : d.find n = some l) (hE : G ≤ h) :
    Calls Tryz.prog 53 #[pvx bx bm, .int .i64 n] w fun e w' => e = .returned (.tuple #[.pointer none, .int .i64 60]) ∧ In w0 w' (star (PX bx bm R F G d h) Fr) := by
  have V := Lib.hid (fun o => in_alloc (star_good (PX_good _ _ _ _ _ _ _) g) H o)
  obtain ⟨i, hi, _⟩ := Ds.at_some hf
  have CS := (fun W (V : In w0 W (star (PX bx bm R F G d h) Fr)) => q_at V n)
  rw [hi] at CS
  have CS := Lib.hid CS
  have CT := Lib.hid (q_take_no g (V.out (xbox bx bm)) hE)
  have hi0 : ¬ (i : Int) < 0 := by omega
  clear H hf hE hi
  go_enter Tryz.func53, Tryz.ntmps53
  go_wp2_with (first
    | (go_at_call 89; (with_reducible refine (CS.out _ (V.out _)).mono ?_); rintro e w1 ⟨rfl, hw1⟩; subst hw1)
    | (go_at_call 83; (with_reducible refine CT.out.mono ?_); rintro e w1 ⟨rfl, V⟩; have V1 := Lib.hid V; clear V CT))
  go_ret2
  exact ⟨by trivial, V1.out⟩
theorem xreader_c (g : Good Fr) (H : In w0 w (star (PX bx bm R F G d h) Fr)) {n : Int} (hw : (Lit.int .i64 n).wf = true) {l : List Pg} (hf : d.find n = some l) (hE : ¬ G ≤ h) :
    Calls Tryz.prog 53 #[pvx bx bm, .int .i64 n] w fun e w' => ∃ br, e = .returned (.tuple #[rp_ br, .int .i64 0]) ∧ In w0 w' (star (PX bx bm R F G d (h + 1)) (star (RX br bx bm ⟨n, 0, [], false⟩ (fun _ => True)) Fr)) := by
  have V := H.pushB (star_good (PX_good _ _ _ _ _ _ _) g) (xbox bx bm)
  have gB : Good (star (blkR w.heap.size (xbox bx bm)) Fr) := star_good (blkR_good _ _) g
  obtain ⟨i, hi, _⟩ := Ds.at_some hf
  have CS := q_at V n
  rw [hi] at CS
  have CS := Lib.hid CS
  have CT := Lib.hid (q_take_up gB V hE)
  have hi0 : ¬ (i : Int) < 0 := by omega
  have E0 := Lib.hid (fun W (V : In w0 W (star (PX bx bm R F G d (h + 1)) (star (blkR w.heap.size (xbox bx bm)) Fr))) => RX_new g hw V.drop)
  clear H hf hE V hi gB
  go_enter Tryz.func53, Tryz.ntmps53
  go_wp2_with (first
    | (go_at_call 89; (with_reducible refine CS.out.mono ?_); rintro e w1 ⟨rfl, hw1⟩; subst hw1)
    | (go_at_call 83; (with_reducible refine CT.out.mono ?_); rintro e w1 ⟨rfl, V⟩; obtain ⟨k0, k1, k2⟩ := xb_cells V; have V1 := Lib.hid V; clear V CT))
  go_ret2
  exact ⟨_, by trivial, E0.out _ V1.out⟩
end
end Go.Proofs.YtkbapoeilcapfaaGreat

/- the document's reader: Next. -/
namespace Go.Proofs.YtkbapoeilcapfaaGreat
open Go.RowKit Go.Maps
set_option linter.unusedVariables false
set_option linter.unusedSimpArgs false
set_option maxRecDepth 6000

section
variable {w0 w W : World} {bx bm bw br b : Nat} {R : Int} {F : List Int} {G : Int} {d : Ds} {h : Int} {y : Rs} {Q Q' : World → Prop} {Fr X A C : Res}
/-- Where a file's pages stand. -/
theorem PX_len (H : In w0 w (star (PX bx bm R F G d h) Fr)) {n : Int} {l : List Pg} (hf : d.find n = some l) : ∃ i g c B cb N, d.at_ n = ((i : Nat) : Int) ∧ i < N ∧ N ≤ 32768 ∧ w.cell? ⟨bx, 2, none⟩ = some (.slice (some ⟨g, 0, none⟩) N c) ∧ w.cell? ⟨g, i * 2 + 1, none⟩ = some (.slice B l.length cb) := by
  obtain ⟨i, hi, hx⟩ := Ds.at_some hf
  have K := (PX_ok H).1.1.dok
  obtain ⟨⟨S, ⟨S1, S2, ⟨FV, LV, P, Hd, h1, _⟩, _⟩, _⟩, _⟩ := PX_disk H
  obtain ⟨c0, c1, c2, _⟩ := h1.cells
  obtain ⟨g, c, e⟩ := h1.shapeL hx
  have hc := (h1.cellL e hx).1
  obtain ⟨B, cb, eP⟩ := own_slice (h1.prow _ (List.mem_of_getElem? hx))
  dsimp only at hc eP
  rw [eP] at hc
  rw [e] at c2
  exact ⟨i, g, c, B, cb, d.fs.length, hi, (List.getElem?_eq_some_iff.1 hx).1, K.len, c2, hc⟩
def XNoneP (br bx bm : Nat) (R : Int) (F : List Int) (G : Int) (d : Ds) (h : Int) (y : Rs) (Q : World → Prop) (w0 : World) (Fr : Res) (e : Ending) (w' : World) : Prop :=
  e = .returned (.tuple #[.slice none 0 0, .bool false, .int .i64 (y.next F d).e]) ∧ In w0 w' (star (PX bx bm R F G (y.next F d).d h) (star (RX br bx bm (y.next F d).x Q) Fr))
def XSomeP (br bx bm : Nat) (R : Int) (F : List Int) (G : Int) (d : Ds) (h : Int) (y : Rs) (r : List V) (Q : World → Prop) (w0 : World) (Fr : Res) (e : Ending) (w' : World) : Prop :=
  ∃ B m c, e = .returned (.tuple #[.slice B m c, .bool true, .int .i64 0]) ∧ In w0 w' (star (PX bx bm R F G (y.next F d).d h) (star (RX br bx bm (y.next F d).x (fun w => Q w ∧ RdV w B m r)) Fr))
theorem xnext_a (H : In w0 w (star (PX bx bm R F G d h) (star (RX br bx bm y Q) Fr))) (hc : y.closed = true) :
    Calls Tryz.prog 54 #[rp_ br] w (XNoneP br bx bm R F G d h y Q w0 Fr) := by
  have en : y.next F d = ⟨none, 0, d, y⟩ := if_pos hc
  have e0 : XNoneP br bx bm R F G d h y Q w0 Fr (.returned (.tuple #[.slice none 0 0, .bool false, .int .i64 0])) w := by
    unfold XNoneP
    rw [en]
    exact ⟨rfl, H⟩
  have E0 := Lib.hid e0
  obtain ⟨k, A, n, c, hds, H1⟩ := Xo_open H
  obtain ⟨c0, c1, c2, c3, c4, c5, c6⟩ := Xo_cells H1
  rw [hc] at c6
  clear H H1 k e0 hc en c0 c1 c2 c3 c4 c5
  go_enter Tryz.func54, Tryz.ntmps54
  go_wp2
  refine bodyPost_ret (results_tmp3 rfl _ _ _) rfl ?_
  exact E0.out
/-- The head of the rows that are left. -/
theorem xnext_head (g : Good Fr) (H : In w0 w (star (PX bx bm R F G d h) (star (RX br bx bm y Q) Fr))) {r : List V} {t : List (List V)} (hr : y.rows = r :: t) :
    ∃ ad n c B m cc, (w.cell? ⟨br, 5, none⟩ = some (.slice (some ad) (n + 1) (c + 1)) ∧ w.cell? ⟨br, 6, none⟩ = some (.bool y.closed) ∧ w.frozen? ⟨br, 5, none⟩ = false ∧ n ≤ c ∧ c + 1 ≤ 9223372036854775807) ∧ w.cell? ad = some (.slice B m cc) ∧
      In w0 (w.setCell ⟨br, 5, none⟩ (if c = 0 then .slice (some ad) n c else .slice (some (ad.add 1)) n c)) (star (PX bx bm R F G d h) (star (RX br bx bm ⟨y.file, y.page, t, y.closed⟩ (fun w => Q w ∧ RdV w B m r)) Fr)) := by
  obtain ⟨k, A, n, c, hds, H1⟩ := Xo_open H
  obtain ⟨c0, c1, c2, c3, c4, c5, c6⟩ := Xo_cells H1
  have P := H1.right.left.get fun S h => rd_get h
  rw [hr] at P
  obtain ⟨⟨hnc, hc64, L⟩, _⟩ := P
  have hlen := L.len
  simp only [List.length_cons] at hlen
  obtain ⟨n, rfl⟩ : ∃ n', n = n' + 1 := ⟨t.length, hlen.symm⟩
  obtain ⟨c, rfl⟩ : ∃ c', c = c' + 1 := ⟨c - 1, by omega⟩
  obtain ⟨ad, B, m, cc, r', rfl, hlt, hr0, hh, hcell, hv⟩ := L.at_ (k := 0) (by omega)
  rw [add_zero0] at hcell
  obtain ⟨x0, hds, rfl⟩ : ∃ x0 hd, hds = x0 :: hd := by
    cases hds with
    | nil => simp at hh
    | cons a b => exact ⟨a, b, rfl⟩
  refine ⟨ad, n, c, B, m, cc, ⟨c5, c6, Xo_free H1 5, by omega, hc64⟩, hcell, ?_⟩
  have gY : Good (star (rd (fun w => RdRs w (some ad) (n + 1) (c + 1) (x0 :: hds) y.rows ∧ Q w)) (star (PX bx bm R F G d h) Fr)) := star_good (rd_good _) (star_good (PX_good _ _ _ _ _ _ _) g)
  have key : ∀ W, RdRs W (some ad) (n + 1) (c + 1) (x0 :: hds) y.rows ∧ Q W → RdV W B m r ∧ (n = 0 ∨ RdRs W (some (ad.add 1)) n c hds t) ∧ RdRs W (some ad) 0 0 [] [] ∧ hds.length = n ∧ t.length = n := by
    rintro W ⟨⟨_, _, L'⟩, _⟩
    rw [hr] at L'
    have l1 := L'.hd.1
    have l2 := L'.len
    simp only [List.length_cons] at l1 l2
    refine ⟨?_, ?_, ⟨Nat.le_refl _, by omega, ⟨⟨rfl, by omega, fun h => absurd h (by omega)⟩, rfl, fun i r' hr' => by simp at hr'⟩⟩, by omega, by omega⟩
    · obtain ⟨B', m', c', e1, e2⟩ := L'.row 0 r rfl
      rw [hh] at e1
      injection e1 with e1
      injection e1 with e3 e4 e5
      rw [e3, e4]
      exact e2
    · rcases Nat.eq_zero_or_pos n with h0 | h0
      · exact .inl h0
      · refine .inr ⟨by omega, by omega, ⟨⟨by omega, by omega, fun _ => ?_⟩, by omega, fun i r' hr' => ?_⟩⟩
        · obtain ⟨ad', e1, e2, e3⟩ := L'.hd.2.2 (by omega)
          injection e1 with e1
          subst e1
          refine ⟨_, rfl, by rw [add_block]; exact e2, fun j u hu => ?_⟩
          have := e3 (j + 1) u (by simpa using hu)
          rw [show (ad.add 1).add j = ad.add (j + 1) from by rw [Addr.add_add, Nat.add_comm]]
          exact this
        · obtain ⟨B', m', c', e1, e2⟩ := L'.row (i + 1) r' (by simpa using hr')
          exact ⟨B', m', c', by simpa using e1, e2⟩
  by_cases hc0 : c = 0
  · subst hc0
    obtain rfl : n = 0 := by omega
    rw [if_pos rfl]
    have H5 := H1.put gY 5 (.slice (some ad) 0 0)
    refine Xo_shut (y := ⟨y.file, y.page, t, y.closed⟩) (hds := []) ⟨k.page, k.file⟩ (H5.imp fun S hS => star_mono hS (fun _ => id) (fun _ hS => star_mono hS (fun _ hS => rd_imp hS fun W q => ?_) (fun _ => id)))
    obtain ⟨k1, k2, k3, k4, k5⟩ := key W q
    obtain rfl : t = [] := List.eq_nil_of_length_eq_zero k5
    exact ⟨k3, q.2, k1⟩
  · rw [if_neg hc0]
    have H5 := H1.put gY 5 (.slice (some (ad.add 1)) n c)
    refine Xo_shut (y := ⟨y.file, y.page, t, y.closed⟩) (hds := hds) ⟨k.page, k.file⟩ (H5.imp fun S hS => star_mono hS (fun _ => id) (fun _ hS => star_mono hS (fun _ hS => rd_imp hS fun W q => ?_) (fun _ => id)))
    obtain ⟨k1, k2, k3, k4, k5⟩ := key W q
    refine ⟨?_, q.2, k1⟩
    rcases k2 with h0 | h0
    · subst h0
      obtain rfl : t = [] := List.eq_nil_of_length_eq_zero k5
      obtain rfl : hds = [] := List.eq_nil_of_length_eq_zero k4
      exact ⟨by omega, by omega, ⟨⟨rfl, by omega, fun h => absurd h (by omega)⟩, rfl, fun i r' hr' => by simp at hr'⟩⟩
    · exact h0
theorem xnext_b (g : Good Fr) (H : In w0 w (star (PX bx bm R F G d h) (star (RX br bx bm y Q) Fr))) (hc : y.closed = false) {r : List V} {t : List (List V)} (hr : y.rows = r :: t) :
    Calls Tryz.prog 54 #[rp_ br] w (XSomeP br bx bm R F G d h y r Q w0 Fr) := by
  have en : y.next F d = ⟨some r, 0, d, ⟨y.file, y.page, t, y.closed⟩⟩ := by unfold Rs.next; rw [if_neg (by rw [hc]; decide), hr]
  obtain ⟨ad, n, c, B, m, cc, ⟨c5, c6, f5, hnc, hcm⟩, hcell, V⟩ := xnext_head g H hr
  rw [hc] at c6
  have e0 : XSomeP br bx bm R F G d h y r Q w0 Fr (.returned (.tuple #[.slice B m cc, .bool true, .int .i64 0])) (w.setCell ⟨br, 5, none⟩ (if c = 0 then .slice (some ad) n c else .slice (some (ad.add 1)) n c)) := by
    unfold XSomeP
    rw [en]
    exact ⟨B, m, cc, rfl, V⟩
  clear H V en hr hc
  rcases Nat.eq_zero_or_pos c with h0 | h0
  · subst h0
    obtain rfl : n = 0 := by omega
    rw [if_pos rfl] at e0
    have E0 := Lib.hid e0
    clear e0 hnc hcm
    go_enter Tryz.func54, Tryz.ntmps54
    go_wp2
    refine wp_loop_rounds 1 ?_
    rw [rounds_succ]
    go_wp2
    all_goals refine bodyPost_ret (results_tmp3 rfl _ _ _) rfl ?_
    all_goals exact E0.out
  · rw [if_neg (by omega)] at e0
    have E0 := Lib.hid e0
    clear e0
    have hn0 : ((n : Int) + 1 == 0) = false := by simp; omega
    have hn1 : (0 : Int) < (n : Int) + 1 := by omega
    have hc0 : ¬ c = 0 := by omega
    go_enter Tryz.func54, Tryz.ntmps54
    go_wp2
    refine wp_loop_rounds 1 ?_
    rw [rounds_succ]
    go_wp2
    all_goals refine bodyPost_ret (results_tmp3 rfl _ _ _) rfl ?_
    all_goals exact E0.out
/-- Read beside the reader. -/
theorem xl_read {P : World → Prop} {hv : Value} (g : Good Fr) (hd : d.deeds ≤ 1000000000) {W : World} (V : In w0 W (Xo bx bm br R F G d h y P hv Fr)) :
    Calls Tryz.prog 90 #[dp bx, .int .i64 y.file, .int .i64 (y.page : Int)] W fun e w' => ∃ v : Option Addr × Nat × Nat, e = .returned (.tuple #[.slice v.1 v.2.1 v.2.2, .int .i64 (d.readE F y.file y.page)]) ∧ (w'.cell? ⟨br, 0, none⟩ = some (dp bx) ∧ w'.cell? ⟨br, 3, none⟩ = some (.int .i64 y.file) ∧ w'.cell? ⟨br, 4, none⟩ = some (.int .i64 (y.page : Int))) ∧
      In w0 w' (star (rowR 5 1 (.slice v.1 v.2.1 v.2.2) v.2.1 (b8 (d.readQ F y.file y.page))) (Xo bx bm br R F G (d.read F y.file y.page) h y P hv Fr)) := by
  have g2 : Good (star (rd P) (star (blkR br (qObj bx bm y hv)) Fr)) := star_good (rd_good _) (star_good (blkR_good _ _) g)
  refine (q_read g2 (Xo_place V) hd).mono fun e w' hh => ?_
  obtain ⟨v, h1, h2⟩ := hh
  have h3 := h2.swap.right
  have h4 := Xo_cells (Xo_place' h3)
  exact ⟨v, h1, ⟨h4.1, h4.2.2.2.1, h4.2.2.2.2.1⟩, h2.swap.imp fun S h => star_mono h (fun _ => id) (fun S h => star_mono (star_swap (star_mono h (fun _ => id) (fun _ h => star_swap h))) (fun _ => id) (fun _ h => star_swap h))⟩
theorem xrows_nil (H : In w0 w (star (PX bx bm R F G d h) (star (RX br bx bm y Q) Fr))) (hr : y.rows = []) : ∃ A c, (w.cell? ⟨br, 0, none⟩ = some (dp bx) ∧ w.cell? ⟨br, 3, none⟩ = some (.int .i64 y.file) ∧ w.cell? ⟨br, 4, none⟩ = some (.int .i64 (y.page : Int)) ∧ w.cell? ⟨br, 5, none⟩ = some (.slice A 0 c) ∧ w.cell? ⟨br, 6, none⟩ = some (.bool y.closed)) ∧ ROk y ∧ ∃ hds, In w0 w (Xo bx bm br R F G d h y (fun w => RdRs w A 0 c hds y.rows ∧ Q w) (.slice A 0 c) Fr) := by
  obtain ⟨k, A, n, c, hds, H1⟩ := Xo_open H
  obtain ⟨c0, c1, c2, c3, c4, c5, c6⟩ := Xo_cells H1
  have P := H1.right.left.get fun S h => rd_get h
  have := P.1.2.2.len
  rw [hr] at this
  obtain rfl : n = 0 := by simpa using this.symm
  exact ⟨A, c, ⟨c0, c3, c4, c5, c6⟩, k, hds, H1⟩
theorem xnext_none (hc : y.closed = false) (hr : y.rows = []) (hb : y.loadB F d = false) : y.next F d = ⟨none, y.loadE F d, y.loadD F d, y⟩ := by unfold Rs.next; rw [if_neg (by rw [hc]; decide), hr]; dsimp only; rw [if_neg (by rw [hb]; decide)]
theorem xnext_c1 (g : Good Fr) (H : In w0 w (star (PX bx bm R F G d h) (star (RX br bx bm y Q) Fr))) (hd : d.deeds ≤ 1000000000) (hc : y.closed = false) (hr : y.rows = []) (hf : d.find y.file = none) :
    Calls Tryz.prog 54 #[rp_ br] w (XNoneP br bx bm R F G d h y Q w0 Fr) := by
  have hb : y.loadB F d = false := by unfold Rs.loadB; rw [hf]
  have en := xnext_none (F := F) (d := d) hc hr hb
  have e1 : y.loadE F d = 4 := by unfold Rs.loadE; rw [hf]
  have e2 : y.loadD F d = d := by unfold Rs.loadD; rw [hf]
  rw [e1, e2] at en
  have e3 : d.readE F y.file y.page = 4 := by unfold Ds.readE; rw [hf]
  have e4 : d.read F y.file y.page = d := by unfold Ds.read; rw [e3, if_neg (by decide), if_neg (by decide)]
  obtain ⟨A, c, ⟨c0, c3, c4, c5, c6⟩, k, hds, H1⟩ := xrows_nil H hr
  rw [hc] at c6
  have gR := Xo_good (R := R) (F := F) (G := G) (d := d) (h := h) (y := y) (bx := bx) (bm := bm) (br := br) g (fun w => RdRs w A 0 c hds y.rows ∧ Q w) (.slice A 0 c)
  have CS := (fun n => q_at (in_drewN (star_good (PX_good _ _ _ _ _ _ _) (star_good (RX_good _ _ _ _ _) g)) H n) y.file)
  rw [Ds.at_none hf] at CS
  have CS := Lib.hid CS
  have CR := (fun n' => (xl_read g hd (in_drewN gR H1 n')))
  rw [e3, e4] at CR
  have CR := Lib.hid (fun n' => (CR n').mono fun (e : Ending) (w' : World) hh => show ∃ v : Option Addr × Nat × Nat, e = .returned (.tuple #[.slice v.1 v.2.1 v.2.2, .int .i64 4]) ∧ (w'.cell? ⟨br, 0, none⟩ = some (dp bx) ∧ w'.cell? ⟨br, 3, none⟩ = some (.int .i64 y.file) ∧ w'.cell? ⟨br, 4, none⟩ = some (.int .i64 (y.page : Int))) ∧ XNoneP br bx bm R F G d h y Q w0 Fr (.returned (.tuple #[.slice none 0 0, .bool false, .int .i64 4])) w' from by
    obtain ⟨v, h1, h2, h3⟩ := hh
    refine ⟨v, h1, h2, ?_⟩
    unfold XNoneP
    rw [en]
    exact ⟨rfl, Xo_shut k h3.right⟩)
  obtain ⟨file, page, rows, closed⟩ := y
  dsimp only at c3 c4 CS CR
  clear H H1 k en e1 e2 e3 e4 hf hb hr hc gR hd
  go_enter Tryz.func54, Tryz.ntmps54
  go_wp2
  refine wp_loop_rounds 1 ?_
  rw [rounds_succ]
  go_wp2
  go_quiet ((go_at_call 89; exact Calls.quiet_of_same (CS.out _)))
  go_wp2
  go_quiet (fail)
  go_wp2
  go_region_held3 (fun w' => w'.cell? ⟨br, 0, none⟩ = some (dp bx) ∧ w'.cell? ⟨br, 3, none⟩ = some (.int .i64 file) ∧ w'.cell? ⟨br, 4, none⟩ = some (.int .i64 (page : Int))) (first | go_keep | (refine ⟨?_, ?_, ?_⟩ <;> assumption)) (first
    | (go_at_call 90; (with_reducible refine (CR.out _).mono ?_); rintro e w2 ⟨v, rfl, ⟨s0, s3, s4⟩, V⟩; have V2 := Lib.hid V; clear V))
  all_goals go_wp2
  all_goals refine bodyPost_ret (results_tmp3 rfl _ _ _) rfl ?_
  all_goals exact V2.out
theorem xnext_c2 (g : Good Fr) (H : In w0 w (star (PX bx bm R F G d h) (star (RX br bx bm y Q) Fr))) (hc : y.closed = false) (hr : y.rows = []) {l : List Pg} (hf : d.find y.file = some l) (hl : l.length ≤ y.page) :
    Calls Tryz.prog 54 #[rp_ br] w (XNoneP br bx bm R F G d h y Q w0 Fr) := by
  have hl' : (l.length : Int) ≤ (y.page : Int) := by omega
  have hb : y.loadB F d = false := by unfold Rs.loadB; rw [hf]; simp; omega
  have en := xnext_none (F := F) (d := d) hc hr hb
  have e1 : y.loadE F d = 0 := by unfold Rs.loadE; rw [hf]; exact if_pos hl'
  have e2 : y.loadD F d = d := by unfold Rs.loadD; rw [hf]; exact if_pos hl'
  rw [e1, e2] at en
  have gW : Good (star (PX bx bm R F G d h) (star (RX br bx bm y Q) Fr)) := star_good (PX_good _ _ _ _ _ _ _) (star_good (RX_good _ _ _ _ _) g)
  have E0 := Lib.hid (fun n m => show XNoneP br bx bm R F G d h y Q w0 Fr (.returned (.tuple #[.slice none 0 0, .bool false, .int .i64 0])) ((w.drewN n).drewN m) from by
    unfold XNoneP
    rw [en]
    exact ⟨rfl, in_drewN gW (in_drewN gW H n) m⟩)
  obtain ⟨A, c, ⟨c0, c3, c4, c5, c6⟩, k, hds, H1⟩ := xrows_nil H hr
  rw [hc] at c6
  obtain ⟨i, gg, cg, B, cb, N, hi, hiN, hN, d2, dg⟩ := PX_len H hf
  have CS := (fun n => q_at (in_drewN gW H n) y.file)
  rw [hi] at CS
  have CS := Lib.hid CS
  obtain ⟨L, hL⟩ : ∃ L, L = l.length := ⟨_, rfl⟩
  rw [← hL] at dg hl
  have hd1 : decide (L ≤ y.page) = true := by simpa using hl
  have hd2 : (L : Int) ≤ (y.page : Int) := by omega
  have hi0 : (0 : Int) ≤ (i : Int) := by omega
  have hi1 : (i : Int) < (N : Int) := by omega
  obtain ⟨file, page, rows, closed⟩ := y
  dsimp only at c3 c4 CS hd1 hd2
  clear H H1 k en e1 e2 hf hb hr hc gW hl hl' hi hL hiN
  go_enter Tryz.func54, Tryz.ntmps54
  go_wp2
  refine wp_loop_rounds 1 ?_
  rw [rounds_succ]
  go_wp2
  go_quiet ((go_at_call 89; exact Calls.quiet_of_same (CS.out _)))
  go_wp2
  go_quiet (fail)
  go_wp2
  all_goals refine bodyPost_ret (results_tmp3 rfl _ _ _) rfl ?_
  all_goals exact E0.out _ _
theorem xnext_c3 (g : Good Fr) (H : In w0 w (star (PX bx bm R F G d h) (star (RX br bx bm y Q) Fr))) (hd : d.deeds ≤ 1000000000) (hc : y.closed = false) (hr : y.rows = []) {l : List Pg} (hf : d.find y.file = some l) (hl : y.page < l.length) (he : d.readE F y.file y.page ≠ 0) :
    Calls Tryz.prog 54 #[rp_ br] w (XNoneP br bx bm R F G d h y Q w0 Fr) := by
  have hl' : ¬ (l.length : Int) ≤ (y.page : Int) := by omega
  have hb : y.loadB F d = false := by unfold Rs.loadB; rw [hf]; simp; intro _; exact he
  have en := xnext_none (F := F) (d := d) hc hr hb
  have e1 : y.loadE F d = d.readE F y.file y.page := by unfold Rs.loadE; rw [hf]; exact if_neg hl'
  have e2 : y.loadD F d = d.read F y.file y.page := by unfold Rs.loadD; rw [hf]; exact if_neg hl'
  rw [e1, e2] at en
  have gW : Good (star (PX bx bm R F G d h) (star (RX br bx bm y Q) Fr)) := star_good (PX_good _ _ _ _ _ _ _) (star_good (RX_good _ _ _ _ _) g)
  obtain ⟨A, c, ⟨c0, c3, c4, c5, c6⟩, k, hds, H1⟩ := xrows_nil H hr
  rw [hc] at c6
  obtain ⟨i, gg, cg, B, cb, N, hi, hiN, hN, d2, dg⟩ := PX_len H hf
  have CS := (fun n => q_at (in_drewN gW H n) y.file)
  rw [hi] at CS
  have CS := Lib.hid CS
  have gR := Xo_good (R := R) (F := F) (G := G) (d := d) (h := h) (y := y) (bx := bx) (bm := bm) (br := br) g (fun w => RdRs w A 0 c hds y.rows ∧ Q w) (.slice A 0 c)
  have CR := Lib.hid (fun n' => (xl_read g hd (in_drewN gR H1 n')).mono fun (e : Ending) (w' : World) hh => show ∃ v : Option Addr × Nat × Nat, e = .returned (.tuple #[.slice v.1 v.2.1 v.2.2, .int .i64 (d.readE F y.file y.page)]) ∧ (w'.cell? ⟨br, 0, none⟩ = some (dp bx) ∧ w'.cell? ⟨br, 3, none⟩ = some (.int .i64 y.file) ∧ w'.cell? ⟨br, 4, none⟩ = some (.int .i64 (y.page : Int))) ∧ XNoneP br bx bm R F G d h y Q w0 Fr (.returned (.tuple #[.slice none 0 0, .bool false, .int .i64 (d.readE F y.file y.page)])) w' from by
    obtain ⟨v, h1, h2, h3⟩ := hh
    refine ⟨v, h1, h2, ?_⟩
    unfold XNoneP
    rw [en]
    exact ⟨rfl, Xo_shut k h3.right⟩)
  have he1 : (d.readE F y.file y.page != 0) = true := by simpa using he
  obtain ⟨E, hE⟩ : ∃ E, E = d.readE F y.file y.page := ⟨_, rfl⟩
  rw [← hE] at CR he1
  obtain ⟨L, hL⟩ : ∃ L, L = l.length := ⟨_, rfl⟩
  rw [← hL] at dg hl
  have hd1 : decide (L ≤ y.page) = false := by simpa using hl
  have hd2 : ¬ (L : Int) ≤ (y.page : Int) := by omega
  have hi0 : (0 : Int) ≤ (i : Int) := by omega
  have hi1 : (i : Int) < (N : Int) := by omega
  obtain ⟨file, page, rows, closed⟩ := y
  dsimp only at c3 c4 CS hd1 hd2 CR
  clear H H1 k en e1 e2 hf hb hr hc gW hl hl' hi hL hiN gR he hE
  go_enter Tryz.func54, Tryz.ntmps54
  go_wp2
  refine wp_loop_rounds 1 ?_
  rw [rounds_succ]
  go_wp2
  go_quiet ((go_at_call 89; exact Calls.quiet_of_same (CS.out _)))
  go_wp2
  go_quiet (fail)
  go_wp2
  go_region_held3 (fun w' => w'.cell? ⟨br, 0, none⟩ = some (dp bx) ∧ w'.cell? ⟨br, 3, none⟩ = some (.int .i64 file) ∧ w'.cell? ⟨br, 4, none⟩ = some (.int .i64 (page : Int))) (first | go_keep | (refine ⟨?_, ?_, ?_⟩ <;> assumption)) (first
    | (go_at_call 90; (with_reducible refine (CR.out _).mono ?_); rintro e w2 ⟨v, rfl, ⟨s0, s3, s4⟩, V⟩; have V2 := Lib.hid V; clear V))
  all_goals go_wp2
  all_goals refine bodyPost_ret (results_tmp3 rfl _ _ _) rfl ?_
  all_goals exact V2.out
/-- The rows of the page that was read, beside the reader: the page is counted first, then the rows are laid down. -/
theorem xl_rows {A A2 : Option Addr} {n c n2 c2 : Nat} {hds : List Value} {rows : List (List V)} (g : Good Fr) (k : ROk y) (hp : y.page < 16384) (hok : ∀ r ∈ rows, rowOk r = true) (hu : usedN rows ≤ 256) (h0 : rows ≠ []) {W : World} (V : In w0 W (star (rowR 5 1 (.slice A2 n2 c2) n2 (b8 (mkP rows))) (Xo bx bm br R F G d h y (fun w => RdRs w A n c hds y.rows ∧ Q w) (.slice A n c) Fr))) :
    Calls Tryz.prog 91 #[.slice A2 n2 c2] W fun e w' => ∃ B c', e = .returned (.tuple #[.slice B rows.length c', .bool true]) ∧ (w'.cell? ⟨br, 5, none⟩ = some (.slice A n c) ∧ w'.cell? ⟨br, 4, none⟩ = some (.int .i64 (y.page : Int)) ∧ w'.frozen? ⟨br, 5, none⟩ = false ∧ w'.frozen? ⟨br, 4, none⟩ = false) ∧ ((w'.setCell ⟨br, 4, none⟩ (.int .i64 ((y.page : Int) + 1))).setCell ⟨br, 5, none⟩ (.slice B rows.length c')).cell? ⟨br, 5, none⟩ = some (.slice B rows.length c') ∧
      In w0 ((w'.setCell ⟨br, 4, none⟩ (.int .i64 ((y.page : Int) + 1))).setCell ⟨br, 5, none⟩ (.slice B rows.length c')) (star (PX bx bm R F G d h) (star (RX br bx bm ⟨y.file, y.page + 1, rows, y.closed⟩ Q) Fr)) := by
  have hb := (row_rdb (V.left.get fun S h => h.1) hok hu).2
  refine (rrows_walk hb).mono fun e w' hh => ?_
  unfold RRowsP at hh
  rw [scan_mkP hok hu] at hh
  obtain ⟨⟨B, c', hds', h1, h2, h3⟩, h4⟩ := hh
  have gX : Good (star (PX bx bm R F G d h) Fr) := star_good (PX_good _ _ _ _ _ _ _) g
  have H3 := V.right.add (Xo_good g _ _) h4 (rd_rows h2 h3) (fun k hk => hk.1)
  have H4 : In w0 w' (star (blkR br (qObj bx bm y (.slice A n c))) (star (rd (fun w => RdRs w B rows.length c' hds' rows ∧ Q w)) (star (PX bx bm R F G d h) Fr))) :=
    H3.assoc.imp fun S h => star_mono h (fun _ => id) (fun _ h => star_mono (star_assoc' (star_comm h)) (fun _ h => rd_imp (rd_and h) (fun w q => ⟨q.1, q.2.2⟩)) (fun _ => id))
  obtain ⟨c0, c1, c2, c3, c4, c5, c6⟩ := Xo_cells H4
  refine ⟨B, c', h1, ⟨c5, c4, Xo_free H4 5, Xo_free H4 4⟩, ?_⟩
  have gY : Good (star (rd (fun w => RdRs w B rows.length c' hds' rows ∧ Q w)) (star (PX bx bm R F G d h) Fr)) := star_good (rd_good _) gX
  have H5 := (H4.put gY 4 (.int .i64 ((y.page : Int) + 1))).put gY 5 (.slice B rows.length c')
  exact ⟨(Xo_cells (y := ⟨y.file, y.page + 1, rows, y.closed⟩) H5).2.2.2.2.2.1, Xo_shut (y := ⟨y.file, y.page + 1, rows, y.closed⟩) ⟨by dsimp only; omega, k.file⟩ H5⟩
theorem xnext_d (g : Good Fr) (H : In w0 w (star (PX bx bm R F G d h) (star (RX br bx bm y Q) Fr))) (hd : d.deeds ≤ 1000000000) (hc : y.closed = false) (hr : y.rows = []) {l : List Pg} (hf : d.find y.file = some l) (hl : y.page < l.length) (he : d.readE F y.file y.page = 0) {r : List V} {t : List (List V)} (hx : (y.loadX F d).rows = r :: t) :
    Calls Tryz.prog 54 #[rp_ br] w (XSomeP br bx bm R F G d h y r Q w0 Fr) := by
  have hl' : ¬ (l.length : Int) ≤ (y.page : Int) := by omega
  have hb : y.loadB F d = true := by unfold Rs.loadB; rw [hf]; simp [he]; omega
  have e2 : y.loadD F d = d.read F y.file y.page := by unfold Rs.loadD; rw [hf]; exact if_neg hl'
  have en : y.next F d = ⟨some r, 0, d.read F y.file y.page, ⟨y.file, y.page + 1, t, y.closed⟩⟩ := by unfold Rs.next; rw [if_neg (by rw [hc]; decide), hr]; dsimp only; rw [if_pos hb, hx, e2]; rfl
  have gW : Good (star (PX bx bm R F G d h) (star (RX br bx bm y Q) Fr)) := star_good (PX_good _ _ _ _ _ _ _) (star_good (RX_good _ _ _ _ _) g)
  obtain ⟨rows, r1, r2, r3, r4, r5, r6⟩ := load_page (PX_ok H).1.1 he
  have ex : rows = r :: t := by
    rw [← hx]
    unfold Rs.loadX
    rw [if_pos hb, r2, pgRows_mkP r5 r4]
  obtain ⟨A, c, ⟨c0, c3, c4, c5, c6⟩, k, hds, H1⟩ := xrows_nil H hr
  rw [hc] at c6
  have hpg := k.page
  obtain ⟨i, gg, cg, B, cb, N, hi, hiN, hN, d2, dg⟩ := PX_len H hf
  have CS := (fun n => q_at (in_drewN gW H n) y.file)
  rw [hi] at CS
  have CS := Lib.hid CS
  have gR := Xo_good (R := R) (F := F) (G := G) (d := d) (h := h) (y := y) (bx := bx) (bm := bm) (br := br) g (fun w => RdRs w A 0 c hds y.rows ∧ Q w) (.slice A 0 c)
  have CR := (fun n' => (xl_read g hd (in_drewN gR H1 n')))
  rw [he, r3] at CR
  have CR := Lib.hid CR
  have CW := Lib.hid (fun W (v : Option Addr × Nat × Nat) (V : In w0 W (star (rowR 5 1 (.slice v.1 v.2.1 v.2.2) v.2.1 (b8 (mkP rows))) (Xo bx bm br R F G (d.read F y.file y.page) h y (fun w => RdRs w A 0 c hds y.rows ∧ Q w) (.slice A 0 c) Fr))) => (xl_rows g k r6 r5 r4 r1 V).mono fun (e : Ending) (w' : World) hh => show ∃ ad n c2 B2 m cc, e = .returned (.tuple #[.slice (some ad) (n + 1) (c2 + 1), .bool true]) ∧ (w'.cell? ⟨br, 5, none⟩ = some (.slice A 0 c) ∧ w'.cell? ⟨br, 4, none⟩ = some (.int .i64 (y.page : Int)) ∧ w'.frozen? ⟨br, 5, none⟩ = false ∧ w'.frozen? ⟨br, 4, none⟩ = false) ∧ (n ≤ c2 ∧ c2 + 1 ≤ 9223372036854775807) ∧
      ((w'.setCell ⟨br, 4, none⟩ (.int .i64 ((y.page : Int) + 1))).setCell ⟨br, 5, none⟩ (.slice (some ad) (n + 1) (c2 + 1))).cell? ad = some (.slice B2 m cc) ∧
      XSomeP br bx bm R F G d h y r Q w0 Fr (.returned (.tuple #[.slice B2 m cc, .bool true, .int .i64 0])) (((w'.setCell ⟨br, 4, none⟩ (.int .i64 ((y.page : Int) + 1))).setCell ⟨br, 5, none⟩ (.slice (some ad) (n + 1) (c2 + 1))).setCell ⟨br, 5, none⟩ (if c2 = 0 then .slice (some ad) n c2 else .slice (some (ad.add 1)) n c2)) from by
    obtain ⟨B', c', h1, ⟨k5, k4, f5, f4⟩, q, h2⟩ := hh
    obtain ⟨ad, n2, c2, B2, m, cc, ⟨q5, _, f5', hnc, hcm⟩, hcell, V⟩ := xnext_head g h2 ex
    rw [q] at q5
    injection q5 with q5
    rw [q5] at h1 hcell V
    refine ⟨ad, n2, c2, B2, m, cc, h1, ⟨k5, k4, f5, f4⟩, ⟨hnc, hcm⟩, hcell, ?_⟩
    unfold XSomeP
    rw [en]
    exact ⟨B2, m, cc, rfl, V⟩)
  obtain ⟨L, hL⟩ : ∃ L, L = l.length := ⟨_, rfl⟩
  rw [← hL] at dg hl
  have hd1 : decide (L ≤ y.page) = false := by simpa using hl
  have hd2 : ¬ (L : Int) ≤ (y.page : Int) := by omega
  have hi0 : (0 : Int) ≤ (i : Int) := by omega
  have hi1 : (i : Int) < (N : Int) := by omega
  obtain ⟨D', hD'⟩ : ∃ D', D' = d.read F y.file y.page := ⟨_, rfl⟩
  rw [← hD'] at CW CR
  obtain ⟨file, page, rows0, closed⟩ := y
  dsimp only at c3 c4 CS hd1 hd2 CR CW hpg
  clear H H1 k en e2 hf hb hr hc gW hl hl' hi hL hiN gR he hD' hx ex r1 r2 r3 r4 r5 r6
  go_enter Tryz.func54, Tryz.ntmps54
  go_wp2
  refine wp_loop_rounds 2 ?_
  rw [rounds_succ]
  go_wp2
  go_quiet ((go_at_call 89; exact Calls.quiet_of_same (CS.out _)))
  go_wp2
  go_quiet (fail)
  go_wp2
  go_region_held3 (fun w' => w'.cell? ⟨br, 0, none⟩ = some (dp bx) ∧ w'.cell? ⟨br, 3, none⟩ = some (.int .i64 file) ∧ w'.cell? ⟨br, 4, none⟩ = some (.int .i64 (page : Int))) (first | go_keep | (refine ⟨?_, ?_, ?_⟩ <;> assumption)) (first
    | (go_at_call 90; (with_reducible refine (CR.out _).mono ?_); rintro e w2 ⟨v, rfl, ⟨s0, s3, s4⟩, V⟩; have V2 := Lib.hid V; clear V))
  all_goals go_wp2_with (go_at_call 91; (with_reducible refine (CW.out _ _ V2.out).mono ?_); rintro e w3 ⟨ad, n, c2, B2, m, cc, rfl, ⟨q5, q4, q5f, q4f⟩, ⟨hnc, hcm⟩, hcell, V⟩; have hn0 : ((n : Int) + 1 == 0) = false := (by simp; omega); have hn1 : (0 : Int) < (n : Int) + 1 := (by omega); have V3 := Lib.hid V; clear V)
  all_goals rw [rounds_succ]
  all_goals rcases Nat.eq_zero_or_pos c2 with h0 | h0
  · subst h0
    obtain rfl : n = 0 := by omega
    have V4 := V3.out
    rw [if_pos rfl] at V4
    have V4 := Lib.hid V4
    clear V3 hnc hcm hn0 hn1
    go_wp2
    all_goals refine bodyPost_ret (results_tmp3 rfl _ _ _) rfl ?_
    all_goals exact V4.out
  · have V4 := V3.out
    rw [if_neg (by omega)] at V4
    have V4 := Lib.hid V4
    have hc0 : ¬ c2 = 0 := by omega
    clear V3
    go_wp2
    all_goals refine bodyPost_ret (results_tmp3 rfl _ _ _) rfl ?_
    all_goals exact V4.out
theorem loadB_page (hb : y.loadB F d = true) : ∃ l, d.find y.file = some l ∧ y.page < l.length ∧ d.readE F y.file y.page = 0 := by
  unfold Rs.loadB at hb
  cases hf : d.find y.file with
  | none => rw [hf] at hb; cases hb
  | some l => rw [hf] at hb; simp at hb; exact ⟨l, rfl, by omega, hb.2⟩
theorem x_next_none (g : Good Fr) (H : In w0 w (star (PX bx bm R F G d h) (star (RX br bx bm y Q) Fr))) (hd : d.deeds ≤ 1000000000) (hn : (y.next F d).row = none) :
    Calls Tryz.prog 54 #[rp_ br] w (XNoneP br bx bm R F G d h y Q w0 Fr) := by
  cases hc : y.closed with
  | true => exact xnext_a H hc
  | false =>
    cases hr : y.rows with
    | cons r t =>
      have en : y.next F d = ⟨some r, 0, d, ⟨y.file, y.page, t, y.closed⟩⟩ := by unfold Rs.next; rw [if_neg (by rw [hc]; decide), hr]
      rw [en] at hn
      cases hn
    | nil =>
      cases hb : y.loadB F d with
      | true =>
        obtain ⟨r, t, hx⟩ := loadX_rows (PX_ok H).1.1 hb
        have en : y.next F d = ⟨some r, 0, y.loadD F d, ⟨y.file, y.page + 1, t, y.closed⟩⟩ := by unfold Rs.next; rw [if_neg (by rw [hc]; decide), hr]; dsimp only; rw [if_pos hb, hx]; rfl
        rw [en] at hn
        cases hn
      | false =>
        cases hf : d.find y.file with
        | none => exact xnext_c1 g H hd hc hr hf
        | some l =>
          rcases Nat.lt_or_ge y.page l.length with hl | hl
          · refine xnext_c3 g H hd hc hr hf hl fun he => ?_
            unfold Rs.loadB at hb
            rw [hf] at hb
            simp [he] at hb
            omega
          · exact xnext_c2 g H hc hr hf hl
theorem x_next_some (g : Good Fr) (H : In w0 w (star (PX bx bm R F G d h) (star (RX br bx bm y Q) Fr))) (hd : d.deeds ≤ 1000000000) {r : List V} (hn : (y.next F d).row = some r) :
    Calls Tryz.prog 54 #[rp_ br] w (XSomeP br bx bm R F G d h y r Q w0 Fr) := by
  cases hc : y.closed with
  | true =>
    have en : y.next F d = ⟨none, 0, d, y⟩ := if_pos hc
    rw [en] at hn
    cases hn
  | false =>
    cases hr : y.rows with
    | cons r' t =>
      have en : y.next F d = ⟨some r', 0, d, ⟨y.file, y.page, t, y.closed⟩⟩ := by unfold Rs.next; rw [if_neg (by rw [hc]; decide), hr]
      rw [en] at hn
      injection hn with hn
      subst hn
      exact xnext_b g H hc hr
    | nil =>
      cases hb : y.loadB F d with
      | false =>
        rw [xnext_none hc hr hb] at hn
        cases hn
      | true =>
        obtain ⟨l, hf, hl, he⟩ := loadB_page hb
        obtain ⟨r', t, hx⟩ := loadX_rows (PX_ok H).1.1 hb
        have en : y.next F d = ⟨some r', 0, y.loadD F d, ⟨y.file, y.page + 1, t, y.closed⟩⟩ := by unfold Rs.next; rw [if_neg (by rw [hc]; decide), hr]; dsimp only; rw [if_pos hb, hx]; rfl
        rw [en] at hn
        injection hn with hn
        subst hn
        exact xnext_d g H hd hc hr hf hl he hx
end
end Go.Proofs.YtkbapoeilcapfaaGreat

/- the document's Write. -/
namespace Go.Proofs.YtkbapoeilcapfaaGreat
open Go.RowKit Go.Maps
set_option linter.unusedVariables false
set_option linter.unusedSimpArgs false
set_option maxRecDepth 6000

section
variable {w0 w : World} {bx bm : Nat} {R : Int} {F : List Int} {G : Int} {d : Ds} {h : Int} {Fr : Res} {A : Option Addr} {n c : Nat} {hds : List Value} {rows : List (List V)}
def YWriteP (bx bm : Nat) (R : Int) (F : List Int) (G : Int) (d : Ds) (h : Int) (rows : List (List V)) (w0 : World) (Fr : Res) (e : Ending) (w' : World) : Prop :=
  e = .returned (.tuple #[.int .i64 (writeS R F G d h rows).n, .int .i64 (writeS R F G d h rows).e]) ∧ In w0 w' (star (PX bx bm R F G (writeS R F G d h rows).d h) Fr)
theorem ywrite_a (g : Good Fr) (H : In w0 w (star (PX bx bm R F G d h) Fr)) (hm : d.made ≤ 1000000000) (hE : wrE G d h ≠ 0) :
    Calls Tryz.prog 14 #[pvx bx bm, .slice A n c] w (YWriteP bx bm R F G d h rows w0 Fr) := by
  have es : writeS R F G d h rows = ⟨0, wrE G d h, d⟩ := if_pos hE
  have H1 : ∀ o, In w0 (w.alloc o) (star (PX bx bm R F G d h) Fr) := fun o => in_alloc (star_good (PX_good _ _ _ _ _ _ _) g) H o
  have CW : ∀ o, Calls Tryz.prog 48 #[pvx bx bm] (w.alloc o) fun e w' => e = .returned (.tuple #[.pointer none, .int .i64 (wrE G d h)]) ∧ In w0 w' (star (PX bx bm R F G d h) Fr) := by
    intro o
    unfold wrE at hE ⊢
    by_cases hG : G ≤ h
    · rw [if_pos hG]
      exact ywriter_a g (H1 o) hG
    · rw [if_neg hG] at hE ⊢
      exact ywriter_b g (H1 o) hG hm hE
  have CW := Lib.hid fun o => (CW o).mono fun e w' hh => show e = .returned (.tuple #[.pointer none, .int .i64 (wrE G d h)]) ∧ YWriteP bx bm R F G d h rows w0 Fr (.returned (.tuple #[.int .i64 0, .int .i64 (wrE G d h)])) w' from by
    refine ⟨hh.1, ?_⟩
    unfold YWriteP
    rw [es]
    exact ⟨rfl, hh.2⟩
  have hE1 : (wrE G d h != 0) = true := by simpa using hE
  obtain ⟨E, hEE⟩ : ∃ E, E = wrE G d h := ⟨_, rfl⟩
  rw [← hEE] at CW hE1
  clear H H1 hE es hEE hm
  go_enter Tryz.func14, Tryz.ntmps14
  go_wp2_with (go_at_call 48; (with_reducible refine (CW.out _).mono ?_); rintro e w1 ⟨rfl, V⟩; have V1 := Lib.hid V; clear V)
  go_ret2
  exact V1.out
/-- A state of Write's loop. -/
structure YSt (w0 wr : World) (bx bm bw : Nat) (R : Int) (F : List Int) (G : Int) (d0 : Ds) (h : Int) (rows : List (List V)) (Fr : Res) (k : Nat) (d : Ds) (x : Ws) (N : Int) : Prop where
  inn : In w0 wr (star (PX bx bm R F G d (h + 1)) (star (WX w0 bw bx bm x) Fr))
  eqn : putAll R F d0.create (wrX d0) rows = putAll R F d x (rows.drop k)
  le : d.le (N + 1 + k)
  num : x.n ≤ k
  opn : x.ended = false
set_option maxHeartbeats 1000000 in
theorem ywrite_b (g : Good Fr) (H : In w0 w (star (PX bx bm R F G d h) Fr)) (HL : ∀ W, Below w0.heap.size w0 W → RdL W A n hds rows) {N : Int} (hN : d.le N) (hb : N + 2 + n ≤ 1000000000) (hn : n ≤ 900000) (hE : wrE G d h = 0) :
    Calls Tryz.prog 14 #[pvx bx bm, .slice A n c] w (YWriteP bx bm R F G d h rows w0 Fr) := by
  have hlen := (HL _ (Below.refl _ _)).len
  have hG : ¬ G ≤ h := by unfold wrE at hE; intro hG; rw [if_pos hG] at hE; cases hE
  have hC : d.createE = 0 := by unfold wrE at hE; rw [if_neg hG] at hE; exact hE
  have h0 := (PX_ok H).2.1
  have H1 := in_alloc (star_good (PX_good _ _ _ _ _ _ _) g) H (xbox bx bm)
  have CW := Lib.hid ((ywriter_c g H1 hG (by have := hN.1; omega) hC).mono fun (e : Ending) (w' : World) hh => show ∃ bw, e = .returned (.tuple #[wp_ bw, .int .i64 0]) ∧ YSt w0 w' bx bm bw R F G d h rows Fr 0 d.create (wrX d) N from by
    obtain ⟨bw, h1, h2⟩ := hh
    exact ⟨bw, h1, h2, rfl, by simpa using le_create hN, by unfold wrX; simp, rfl⟩)
  have HR := Lib.hid (fun (k : Nat) (hk : k < n) => row_stays (P := fun W => Below w0.heap.size w0 W) (Below.refl _ _) HL hk)
  have es : writeS R F G d h rows = if (putAll R F d.create (wrX d) rows).e ≠ 0 then ⟨0, (putAll R F d.create (wrX d) rows).e, (putAll R F d.create (wrX d) rows).x.dropD (putAll R F d.create (wrX d) rows).d⟩
    else ⟨(putAll R F d.create (wrX d) rows).x.doneN R F (putAll R F d.create (wrX d) rows).d, (putAll R F d.create (wrX d) rows).x.doneE R F (putAll R F d.create (wrX d) rows).d, (putAll R F d.create (wrX d) rows).x.doneD R F (putAll R F d.create (wrX d) rows).d⟩ := by
    unfold writeS
    rw [if_neg (by rw [hE]; decide)]
  have ES := Lib.hid es
  have h0 := Lib.hid h0
  have hn64 : n ≤ 9223372036854775807 := by omega
  have hlen := Lib.hid hlen
  clear H H1 hE hG hC es HL hN
  go_enter Tryz.func14, Tryz.ntmps14
  go_wp2_with (go_at_call 48; (with_reducible refine CW.out.mono ?_); rintro e w1 ⟨bw, rfl, V⟩; have V1 := Lib.hid V; clear V CW)
  go_loopw [8] (fun i wr => ∃ (k : Nat) (d' : Ds) (x : Ws), k ≤ n ∧ i = .int .i64 (k : Int) ∧ Hid (YSt w0 wr bx bm bw R F G d h rows Fr k d' x N)) (fun i _ => n - (intOf i).toNat)
  case atStart => exact ⟨0, _, _, by omega, rfl, V1⟩
  case round =>
    clear V1
    obtain ⟨k, d', x, hk, rfl, HS⟩ := hrel
    have hle := HS.out.le
    have hnum := HS.out.num
    have hd1 : d'.deeds ≤ 1000000000 := by have := hle.2; omega
    by_cases hlt : k < n
    · obtain ⟨ad, B, m, cc, r, rfl, hr, hdrop, hst⟩ := HR.out k hlt
      have hcell := (hst _ HS.out.inn.2).1
      have CP := yput (cc := cc) g HS.out.inn (fun W hW => (hst W hW).2) hd1 (by omega)
      by_cases hpe : x.putE R F d' r = 0
      · have CP := Lib.hid (CP.mono fun (e : Ending) (w' : World) hh => show e = .returned (.int .i64 0) ∧ YSt w0 w' bx bm bw R F G d h rows Fr (k + 1) (x.putD R F d' r) (x.putX R F d' r) N from by
          obtain ⟨h1, h2⟩ := hh
          rw [hpe] at h1
          have h3 := put_n (R := R) (F := F) (d := d') (x := x) (r := r)
          refine ⟨h1, h2, ?_, ?_, ?_, by rw [h3.2.2]; exact HS.out.opn⟩
          · rw [HS.out.eqn, hdrop]
            conv => lhs; unfold putAll
            rw [if_pos hpe]
          · exact (le_put hle).mono (by omega)
          · have := h3.1; omega)
        clear hpe hst hdrop hr hle hnum hd1
        go_wp2_with (go_at_call 49; (with_reducible refine CP.out.mono ?_); rintro e w2 ⟨rfl, V⟩; have V2 := Lib.hid V; clear V CP)
        go_roundw
        case measure => simp [intOf]; omega
        case rel => exact ⟨k + 1, _, _, by omega, by go_num, V2⟩
      · have e1 : putAll R F d.create (wrX d) rows = ⟨x.putE R F d' r, x.putD R F d' r, x.putX R F d' r⟩ := by
          rw [HS.out.eqn, hdrop]
          conv => lhs; unfold putAll
          rw [if_neg hpe]
        have hxo : (x.putX R F d' r).ended = false := by rw [(put_n (R := R) (F := F) (d := d') (x := x) (r := r)).2.2]; exact HS.out.opn
        have CP := Lib.hid (CP.mono fun (e : Ending) (w' : World) hh => show e = .returned (.int .i64 (x.putE R F d' r)) ∧ In w0 w' (star (PX bx bm R F G (x.putD R F d' r) (h + 1)) (star (WX w0 bw bx bm (x.putX R F d' r)) Fr)) from hh)
        have CD := Lib.hid (fun W (V : In w0 W (star (PX bx bm R F G (x.putD R F d' r) (h + 1)) (star (WX w0 bw bx bm (x.putX R F d' r)) Fr))) => (ydrop g V).mono fun (e : Ending) (w' : World) hh => show e = .returned (.tuple #[]) ∧ YWriteP bx bm R F G d h rows w0 Fr (.returned (.tuple #[.int .i64 0, .int .i64 (x.putE R F d' r)])) w' from by
          obtain ⟨h1, h2⟩ := hh
          refine ⟨h1, ?_⟩
          unfold YWriteP
          rw [ES.out, e1, if_pos hpe]
          have eh : (x.putX R F d' r).endH (h + 1) = h := by unfold Ws.endH; rw [if_neg (by rw [hxo]; decide), giveH_up h0.out]
          rw [eh] at h2
          exact ⟨rfl, h2.drop⟩)
        have hpe1 : (x.putE R F d' r != 0) = true := by simpa using hpe
        obtain ⟨E, hEE⟩ : ∃ E, E = x.putE R F d' r := ⟨_, rfl⟩
        rw [← hEE] at CP CD hpe1
        clear hpe hst hdrop hr e1 hxo hEE hle hnum hd1
        go_wp2_with (first
          | (go_at_call 49; (with_reducible refine CP.out.mono ?_); rintro e w2 ⟨rfl, V⟩; have V2 := Lib.hid V; clear V CP)
          | (go_at_call 50; (with_reducible refine (CD.out _ V2.out).mono ?_); rintro e w3 ⟨rfl, V⟩; have V3 := Lib.hid V; clear V CD))
        go_ret2
        exact V3.out
    · have hkn : k = n := by omega
      subst hkn
      have e1 : putAll R F d.create (wrX d) rows = ⟨0, d', x⟩ := by
        rw [HS.out.eqn, List.drop_of_length_le (by rw [hlen.out]; exact Nat.le_refl _)]
        rfl
      have CD := Lib.hid ((ydone g HS.out.inn hd1).mono fun (e : Ending) (w' : World) hh => show e = .returned (.tuple #[.int .i64 (x.doneN R F d'), .int .i64 (x.doneE R F d')]) ∧ YWriteP bx bm R F G d h rows w0 Fr (.returned (.tuple #[.int .i64 (x.doneN R F d'), .int .i64 (x.doneE R F d')])) w' from by
        obtain ⟨h1, h2⟩ := hh
        refine ⟨h1, ?_⟩
        unfold YWriteP
        rw [ES.out, e1, if_neg (show ¬ (0 : Int) ≠ 0 by decide)]
        have eh : x.endH (h + 1) = h := by unfold Ws.endH; rw [if_neg (by rw [HS.out.opn]; decide), giveH_up h0.out]
        rw [eh] at h2
        exact ⟨rfl, h2.drop⟩)
      clear e1 hle hnum hd1
      go_wp2_with (go_at_call 51; (with_reducible refine CD.out.mono ?_); rintro e w2 ⟨rfl, V⟩; have V2 := Lib.hid V; clear V CD)
      go_ret2
      exact V2.out
theorem y_write (g : Good Fr) (H : In w0 w (star (PX bx bm R F G d h) Fr)) (HL : ∀ W, Below w0.heap.size w0 W → RdL W A n hds rows) {N : Int} (hN : d.le N) (hb : N + 2 + n ≤ 1000000000) (hn : n ≤ 900000) :
    Calls Tryz.prog 14 #[pvx bx bm, .slice A n c] w (YWriteP bx bm R F G d h rows w0 Fr) := by
  by_cases hE : wrE G d h = 0
  · exact ywrite_b g H HL hN hb hn hE
  · exact ywrite_a g H (by have := hN.1; omega) hE
end
end Go.Proofs.YtkbapoeilcapfaaGreat

/- the document's All. -/
namespace Go.Proofs.YtkbapoeilcapfaaGreat
open Go.RowKit Go.Maps
set_option linter.unusedVariables false
set_option linter.unusedSimpArgs false
set_option maxRecDepth 6000

section
variable {w0 w : World} {bx bm br : Nat} {R : Int} {F : List Int} {G : Int} {d : Ds} {h : Int} {y : Rs} {Q Q' : World → Prop} {Fr A X : Res}
theorem yacc_rd {B : Option Addr} {n c : Nat} {hds : List Value} {acc : List (List V)} (H : In w0 w (star A (star (RX br bx bm y (fun W => RdAcc W hds acc)) (star (rowR 25 1 (.slice B n c) n hds) X)))) :
    In w0 w (star A (star (rd (fun W => RdL W B n hds acc)) X)) := by
  have H1 := (RX_rd H).imp fun S h => star_mono h (fun _ => id) (fun S h => star_mono (star_assoc' h) (fun S h => rd_imp (rd_and (star_mono h (fun _ => id) (fun _ h => rowR_rd h))) fun W q => acc_rdl (c := c) q.1 q.2) (fun _ => id))
  exact H1
def YAllP (bx bm : Nat) (R : Int) (F : List Int) (G : Int) (z : Rt) (h : Int) (w0 : World) (Fr : Res) (e : Ending) (w' : World) : Prop :=
  if z.e ≠ 0 then e = .returned (.tuple #[.slice none 0 0, .int .i64 z.e]) ∧ In w0 w' (star (PX bx bm R F G z.d h) Fr)
  else ∃ B c hds, e = .returned (.tuple #[.slice B z.l.length c, .int .i64 0]) ∧ In w0 w' (star (PX bx bm R F G z.d h) (star (rd (fun W => RdL W B z.l.length hds z.l)) Fr))
theorem yall_no (g : Good Fr) (H : In w0 w (star (PX bx bm R F G d h) Fr)) {n : Int} (hw : (Lit.int .i64 n).wf = true) (hE : rrE G d h n ≠ 0) :
    Calls Tryz.prog 17 #[pvx bx bm, .int .i64 n] w fun e w' => e = .returned (.tuple #[.slice none 0 0, .int .i64 (rrE G d h n)]) ∧ In w0 w' (star (PX bx bm R F G d h) Fr) := by
  have H1 := in_alloc (star_good (PX_good _ _ _ _ _ _ _) g) H (xbox bx bm)
  have CR : Calls Tryz.prog 53 #[pvx bx bm, .int .i64 n] (w.alloc (xbox bx bm)) fun e w' => e = .returned (.tuple #[.pointer none, .int .i64 (rrE G d h n)]) ∧ In w0 w' (star (PX bx bm R F G d h) Fr) := by
    unfold rrE at hE ⊢
    cases hf : d.find n with
    | none =>
      rw [if_pos (by rfl)]
      exact xreader_a g H1 hf
    | some l =>
      rw [hf, if_neg (by simp)] at hE
      rw [if_neg (by simp)]
      by_cases hG : G ≤ h
      · rw [if_pos hG]
        exact xreader_b g H1 hf hG
      · rw [if_neg hG] at hE
        exact absurd rfl hE
  have CR := Lib.hid CR
  have hE1 : (rrE G d h n != 0) = true := by simpa using hE
  obtain ⟨E, hEE⟩ : ∃ E, E = rrE G d h n := ⟨_, rfl⟩
  rw [← hEE] at CR hE1 ⊢
  clear H H1 hE hEE hw
  go_enter Tryz.func17, Tryz.ntmps17
  go_wp2_with (go_at_call 53; (with_reducible refine CR.out.mono ?_); rintro e w1 ⟨rfl, V⟩; have V1 := Lib.hid V; clear V)
  go_ret2
  exact ⟨by trivial, V1.out⟩
/-- A state of All's loop. -/
structure YAt (w0 wr : World) (bx bm br : Nat) (R : Int) (F : List Int) (G : Int) (z : Rt) (h : Int) (Fr : Res) (M k : Nat) (v : Value) (hds : List Value) (acc : List (List V)) (d : Ds) (y : Rs) (N : Int) : Prop where
  inn : In w0 wr (star (PX bx bm R F G d (h + 1)) (star (RX br bx bm y (fun W => RdAcc W hds acc)) (star (rowR 25 1 v k hds) Fr)))
  eqn : z = ⟨(readS F (leftN d y + 1) d y).e, (readS F (leftN d y + 1) d y).d, (readS F (leftN d y + 1) d y).y, acc ++ (readS F (leftN d y + 1) d y).l⟩
  left : k + leftN d y = M
  len : acc.length = k
  le : d.le (N + k)
  opn : y.closed = false
set_option maxHeartbeats 1000000 in
theorem yall_yes (g : Good Fr) (H : In w0 w (star (PX bx bm R F G d h) Fr)) {n : Int} (hw : (Lit.int .i64 n).wf = true) (hE : rrE G d h n = 0) {N : Int} (hN : d.le N) (hb : N + 3000000 ≤ 1000000000) :
    Calls Tryz.prog 17 #[pvx bx bm, .int .i64 n] w (YAllP bx bm R F G (allS F d n) h w0 Fr) := by
  have H1 := in_alloc (star_good (PX_good _ _ _ _ _ _ _) g) H (xbox bx bm)
  obtain ⟨⟨K, _⟩, h0, _⟩ := PX_ok H
  obtain ⟨M, hM⟩ : ∃ M, M = leftN d (rs0 n) := ⟨_, rfl⟩
  have hMb : M ≤ 3000000 := by rw [hM]; exact left_le K (by simp)
  obtain ⟨z, hz⟩ : ∃ z, z = allS F d n := ⟨_, rfl⟩
  have CR : Calls Tryz.prog 53 #[pvx bx bm, .int .i64 n] (w.alloc (xbox bx bm)) fun e w' => ∃ br, e = .returned (.tuple #[rp_ br, .int .i64 0]) ∧ YAt w0 w' bx bm br R F G z h Fr M 0 (.slice none 0 0) [] [] d (rs0 n) N := by
    unfold rrE at hE
    cases hf : d.find n with
    | none => rw [hf] at hE; cases hE
    | some l =>
      rw [hf, if_neg (by simp)] at hE
      have hG : ¬ G ≤ h := fun hG => by rw [if_pos hG] at hE; cases hE
      refine (xreader_c g H1 hw hf hG).mono fun e w' hh => ?_
      obtain ⟨br, h1, h2⟩ := hh
      refine ⟨br, h1, ?_, ?_, by rw [hM]; simp, rfl, by simpa using hN, rfl⟩
      · have h3 := RX_imp (Q' := fun W => RdAcc W [] []) h2 (fun w _ => ⟨rfl, fun i r hr => by simp at hr⟩)
        exact (h3.assoc'.nilrow).assoc
      · rw [hz]
        rfl
  have CR := Lib.hid CR
  rw [← hz]
  clear H H1 hE hw hN hz hM K
  have h0 := Lib.hid h0
  go_enter Tryz.func17, Tryz.ntmps17
  go_wp2_with (go_at_call 53; (with_reducible refine CR.out.mono ?_); rintro e w1 ⟨br, rfl, V⟩; have V1 := Lib.hid V; clear V CR)
  go_loopw [8] (fun v wr => ∃ (k : Nat) (B : Option Addr) (c : Nat) (hds : List Value) (acc : List (List V)) (d' : Ds) (y : Rs), k ≤ M ∧ v = .slice B k c ∧ Hid (YAt w0 wr bx bm br R F G z h Fr M k (.slice B k c) hds acc d' y N)) (fun v _ => M - lenOf v)
  case atStart => exact ⟨0, _, _, _, _, _, _, by omega, rfl, V1⟩
  case round =>
    clear V1
    obtain ⟨k, B, c, hds, acc, d', y, hk, rfl, HS⟩ := hrel
    have hle := HS.out.le
    have hd1 : d'.deeds ≤ 1000000000 := by have := hle.2; omega
    cases hr : (y.next F d').row with
    | some r =>
      have hlt : k < M := by
        have h1 := HS.out.left
        have h2 := next_left hr
        omega
      have gR : Good (star (rowR 25 1 (.slice B k c) k hds) Fr) := star_good (rowR_good _ _ _ _ _) g
      have CN := Lib.hid ((x_next_some gR HS.out.inn hd1 hr).mono fun (e : Ending) (w' : World) hh => show ∃ B2 m2 c2, e = .returned (.tuple #[.slice B2 m2 c2, .bool true, .int .i64 0]) ∧ In w0 w' (star (rowR 25 1 (.slice B k c) k hds) (star (PX bx bm R F G (y.next F d').d (h + 1)) (star (RX br bx bm (y.next F d').x (fun W => RdAcc W (hds ++ [.slice B2 m2 c2]) (acc ++ [r]))) Fr))) from by
        obtain ⟨B2, m2, c2, h1, h2⟩ := hh
        have h3 := RX_imp (Q' := fun W => RdAcc W (hds ++ [.slice B2 m2 c2]) (acc ++ [r])) h2 (fun w q => q.1.snoc q.2)
        exact ⟨B2, m2, c2, h1, (h3.imp fun S h => star_mono h (fun _ => id) (fun _ h => star_swap h)).swap⟩)
      have HE := Lib.hid (fun (W : World) (B2 : Option Addr) (m2 c2 : Nat) (v1 : Value) (V : In w0 W (star (rowR 25 1 v1 (k + 1) (hds ++ [.slice B2 m2 c2])) (star (PX bx bm R F G (y.next F d').d (h + 1)) (star (RX br bx bm (y.next F d').x (fun W => RdAcc W (hds ++ [.slice B2 m2 c2]) (acc ++ [r]))) Fr)))) =>
        show YAt w0 W bx bm br R F G z h Fr M (k + 1) v1 (hds ++ [.slice B2 m2 c2]) (acc ++ [r]) (y.next F d').d (y.next F d').x N from
        ⟨V.swap.imp fun S h => star_mono h (fun _ => id) (fun _ h => star_swap h), by rw [HS.out.eqn, readS_some hr]; simp, by have h1 := HS.out.left; have h2 := next_left hr; omega, by simp [HS.out.len], (le_next hle).mono (by omega), by rw [next_closed]; exact HS.out.opn⟩)
      have gX : Good (star (PX bx bm R F G (y.next F d').d (h + 1)) (star (RX br bx bm (y.next F d').x (fun W => True)) Fr)) := star_good (PX_good _ _ _ _ _ _ _) (star_good (RX_good _ _ _ _ _) g)
      have GX := Lib.hid (fun (B2 : Option Addr) (m2 c2 : Nat) => (star_good (PX_good _ _ _ _ _ _ _) (star_good (RX_good _ _ _ _ _) g) : Good (star (PX bx bm R F G (y.next F d').d (h + 1)) (star (RX br bx bm (y.next F d').x (fun W => RdAcc W (hds ++ [.slice B2 m2 c2]) (acc ++ [r]))) Fr))))
      clear hr gR gX hle hd1 HS
      go_wp2_with (first
        | (go_at_call 54; (with_reducible refine CN.out.mono ?_); rintro e w2 ⟨B2, m2, c2, rfl, V⟩; have HO := Lib.hid (V.left.get fun S h => h.1); have V2 := Lib.hid V; clear V CN)
        | (at_builtin; refine wp_append1 (W := w2) 0 rfl (.tmp 37) (.tmp 39) 23 25 (.slice none 0 0) 1 24 rfl Tryz.underlying23 info_L rfl (by omega) (by omega) (.slice B k c) k _ [.slice B2 m2 c2] rfl rfl (by simp) rfl (by simp [Value.oneCell']) HO.out (by omega) (by omega) ?_; intro v1 w3 h3 t3 hor; obtain ⟨B3, c3, rfl⟩ := own_slice h3; have V3 := Lib.hid (HE.out _ _ _ _ _ (V2.out.grow (GX.out _ _ _) h3 t3 hor)); clear V2 HO h3 t3 hor HE GX))
      go_roundw
      case measure => simp [lenOf]; omega
      case rel => exact ⟨k + 1, _, _, _, _, _, _, by omega, by rfl, V3⟩
    | none =>
      have ez : z = ⟨(y.next F d').e, (y.next F d').d, (y.next F d').x, acc⟩ := by
        rw [HS.out.eqn, readS_none _ hr]
        simp
      have hl := HS.out.len
      have hop : (y.next F d').x.closed = false := by rw [next_closed]; exact HS.out.opn
      have gR : Good (star (rowR 25 1 (.slice B k c) k hds) Fr) := star_good (rowR_good _ _ _ _ _) g
      have CN := Lib.hid ((x_next_none gR HS.out.inn hd1 hr).mono fun (e : Ending) (w' : World) hh => show e = .returned (.tuple #[.slice none 0 0, .bool false, .int .i64 (y.next F d').e]) ∧ In w0 w' (star (PX bx bm R F G (y.next F d').d (h + 1)) (star (RX br bx bm (y.next F d').x (fun W => RdAcc W hds acc)) (star (rowR 25 1 (.slice B k c) k hds) Fr))) from hh)
      have CC := Lib.hid (fun W (V : In w0 W (star (PX bx bm R F G (y.next F d').d (h + 1)) (star (RX br bx bm (y.next F d').x (fun W => RdAcc W hds acc)) (star (rowR 25 1 (.slice B k c) k hds) Fr)))) => (xclose gR V).mono fun (e : Ending) (w' : World) hh => show e = .returned (.tuple #[]) ∧ In w0 w' (star (PX bx bm R F G (y.next F d').d h) (star (RX br bx bm (y.next F d').x.closeX (fun W => RdAcc W hds acc)) (star (rowR 25 1 (.slice B k c) k hds) Fr))) from by
        obtain ⟨h1, h3⟩ := hh
        have eh : (y.next F d').x.closeH (h + 1) = h := by unfold Rs.closeH; rw [if_neg (by rw [hop]; decide), giveH_up h0.out]
        rw [eh] at h3
        exact ⟨h1, h3⟩)
      by_cases he : (y.next F d').e = 0
      · have EF := Lib.hid (fun (w' : World) (V : In w0 w' (star (PX bx bm R F G (y.next F d').d h) (star (RX br bx bm (y.next F d').x.closeX (fun W => RdAcc W hds acc)) (star (rowR 25 1 (.slice B k c) k hds) Fr)))) => show YAllP bx bm R F G z h w0 Fr (.returned (.tuple #[.slice B k c, .int .i64 0])) w' from by
          unfold YAllP
          rw [ez]
          rw [if_neg (show ¬ (y.next F d').e ≠ 0 by simpa using he)]
          refine ⟨B, c, hds, by rw [hl], ?_⟩
          have h4 := yacc_rd V
          dsimp only
          rw [hl]
          exact h4)
        rw [he] at CN
        clear hr ez he hl hop gR hle hd1 HS
        go_wp2_with (first
          | (go_at_call 54; (with_reducible refine CN.out.mono ?_); rintro e w2 ⟨rfl, V⟩; have V2 := Lib.hid V; clear V CN)
          | (go_at_call 55; (with_reducible refine (CC.out _ V2.out).mono ?_); rintro e w3 ⟨rfl, V⟩; have V3 := Lib.hid (EF.out _ V); clear V CC EF))
        go_ret2
        exact V3.out
      · have EF := Lib.hid (fun (w' : World) (V : In w0 w' (star (PX bx bm R F G (y.next F d').d h) (star (RX br bx bm (y.next F d').x.closeX (fun W => RdAcc W hds acc)) (star (rowR 25 1 (.slice B k c) k hds) Fr)))) => show YAllP bx bm R F G z h w0 Fr (.returned (.tuple #[.slice none 0 0, .int .i64 (y.next F d').e])) w' from by
          unfold YAllP
          rw [ez]
          rw [if_pos (show (y.next F d').e ≠ 0 from he)]
          exact ⟨rfl, V.drop.drop⟩)
        have he1 : ((y.next F d').e != 0) = true := by simpa using he
        obtain ⟨E, hEE⟩ : ∃ E, E = (y.next F d').e := ⟨_, rfl⟩
        rw [← hEE] at CN he1 EF
        clear hr ez he hl hop gR hEE hle hd1 HS
        go_wp2_with (first
          | (go_at_call 54; (with_reducible refine CN.out.mono ?_); rintro e w2 ⟨rfl, V⟩; have V2 := Lib.hid V; clear V CN)
          | (go_at_call 55; (with_reducible refine (CC.out _ V2.out).mono ?_); rintro e w3 ⟨rfl, V⟩; have V3 := Lib.hid (EF.out _ V); clear V CC EF))
        go_ret2
        exact V3.out
end
end Go.Proofs.YtkbapoeilcapfaaGreat
