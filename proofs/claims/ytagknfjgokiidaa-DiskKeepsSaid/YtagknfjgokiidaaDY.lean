/- the disk: lives(). -/
import Derived.Test.YtagknfjgokiidaaDX
namespace Go.Proofs.Ytagknfjgokiidaa
open Go.RowKit Go.Maps
set_option linter.unusedVariables false
set_option linter.unusedSimpArgs false
set_option maxRecDepth 6000

def rp (c : Int) : Pg := List.replicate 256 c
abbrev z1 : Ds := ⟨1, 0, 0, 0, 0, 0, [(1, [])]⟩
abbrev z2 : Ds := ⟨1, 1, 0, 1, 1, 1, [(1, [rp 1])]⟩
abbrev z3 : Ds := ⟨1, 2, 0, 1, 1, 1, [(1, [rp 1])]⟩
abbrev z4 : Ds := ⟨1, 3, 0, 2, 2, 2, [(1, [rp 1, rp 3])]⟩
abbrev z5 : Ds := ⟨1, 4, 1, 2, 2, 2, [(1, [rp 1, rp 3])]⟩
abbrev z6 : Ds := ⟨1, 4, 1, 2, 0, 2, []⟩
abbrev z7 : Ds := ⟨2, 4, 1, 2, 0, 2, [(2, [])]⟩
theorem j0 : Ds.new.createE = 0 ∧ Ds.new.create = z1 := by decide +kernel
theorem j1 : z1.appE 2 [2] 1 (rp 1) = 0 ∧ z1.app 2 [2] 1 (rp 1) = z2 := by decide +kernel
theorem j2 : z2.appE 2 [2] 1 (rp 2) = 50 ∧ z2.app 2 [2] 1 (rp 2) = z3 := by decide +kernel
theorem j3 : z3.appE 2 [2] 1 (rp 3) = 0 ∧ z3.app 2 [2] 1 (rp 3) = z4 := by decide +kernel
theorem j4 : z4.appE 2 [2] 1 (rp 4) = 2 ∧ z4.app 2 [2] 1 (rp 4) = z4 := by decide +kernel
theorem j5 : z4.readE [2] 1 1 = 0 ∧ z4.read [2] 1 1 = z5 ∧ z4.readQ [2] 1 1 = rp 3 := by decide +kernel
theorem j6 : z5.find 1 = some [rp 1, rp 3] := by decide +kernel
theorem j7 : z5.delE 1 = 0 ∧ z5.del 1 = z6 := by decide +kernel
theorem j8 : z6.createE = 0 ∧ z6.create = z7 := by decide +kernel
theorem u1 : DOk 2 z1 := by rw [← j0.2]; exact (DOk.new (by decide) (by decide)).create
theorem rp_b {c : Int} (h : 0 ≤ c ∧ c ≤ 255) : ∀ b ∈ rp c, 0 ≤ b ∧ b ≤ 255 := fun b hb => by have e := List.eq_of_mem_replicate (show b ∈ List.replicate 256 c from hb); rw [e]; exact h
theorem u2 : DOk 2 z2 := by rw [← j1.2]; exact u1.app 1 (rp_b (by decide))
theorem u3 : DOk 2 z3 := by rw [← j2.2]; exact u2.app 1 (rp_b (by decide))
theorem u4 : DOk 2 z4 := by rw [← j3.2]; exact u3.app 1 (rp_b (by decide))
theorem u5 : DOk 2 z5 := by rw [← j5.2.1]; exact u4.read 1 1
theorem u6 : DOk 2 z6 := by rw [← j7.2]; exact u5.del 1
theorem u7 : DOk 2 z7 := by rw [← j8.2]; exact u6.create
theorem rp_len (c : Int) : (rp c).length = 256 := by unfold rp; simp
theorem rp_get (c : Int) {i : Nat} (h : i < 256) : (b8 (rp c))[i]? = some (.int .u8 c) := by
  show (List.map (Value.int .u8) (List.replicate 256 c))[i]? = _
  rw [List.map_replicate, List.getElem?_replicate, if_pos h]
theorem rdI2 (w : World) : RdI (w.alloc (.cells #[.int .i64 2] 3)) (some ⟨w.heap.size, 0, none⟩) 1 [2] := by
  refine ⟨rfl, by omega, by decide, fun _ => ⟨_, rfl, by simp, fun j x hx => ?_⟩⟩
  rcases j with _ | j
  · obtain rfl : (2 : Int) = x := by simpa using hx
    exact cell_of_blk (heap_alloc_new w _) 0
  · simp at hx
/-- A row that is there, by its cells. -/
theorem row_cell {w : World} {base : Nat} {e : TypeId} {A : Option Addr} {n c : Nat} {xs : List Value} (h : w.ownsRow base e 1 (.slice A n c) n xs) {j : Nat} {u : Value} (hu : xs[j]? = some u) : ∃ g, A = some ⟨g, 0, none⟩ ∧ w.cell? ⟨g, j, none⟩ = some u := by
  rcases h.2 with ⟨e1, e2⟩ | ⟨g, cap, cur, e1, hb, hg, hnc, hm, _⟩
  · have := (List.getElem?_eq_some_iff.1 hu).1
    have := h.1
    omega
  · injection e1 with e1 e3
    subst e1
    have := h.cells (g := g) rfl j u hu
    rw [Addr.add_mid, Nat.zero_add] at this
    exact ⟨g, rfl, this⟩
section
variable {w0 w : World} {bd : Nat} {Fr : Res} {R : Int} {F : List Int} {s : Ds}
theorem v_page (g : Good Fr) (H : In w0 w (star (DR bd R F s) Fr)) (c : Int) : Calls Try.prog 17 #[.int .u8 c] w fun e w' => e = .returned (.slice (some ⟨w.heap.size, 0, none⟩) 256 256) ∧ In w0 w' (star (DR bd R F s) (star (rowR 5 1 (.slice (some ⟨w.heap.size, 0, none⟩) 256 256) 256 (b8 (rp c))) Fr)) :=
  (page_walk w c).mono fun e w' h => ⟨h.1, H.push (star_good (DR_good _ _ _ _) g) h.2.2 h.2.1⟩
theorem v_put {A : Option Addr} {p : Pg} {n E : Int} {s' : Ds} (g : Good Fr) (H : In w0 w (star (DR bd R F s) (star (rowR 5 1 (.slice A 256 256) 256 (b8 p)) Fr))) (K : DOk R s) (hd : s.deeds ≤ 1000000000) (hw : (Lit.int .i64 n).wf = true) (h : s.appE R F n p = E ∧ s.app R F n p = s') :
    Calls Try.prog 16 #[dp bd, .int .i64 n, .slice A 256 256] w fun e w' => e = .returned (.int .i64 E) ∧ In w0 w' (star (DR bd R F s') Fr) := by
  refine (v_app g H K hd hw).mono ?_
  rintro e w' ⟨h1, h2⟩
  rw [h.1] at h1
  rw [h.2] at h2
  exact ⟨h1, h2.drop⟩
end
theorem fieldUsed (a b c d : Int) (W : World) : (Instr.field 47 (.agg #[.int .i64 a, .int .i64 b, .int .i64 c, .int .i64 d]) 2).run Try.prog W = .ok (.int .i64 c) W := by kernel_rfl
set_option maxHeartbeats 4000000 in
theorem dlives (w : World) : Calls Try.prog 10 #[] w fun e w' => e = .returned (.bool true) ∧ Below w.heap.size w w' := by
  have C0 := Lib.hid (show Calls Try.prog 11 #[.int .i64 2, .slice (some ⟨w.heap.size, 0, none⟩) 1 1] (w.alloc (.cells #[.int .i64 2] 3)) fun e w' => ∃ bd, e = .returned (.tuple #[dp bd, .int .i64 0]) ∧ In w w' (star (DR bd 2 [2] Ds.new) emp) from
    (dnew_yes (by decide) (by decide) (rdI2 w)).mono fun e w' ⟨bd, h1, h2⟩ => ⟨bd, h1, (In.start' ((Below.refl _ _).alloc (Nat.le_refl _) _) h2).imp fun S => star_emp⟩)
  have C1 := Lib.hid (fun bd W (H : In w W (star (DR bd 2 [2] Ds.new) emp)) => show Calls Try.prog 15 #[dp bd] W fun e w' => e = .returned (.tuple #[.int .i64 1, .int .i64 0]) ∧ In w w' (star (DR bd 2 [2] z1) emp) from by
    have := v_create emp_good H (DOk.new (by decide) (by decide)) (by decide)
    rw [j0.1, j0.2] at this
    exact this)
  have CP := Lib.hid (fun bd W s c (H : In w W (star (DR bd 2 [2] s) emp)) => v_page emp_good H c)
  have A1 := Lib.hid (fun bd W A H => v_put (w0 := w) (w := W) (bd := bd) (A := A) emp_good H u1 (by decide) (by decide) j1)
  have A2 := Lib.hid (fun bd W A H => v_put (w0 := w) (w := W) (bd := bd) (A := A) emp_good H u2 (by decide) (by decide) j2)
  have A3 := Lib.hid (fun bd W A H => v_put (w0 := w) (w := W) (bd := bd) (A := A) emp_good H u3 (by decide) (by decide) j3)
  have A4 := Lib.hid (fun bd W A H => v_put (w0 := w) (w := W) (bd := bd) (A := A) emp_good H u4 (by decide) (by decide) j4)
  have C2 := Lib.hid (fun bd W (H : In w W (star (DR bd 2 [2] z4) emp)) => show Calls Try.prog 20 #[dp bd, .int .i64 1, .int .i64 1] W fun e w' => ∃ g c, e = .returned (.tuple #[.slice (some ⟨g, 0, none⟩) 256 c, .int .i64 0]) ∧ In w w' (star (DR bd 2 [2] z5) (star (rowR 5 1 (.slice (some ⟨g, 0, none⟩) 256 c) 256 (b8 (rp 3))) emp)) from by
    refine (v_read emp_good H u4 (by decide) (by decide) (n := 1) (i := 1)).mono ?_
    rintro e w' ⟨⟨A, k, c⟩, h1, h2⟩
    rw [j5.1] at h1
    rw [j5.2.1, j5.2.2] at h2
    dsimp only at h1 h2
    have hk : k = 256 ∧ ∃ g, A = some ⟨g, 0, none⟩ := h2.right.left.get fun S ⟨h, _⟩ => by
      have h0 := h.1
      rw [List.length_map, rp_len] at h0
      obtain ⟨g, e, _⟩ := row_cell h (rp_get 3 (i := 0) (by decide))
      exact ⟨by omega, g, e⟩
    obtain ⟨rfl, g, rfl⟩ := hk
    exact ⟨g, c, h1, h2⟩)
  have C3 := Lib.hid (fun bd W X (g : Good X) (H : In w W (star (DR bd 2 [2] z5) X)) => show Calls Try.prog 19 #[dp bd, .int .i64 1] W fun e w' => e = .returned (.tuple #[.int .i64 2, .int .i64 0]) ∧ w' = W from by
    have := v_size g H (n := 1) (by decide)
    rw [j6] at this
    exact this)
  have C4 := Lib.hid (fun bd W X (g : Good X) (H : In w W (star (DR bd 2 [2] z5) X)) => show Calls Try.prog 21 #[dp bd] W fun e w' => e = .returned (.agg #[.int .i64 1, .int .i64 2, .int .i64 2, .int .i64 2]) ∧ In w (w'.alloc (.cells #[.int .i64 1, .int .i64 2, .int .i64 2, .int .i64 2] 47)) (star (DR bd 2 [2] z5) (star (blkR w'.heap.size (.cells #[.int .i64 1, .int .i64 2, .int .i64 2, .int .i64 2] 47)) X)) from
    (v_meter g H).mono fun e w' h => ⟨h.1, h.2.2.pushB (star_good (DR_good _ _ _ _) g) _⟩)
  have C5 := Lib.hid (fun bd W X (g : Good X) (H : In w W (star (DR bd 2 [2] z5) X)) => show Calls Try.prog 18 #[dp bd, .int .i64 1] W fun e w' => e = .returned (.int .i64 0) ∧ In w w' (star (DR bd 2 [2] z6) X) from by
    have := v_del g H u5 (n := 1) (by decide)
    rw [j7.1, j7.2] at this
    exact this)
  have C6 := Lib.hid (fun bd W X (g : Good X) (H : In w W (star (DR bd 2 [2] z6) X)) => show Calls Try.prog 15 #[dp bd] W fun e w' => e = .returned (.tuple #[.int .i64 2, .int .i64 0]) ∧ In w w' (star (DR bd 2 [2] z7) X) from by
    have := v_create g H u6 (by decide)
    rw [j8.1, j8.2] at this
    exact this)
  have C7 := Lib.hid (fun W => dnew_no (w := W) (g := -1) (A := none) (k := 0) (c := 0) (by decide))
  have C8 := Lib.hid (fun bd W X (g : Good X) (H : In w W (star (DR bd 2 [2] z7) X)) => show Calls Try.prog 22 #[dp bd] W fun e w' => e = .returned (.int .i64 4) ∧ w' = W from v_deeds g H)
  have C9 := Lib.hid (fun bd W X (g : Good X) (H : In w W (star (DR bd 2 [2] z7) X)) => show Calls Try.prog 23 #[dp bd] W fun e w' => ∃ A c Y, e = .returned (.slice A 1 c) ∧ Good Y ∧ In w w' (star (DR bd 2 [2] z7) Y) from
    (v_files g H u7).mono fun e w' ⟨A, c, h1, h2⟩ => ⟨A, c, _, h1, star_good (rowR_good _ _ _ _ _) g, h2⟩)
  have C10 := Lib.hid (fun bd W X (g : Good X) (H : In w W (star (DR bd 2 [2] z7) X)) => show Calls Try.prog 21 #[dp bd] W fun e w' => e = .returned (.agg #[.int .i64 1, .int .i64 2, .int .i64 0, .int .i64 2]) ∧ Below w.heap.size w w' from
    (v_meter g H).mono fun e w' h => ⟨h.1, h.2.2.bel⟩)
  have hfu := fieldUsed 1 2 0 2
  go_enter Try.func10, Try.ntmps10
  go_wp2_with (first
    | (go_at_call 11; (with_reducible refine C0.out.mono ?_); rintro e w1 ⟨bd, rfl, V⟩; have V0 := Lib.hid V; clear V C0)
    | (go_at_call 15; (with_reducible refine (C1.out _ _ V0.out).mono ?_); rintro e w2 ⟨rfl, V⟩; have V1 := Lib.hid V; clear V V0)
    | (go_at_call 17; (with_reducible refine (CP.out _ _ _ _ V1.out).mono ?_); rintro e w3 ⟨rfl, V⟩; have V2 := Lib.hid V; clear V V1)
    | (go_at_call 16; (with_reducible refine (A1.out _ _ _ V2.out).mono ?_); rintro e w4 ⟨rfl, V⟩; have V3 := Lib.hid V; clear V V2)
    | (go_at_call 17; (with_reducible refine (CP.out _ _ _ _ V3.out).mono ?_); rintro e w5 ⟨rfl, V⟩; have V4 := Lib.hid V; clear V V3)
    | (go_at_call 16; (with_reducible refine (A2.out _ _ _ V4.out).mono ?_); rintro e w6 ⟨rfl, V⟩; have V5 := Lib.hid V; clear V V4)
    | (go_at_call 17; (with_reducible refine (CP.out _ _ _ _ V5.out).mono ?_); rintro e w7 ⟨rfl, V⟩; have V6 := Lib.hid V; clear V V5)
    | (go_at_call 16; (with_reducible refine (A3.out _ _ _ V6.out).mono ?_); rintro e w8 ⟨rfl, V⟩; have V7 := Lib.hid V; clear V V6)
    | (go_at_call 17; (with_reducible refine (CP.out _ _ _ _ V7.out).mono ?_); rintro e w9 ⟨rfl, V⟩; have V8 := Lib.hid V; clear V V7)
    | (go_at_call 16; (with_reducible refine (A4.out _ _ _ V8.out).mono ?_); rintro e w10 ⟨rfl, V⟩; have V9 := Lib.hid V; clear V V8)
    | (go_at_call 20; (with_reducible refine (C2.out _ _ V9.out).mono ?_); rintro e w11 ⟨g3, c3, rfl, V⟩; have V10 := Lib.hid V; clear V V9)
    | (go_at_call 19; (with_reducible refine (C3.out _ _ _ (star_good (rowR_good _ _ _ _ _) emp_good) V10.out).mono ?_); rintro e w12 ⟨rfl, hw⟩; obtain rfl := hw.symm; clear hw C3)
    | (go_at_call 21; (with_reducible refine (C4.out _ _ _ (star_good (rowR_good _ _ _ _ _) emp_good) V10.out).mono ?_); rintro e w13 ⟨rfl, V⟩; have V11 := Lib.hid V; clear V V10)
    | (go_at_call 18; (with_reducible refine (C5.out _ _ _ (star_good (blkR_good _ _) (star_good (rowR_good _ _ _ _ _) emp_good)) V11.out).mono ?_); rintro e w14 ⟨rfl, V⟩; have V12 := Lib.hid V; clear V V11)
    | (go_at_call 15; (with_reducible refine (C6.out _ _ _ (star_good (blkR_good _ _) (star_good (rowR_good _ _ _ _ _) emp_good)) V12.out).mono ?_); rintro e w15 ⟨rfl, V⟩; have V13 := Lib.hid V; clear V V12; have hm := V13.out.right.left.get (fun S h => h.1); have m0 := cell_of_blk hm 0; have m1 := cell_of_blk hm 1; have m2 := cell_of_blk hm 2; have m3 := cell_of_blk hm 3; have m9 := V13.out.right.right.left.get (fun S h => row_cell h.1 (rp_get 3 (i := 9) (by decide))); obtain ⟨g4, hg4, m9⟩ := m9; injection hg4 with hg4; injection hg4 with hg4; subst hg4; clear hm)
    | (go_at_call 11; (with_reducible refine (C7.out _).mono ?_); rintro e w16 ⟨rfl, hw⟩; obtain rfl := hw.symm; clear hw C7)
    | (go_at_call 22; (with_reducible refine (C8.out _ _ _ (star_good (blkR_good _ _) (star_good (rowR_good _ _ _ _ _) emp_good)) V13.out).mono ?_); rintro e w17 ⟨rfl, hw⟩; obtain rfl := hw.symm; clear hw C8)
    | (go_at_call 23; (with_reducible refine (C9.out _ _ _ (star_good (blkR_good _ _) (star_good (rowR_good _ _ _ _ _) emp_good)) V13.out).mono ?_); rintro e w18 ⟨A5, c5, Y5, rfl, G5, V⟩; have V14 := Lib.hid V; clear V)
    | (go_at_call 21; (with_reducible refine (C10.out _ _ _ G5 V14.out).mono ?_); rintro e w19 ⟨rfl, b19⟩))
  go_ret
  exact ⟨by trivial, b19⟩
end Go.Proofs.Ytagknfjgokiidaa
