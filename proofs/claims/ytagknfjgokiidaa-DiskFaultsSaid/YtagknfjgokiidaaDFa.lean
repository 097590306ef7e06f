/- DiskFaults: the walk. -/
import Derived.Test.YtagknfjgokiidaaDO
import Derived.Test.YtagknfjgokiidaaDY
namespace Go.Proofs.Ytagknfjgokiidaa
open Go.RowKit Go.Maps
set_option linter.unusedVariables false
set_option linter.unusedSimpArgs false
set_option maxRecDepth 6000

def okN (F : List Int) : Nat → Nat
  | 0 => 0
  | i + 1 => okN F i + if F.contains ((i : Int) + 1) then 0 else 1
def dfS (F : List Int) (i : Nat) : Ds := ⟨1, i, 0, okN F i, okN F i, okN F i, [(1, List.replicate (okN F i) (rp 1))]⟩
theorem okN_le (F : List Int) : ∀ i, okN F i ≤ i
  | 0 => Nat.le_refl _
  | i + 1 => by
    unfold okN
    have := okN_le F i
    split <;> omega
theorem df_find (F : List Int) (i : Nat) : (dfS F i).find 1 = some (List.replicate (okN F i) (rp 1)) := by
  simp [Ds.find, dfS]
theorem df_E {F : List Int} {i : Nat} (hi : i ≤ 200) : (dfS F i).appE 16384 F 1 (rp 1) = if F.contains ((i : Int) + 1) then 50 else 0 := by
  have := okN_le F i
  unfold Ds.appE
  rw [if_neg (by rw [rp_len]; omega), df_find]
  dsimp only
  rw [if_neg (by unfold dfS; dsimp only; omega)]
  rfl
theorem df_S {F : List Int} {i : Nat} (hi : i ≤ 200) : (dfS F i).app 16384 F 1 (rp 1) = dfS F (i + 1) := by
  unfold Ds.app
  rw [df_E hi]
  cases h : F.contains ((i : Int) + 1) with
  | true =>
    rw [if_pos rfl, if_neg (by decide), if_pos rfl]
    have e : okN F (i + 1) = okN F i := by rw [okN, h]; simp
    unfold dfS Ds.deed_
    rw [e]
    simp
  | false =>
    have hx : (if (false = true) then (50 : Int) else 0) = 0 := rfl
    rw [hx, if_pos rfl]
    have e : okN F (i + 1) = okN F i + 1 := by rw [okN, h]; simp
    unfold dfS
    rw [e]
    dsimp only
    have e2 : addPg [((1 : Int), List.replicate (okN F i) (rp 1))] 1 (rp 1) = [(1, List.replicate (okN F i + 1) (rp 1))] := by
      simp [addPg, List.replicate_succ']
    rw [e2]
    congr 1
    omega
theorem df_K {F : List Int} : ∀ {i : Nat}, i ≤ 200 → DOk 16384 (dfS F i)
  | 0, _ => by
    have : dfS F 0 = Ds.new.create := by rw [j0.2]; rfl
    rw [this]
    exact (DOk.new (by decide) (by decide)).create
  | i + 1, h => by
    rw [← df_S (F := F) (by omega)]
    exact (df_K (by omega)).app 1 (rp_b (by decide))
theorem wrap_eq {x : Int} {i : Nat} (hx : (Lit.int .i64 x).wf = true) (hi : i ≤ 200) : (wrap64 (x - 1) == (i : Int)) = (x == (i : Int) + 1) := by
  simp [Lit.wf, IntKind.min, IntKind.max, IntKind.bits, IntKind.signed] at hx
  rw [Bool.eq_iff_iff]
  simp only [beq_iff_eq]
  unfold wrap64
  omega
def wantN (F : List Int) (k i : Nat) : Int := if (F.take k).contains ((i : Int) + 1) then 50 else 0
theorem want_step {F : List Int} {k i : Nat} {x : Int} (h : F[k]? = some x) : wantN F (k + 1) i = if x = (i : Int) + 1 then 50 else wantN F k i := by
  unfold wantN
  rw [List.take_add_one, h]
  simp only [Option.toList_some, List.contains_eq_mem, List.mem_append, List.mem_singleton]
  by_cases e : x = (i : Int) + 1
  · rw [if_pos e, if_pos (by simp [e])]
  · rw [if_neg e]
    have e' : ¬ ((i : Int) + 1 = x) := fun h => e h.symm
    simp [e']
theorem fieldWrites (a b c d : Int) (W : World) : (Instr.field 47 (.agg #[.int .i64 a, .int .i64 b, .int .i64 c, .int .i64 d]) 1).run Try.prog W = .ok (.int .i64 b) W := by kernel_rfl
theorem want_end {F : List Int} {n i : Nat} (h : F.length = n) : wantN F n i = if F.contains ((i : Int) + 1) then 50 else 0 := by
  unfold wantN
  rw [List.take_of_length_le (by omega)]
set_option maxHeartbeats 8000000 in
theorem DiskFaults.walk {w : World} (A : Option Addr) (k c : Nat) (F : List Int) (hr : RdI w A k F) (m : Int) (wm : (Lit.int .i64 m).wf = true) : Calls Try.prog 5 #[.slice A k c, .int .i64 m] w fun e w' => e = .returned (.bool true) ∧ Below w.heap.size w w' := by
  have HLv := Lib.hid dlives
  have hk := hr.2.1
  have C0 := Lib.hid (show Calls Try.prog 11 #[.int .i64 16384, .slice A k c] w fun e w' => ∃ bd, e = .returned (.tuple #[dp bd, .int .i64 0]) ∧ In w w' (star (DR bd 16384 F Ds.new) emp) from
    (dnew_yes (by decide) (by decide) hr).mono fun e w' ⟨bd, h1, h2⟩ => ⟨bd, h1, (In.start' (Below.refl _ _) h2).imp fun S => star_emp⟩)
  have HR := Lib.hid hr
  clear hr
  by_cases hbad : 100 < k ∨ m < 0 ∨ 200 < m
  · have hrest : ∀ (P : Prop), (100 < k → P) → (k ≤ 100 → m < 0 → P) → (k ≤ 100 → 0 ≤ m → 200 < m → P) → P := by
      intro P h1 h2 h3
      by_cases q1 : 100 < k
      · exact h1 q1
      · by_cases q2 : m < 0
        · exact h2 (by omega) q2
        · exact h3 (by omega) (by omega) (by omega)
    refine hrest _ (fun q1 => ?_) (fun q1 q2 => ?_) (fun q1 q2 q3 => ?_)
    all_goals
      clear hrest hbad
      first | (have q1' : (100 : Int) < k := by omega) | skip
      go_enter Try.func5, Try.ntmps5
      go_wp2_with (first
        | (go_at_call 11; (with_reducible refine C0.out.mono ?_); rintro e w1 ⟨bd, rfl, V⟩; have V0 := Lib.hid V; clear V C0)
        | (go_at_call 10; (with_reducible refine (HLv.out _).mono ?_); rintro e w2 ⟨rfl, b⟩; have V1 := Lib.hid (V0.out.below (star_good (DR_good _ _ _ _) emp_good) b); clear b V0)
        | (go_at_call 10; (with_reducible refine (HLv.out _).mono ?_); rintro e w3 ⟨rfl, b⟩; have V2 := Lib.hid (V1.out.below (star_good (DR_good _ _ _ _) emp_good) b); clear b V1))
      go_ret
      exact ⟨by trivial, V2.out.bel⟩
  · obtain ⟨N, rfl⟩ : ∃ N : Nat, m = (N : Int) := ⟨m.toNat, by omega⟩
    have hk1 : k ≤ 100 := by omega
    have hN : N ≤ 200 := by omega
    have d1 : decide ((100 : Int) < k) = false := by simp; omega
    have d2 : decide ((N : Int) < 0) = false := by simp
    have d3 : decide ((200 : Int) < N) = false := by simp; omega
    have C1 := Lib.hid (fun bd W (H : In w W (star (DR bd 16384 F Ds.new) emp)) => show Calls Try.prog 15 #[dp bd] W fun e w' => e = .returned (.tuple #[.int .i64 1, .int .i64 0]) ∧ In w w' (star (DR bd 16384 F (dfS F 0)) emp) from by
      have := v_create emp_good H (DOk.new (by decide) (by decide)) (by decide)
      rw [j0.1, j0.2] at this
      exact this)
    clear hbad wm
    go_enter Try.func5, Try.ntmps5
    go_wp2_with (first
      | (go_at_call 11; (with_reducible refine C0.out.mono ?_); rintro e w1 ⟨bd, rfl, V⟩; have V0 := Lib.hid V; clear V C0)
      | (go_at_call 10; (with_reducible refine (HLv.out _).mono ?_); rintro e w2 ⟨rfl, b⟩; have V1 := Lib.hid (V0.out.below (star_good (DR_good _ _ _ _) emp_good) b); clear b V0)
      | (go_at_call 15; (with_reducible refine (C1.out _ _ V1.out).mono ?_); rintro e w3 ⟨rfl, V⟩; have V2 := Lib.hid V; clear V V1 C1))
    go_loopw [9, 10] (fun d y wr => ∃ (i : Nat), i ≤ N ∧ y = .int .i64 (i : Int) ∧ d = .int .i64 (okN F i : Int) ∧ Hid (In w wr (star (DR bd 16384 F (dfS F i)) emp))) (fun _ y _ => N - (intOf y).toNat)
    case atStart => exact ⟨0, by omega, rfl, rfl, V2⟩
    case round =>
      clear V2
      obtain ⟨i, hi, rfl, rfl, V⟩ := hrel
      have hok := okN_le F i
      by_cases hlt : i < N
      · go_wp2
        go_loop [11, 12] (fun wt y => ∃ (j : Nat), j ≤ k ∧ y = .int .i64 (j : Int) ∧ ∃ v : Int, Hid (v = wantN F j i) ∧ wt = .int .i64 v) (fun _ y => k - (intOf y).toNat)
        case atStart => exact ⟨0, by omega, rfl, _, Lib.hid rfl, rfl⟩
        case round =>
          obtain ⟨j, hj, rfl, v, HV, rfl⟩ := hrel
          by_cases hjk : j < k
          · obtain ⟨x, hx⟩ : ∃ x, F[j]? = some x := ⟨_, List.getElem?_eq_getElem (by have := HR.out.1; omega)⟩
            obtain ⟨ad, rfl, had, hc⟩ := (HR.out.below V.out.bel).2.2.2 (by omega)
            have hcell := hc j x hx
            have hwx := HR.out.2.2.1 x (List.mem_of_getElem? hx)
            have hweq := wrap_eq (i := i) hwx (by omega)
            have HS := Lib.hid (want_step (i := i) hx)
            clear hc hx
            by_cases e : x = (i : Int) + 1
            · have he : (x == (i : Int) + 1) = true := by simpa using e
              rw [he] at hweq
              have HE := Lib.hid e
              clear e he
              go_wp2
              go_round
              case measure => simp [intOf]; omega
              case rel => exact ⟨j + 1, by omega, by go_num, 50, Lib.hid (by rw [HS.out, if_pos HE.out]), rfl⟩
            · have he : (x == (i : Int) + 1) = false := by simpa using e
              rw [he] at hweq
              have HE := Lib.hid e
              clear e he
              go_wp2
              go_round
              case measure => simp [intOf]; omega
              case rel => exact ⟨j + 1, by omega, by go_num, v, Lib.hid (by rw [HS.out, if_neg HE.out]; exact HV.out), rfl⟩
          · obtain rfl : j = k := by omega
            have hw0 := want_end (F := F) (i := i) HR.out.1
            have hE := df_E (F := F) (i := i) (by omega)
            have hS := df_S (F := F) (i := i) (by omega)
            have K := df_K (F := F) (i := i) (by omega)
            cases hb : F.contains ((i : Int) + 1) with
            | true =>
              rw [hb] at hw0 hE
              obtain rfl : v = 50 := by rw [HV.out, hw0]; rfl
              have HO := Lib.hid (show okN F (i + 1) = okN F i by rw [okN, hb]; simp)
              have CA := Lib.hid (fun W B H => v_put (w0 := w) (w := W) (bd := bd) (A := B) emp_good H K (by unfold dfS; dsimp only; omega) (by decide) ⟨hE, hS⟩)
              have CP := Lib.hid (v_page emp_good V.out 1)
              clear hw0 hE hS K hb HV V
              go_wp2_with (first
                | (go_at_call 17; (with_reducible refine CP.out.mono ?_); rintro e w4 ⟨rfl, V⟩; have V3 := Lib.hid V; clear V CP)
                | (go_at_call 16; (with_reducible refine (CA.out _ _ V3.out).mono ?_); rintro e w5 ⟨rfl, V⟩; have V4 := Lib.hid V; clear V V3))
              go_roundw
              case measure => simp [intOf]; omega
              case rel => exact ⟨i + 1, by omega, by go_num, by rw [HO.out], V4⟩
            | false =>
              rw [hb] at hw0 hE
              obtain rfl : v = 0 := by rw [HV.out, hw0]; rfl
              have HO := Lib.hid (show okN F (i + 1) = okN F i + 1 by rw [okN, hb]; simp)
              have CA := Lib.hid (fun W B H => v_put (w0 := w) (w := W) (bd := bd) (A := B) emp_good H K (by unfold dfS; dsimp only; omega) (by decide) ⟨hE, hS⟩)
              have CP := Lib.hid (v_page emp_good V.out 1)
              clear hw0 hE hS K hb HV V
              go_wp2_with (first
                | (go_at_call 17; (with_reducible refine CP.out.mono ?_); rintro e w4 ⟨rfl, V⟩; have V3 := Lib.hid V; clear V CP)
                | (go_at_call 16; (with_reducible refine (CA.out _ _ V3.out).mono ?_); rintro e w5 ⟨rfl, V⟩; have V4 := Lib.hid V; clear V V3))
              go_roundw
              case measure => simp [intOf]; omega
              case rel => exact ⟨i + 1, by omega, by go_num, by rw [HO.out]; go_num, V4⟩
      · obtain rfl : i = N := by omega
        have CM := Lib.hid (show Calls Try.prog 21 #[dp bd] wr fun e w' => e = .returned (.agg #[.int .i64 0, .int .i64 (okN F i), .int .i64 (okN F i), .int .i64 (okN F i)]) ∧ In w w' (star (DR bd 16384 F (dfS F i)) emp) from
          (v_meter emp_good V.out).mono fun e w' h => ⟨h.1, h.2.2⟩)
        have CD := Lib.hid (fun W (H : In w W (star (DR bd 16384 F (dfS F i)) emp)) => show Calls Try.prog 22 #[dp bd] W fun e w' => e = .returned (.int .i64 (i : Int)) ∧ w' = W from v_deeds emp_good H)
        have hfw := fieldWrites 0 (okN F i) (okN F i) (okN F i)
        clear V
        go_wp2_with (first
          | (go_at_call 21; (with_reducible refine CM.out.mono ?_); rintro e w6 ⟨rfl, V⟩; have V5 := Lib.hid V; clear V CM)
          | (go_at_call 22; (with_reducible refine (CD.out _ V5.out).mono ?_); rintro e w7 ⟨rfl, hw⟩; obtain rfl := hw.symm; clear hw CD))
        go_ret
        exact ⟨by trivial, V5.out.bel⟩
end Go.Proofs.Ytagknfjgokiidaa
