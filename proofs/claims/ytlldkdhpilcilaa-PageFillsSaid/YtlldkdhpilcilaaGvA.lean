/- the document's getValue. -/
import Derived.Test.YtlldkdhpilcilaaRgetA
import Derived.Laws.ResultCell
import Derived.RegionTactic
import Derived.BigRegion
namespace Go.Proofs.Ytlldkdhpilcilaa
open Go.RowKit
set_option linter.unusedVariables false
set_option linter.unusedSimpArgs false

theorem res_cell2 {P : Program} {fn : Func} {p u : Tmp} {ty : TypeId} (h : fn.results = #[.cell p ty, .tmp u]) (tmps : Array Value) (w : World) (g : Nat) (t : TypeId) (cs : Array Value) (fr : Nat × Nat) (d : TypeDesc)
    (hp : tmps.getD p undef = .pointer (some ⟨g, 0, none⟩)) (hg : w.heap[g]? = some (.cells cs t fr))
    (hu : P.underlying ty = some d) (hd : (match d with | .struct _ | .array _ _ => true | _ => false) = true) (hi : (P.info? ty).map (·.size) = some cs.size) {x : Value} (hx : tmps.getD u undef = x) :
    (results fn tmps).run P w = .ok (.tuple #[.agg cs, x]) w := by
  subst hx
  rw [results_cell_tmp h, hp]
  simp [asAddr, run_loadVar_row w g t ty cs fr d hg hu hd hi, Result.andThen]
/-- What getValue gives. -/
def GVPost (w : World) (bs : List Int) (e : Ending) (w' : World) : Prop :=
  ∃ (v : V) (m : Nat), e = .returned (.tuple #[v.val, .int .i64 m]) ∧ (∀ v' m', decV bs = some (v', m') → v = v' ∧ m = m') ∧ (decV bs = none → m = 0) ∧ Below w.heap.size w w'
theorem val_set {W : World} {r : Nat} {x0 x1 : Int} {s0 : ByteArray} (g : W.heap[r]? = some (vcs x0 x1 s0)) (k n : Int) (s : ByteArray) : (((W.setCell ⟨r, 0, none⟩ (.int .i64 k)).setCell ⟨r, 1, none⟩ (.int .i64 n)).setCell ⟨r, 2, none⟩ (.string s)).heap[r]? = some (.cells (V.mk k n s).val.cells 76 (0, 0)) := by
  have := blk_set (blk_set (blk_set g 0 (.int .i64 k)) 1 (.int .i64 n)) 2 (.string s)
  exact this
theorem val_below {w W : World} (b : Below w.heap.size w W) (k n : Int) (s : ByteArray) : Below w.heap.size w (((W.setCell ⟨w.heap.size, 0, none⟩ (.int .i64 k)).setCell ⟨w.heap.size, 1, none⟩ (.int .i64 n)).setCell ⟨w.heap.size, 2, none⟩ (.string s)) :=
  ((Turn.of_below b (fun _ => False)).setCell (.inr (Nat.le_refl _)) _ |>.setCell (.inr (Nat.le_refl _)) _ |>.setCell (.inr (Nat.le_refl _)) _).below (Nat.le_refl _) (fun _ h => h.elim)
theorem gv_fin {w w' : World} {bs : List Int} {v : V} {m : Nat} {a : Act} (hd : a.defers = []) (hp : a.tmps.getD 2 undef = .pointer (some ⟨w.heap.size, 0, none⟩)) (hx : a.tmps.getD 3 undef = .int .i64 m) (hg : w'.heap[w.heap.size]? = some (.cells v.val.cells 76 (0, 0)))
    (h1 : ∀ v' m', decV bs = some (v', m') → v = v' ∧ m = m') (h2 : decV bs = none → m = 0) (hw : Below w.heap.size w w') : bodyPost Try.prog Try.f68 (GVPost w bs) Exit.ret a w' :=
  ⟨hd, _, res_cell2 (p := 2) (u := 3) (ty := 76) rfl _ _ _ _ _ _ _ hp hg Try.underlying76 rfl (by kernel_rfl) hx, v, m, rfl, h1, h2, hw⟩
theorem gv_nil {w : World} {A : Option Addr} {c : Nat} : Calls Try.prog 68 #[.slice A 0 c] w (GVPost w []) := by
  go_enter Try.func68, Try.ntmps68
  go_wp2
  exact gv_fin (v := ⟨0, 0, ⟨#[]⟩⟩) (m := 0) rfl rfl rfl (heap_alloc_new w _) (fun v' m' h' => by cases h') (fun _ => rfl) ((Below.refl _ _).alloc (Nat.le_refl _) _)
theorem decV_raw {bs : List Int} {v : V} {m : Nat} (h : rawV bs = some (v, m)) : decV bs = if vOk v = true then some (v, m) else none := by
  unfold decV
  rw [h]
  cases hv : vOk v <;> simp [Option.filter, hv]
theorem decV_rnone {bs : List Int} (h : rawV bs = none) : decV bs = none := by
  unfold decV
  rw [h]
  rfl
theorem rd_head {w : World} {ad : Addr} {n : Nat} {k : Int} {t : List Int} (h : Rd1 w (some ad) n (u8s (k :: t))) : w.cell? ad = some (.int .u8 k) ∧ ad.block < w.heap.size ∧ t.length + 1 = n := by
  obtain ⟨ad', e, had, hc⟩ := h.at2 (k := 0) (by have := h.1; simp at this; omega)
  obtain rfl := Option.some.inj e
  exact ⟨by simpa [Addr.add] using hc, had, by simpa using h.1⟩
theorem rd_second {w : World} {ad : Addr} {n : Nat} {k y : Int} {t : List Int} (h : Rd1 w (some ad) n (u8s (k :: y :: t))) : w.cell? ⟨ad.block, ad.off + 1, none⟩ = some (.int .u8 y) := by
  obtain ⟨ad', e, had, hc⟩ := h.at2 (k := 1) (by have := h.1; simp at this; omega)
  obtain rfl := Option.some.inj e
  simpa [Addr.add] using hc
theorem gv_null {w : World} {ad : Addr} {n c : Nat} {t : List Int} (h : Rd1 w (some ad) n (u8s (0 :: t))) : Calls Try.prog 68 #[.slice (some ad) n c] w (GVPost w (0 :: t)) := by
  obtain ⟨c0, had, hn⟩ := rd_head h
  have HV := Lib.hid (show decV (0 :: t) = some (⟨0, 0, ⟨#[]⟩⟩, 1) from decV_enc ⟨0, 0, ⟨#[]⟩⟩ rfl t)
  clear h
  go_enter Try.func68, Try.ntmps68
  go_wp2
  exact gv_fin (v := ⟨0, 0, ⟨#[]⟩⟩) (m := 1) rfl rfl rfl (heap_alloc2_old w _ _) (fun v' m' h' => by rw [HV.out] at h'; cases h'; exact ⟨rfl, rfl⟩) (fun h' => by rw [HV.out] at h'; cases h') (((Below.refl _ _).alloc (Nat.le_refl _) _).alloc (by simp) _)
theorem gv_b1 {w : World} {ad : Addr} {n c : Nat}  (h : Rd1 w (some ad) n (u8s (1 :: [])))  : Calls Try.prog 68 #[.slice (some ad) n c] w (GVPost w (1 :: [])) := by
  obtain ⟨c0, had, hn⟩ := rd_head h
  have hn1 : n = 1 := by simpa using hn.symm
  subst hn1
  have HV := Lib.hid (show decV (1 :: []) = none from decV_rnone (by rfl))
  clear h
  go_enter Try.func68, Try.ntmps68
  go_wp2
  all_goals first
    | (exfalso; omega)
    | exact gv_fin (v := ⟨0, 0, ⟨#[]⟩⟩) (m := 0) rfl rfl rfl (heap_alloc2_old w _ _) (fun v' m' h' => by rw [HV.out] at h'; cases h') (fun _ => rfl) (((Below.refl _ _).alloc (Nat.le_refl _) _).alloc (by simp) _)
theorem gv_t1 {w : World} {ad : Addr} {n c : Nat}  (h : Rd1 w (some ad) n (u8s (3 :: [])))  : Calls Try.prog 68 #[.slice (some ad) n c] w (GVPost w (3 :: [])) := by
  obtain ⟨c0, had, hn⟩ := rd_head h
  have hn1 : n = 1 := by simpa using hn.symm
  subst hn1
  have HV := Lib.hid (show decV (3 :: []) = none from decV_rnone (by rfl))
  clear h
  go_enter Try.func68, Try.ntmps68
  go_wp2
  all_goals first
    | (exfalso; omega)
    | exact gv_fin (v := ⟨0, 0, ⟨#[]⟩⟩) (m := 0) rfl rfl rfl (heap_alloc2_old w _ _) (fun v' m' h' => by rw [HV.out] at h'; cases h') (fun _ => rfl) (((Below.refl _ _).alloc (Nat.le_refl _) _).alloc (by simp) _)
theorem gv_i7 {w : World} {ad : Addr} {n c : Nat} {t : List Int} (h : Rd1 w (some ad) n (u8s (2 :: t))) (hs : n < 8) : Calls Try.prog 68 #[.slice (some ad) n c] w (GVPost w (2 :: t)) := by
  obtain ⟨c0, had, hn⟩ := rd_head h
  have HV := Lib.hid (show decV (2 :: t) = none from decV_rnone (by show (if 7 ≤ t.length then _ else _) = _; rw [if_neg (by omega)]))
  clear h
  go_enter Try.func68, Try.ntmps68
  go_wp2
  all_goals first
    | (exfalso; omega)
    | exact gv_fin (v := ⟨0, 0, ⟨#[]⟩⟩) (m := 0) rfl rfl rfl (heap_alloc2_old w _ _) (fun v' m' h' => by rw [HV.out] at h'; cases h') (fun _ => rfl) (((Below.refl _ _).alloc (Nat.le_refl _) _).alloc (by simp) _)
theorem gv_ts {w : World} {ad : Addr} {n c : Nat} {y : Nat} {t : List Int} (h : Rd1 w (some ad) n (u8s (3 :: (y : Int) :: t))) (hs : n < 2 + y) (hy : y ≤ 255) : Calls Try.prog 68 #[.slice (some ad) n c] w (GVPost w (3 :: (y : Int) :: t)) := by
  obtain ⟨c0, had, hn⟩ := rd_head h
  have c1 := rd_second h
  have hn2 : 2 ≤ n := by simp at hn; omega
  have hn3 : ¬ (y : Int) ≤ n - 2 := by omega
  have hns := hn
  simp at hns
  have HV := Lib.hid (show decV (3 :: (y : Int) :: t) = none from decV_rnone (by show (if (y : Int).toNat ≤ t.length then _ else _) = _; rw [if_neg (by omega)]))
  clear h
  go_enter Try.func68, Try.ntmps68
  go_wp2
  all_goals first
    | (exfalso; omega)
    | exact gv_fin (v := ⟨0, 0, ⟨#[]⟩⟩) (m := 0) rfl rfl rfl (heap_alloc2_old w _ _) (fun v' m' h' => by rw [HV.out] at h'; cases h') (fun _ => rfl) (((Below.refl _ _).alloc (Nat.le_refl _) _).alloc (by simp) _)
theorem vcheckRef0 (k n : Int) (w : World) : Calls Try.prog 51 #[.agg #[.int .i64 k, .int .i64 n, .string ⟨#[]⟩]] w fun e w' => e = .returned (.bool (vOk ⟨k, n, ⟨#[]⟩⟩)) ∧ Below w.heap.size w w' := vcheckRef ⟨k, n, ⟨#[]⟩⟩ w (by
  have : (⟨#[]⟩ : ByteArray).size = 0 := rfl
  show (⟨#[]⟩ : ByteArray).size ≤ _
  omega)
theorem gv_bool {w : World} {ad : Addr} {n c y : Nat} {t : List Int} (h : Rd1 w (some ad) n (u8s (1 :: (y : Int) :: t))) (hy : y ≤ 255) : Calls Try.prog 68 #[.slice (some ad) n c] w (GVPost w (1 :: (y : Int) :: t)) := by
  obtain ⟨c0, had, hn⟩ := rd_head h
  have c1 := rd_second h
  have hn2 : 2 ≤ n := by simp at hn; omega
  obtain ⟨B, hB⟩ : ∃ B, B = vOk ⟨1, y, ⟨#[]⟩⟩ := ⟨_, rfl⟩
  have HV := Lib.hid (decV_raw (bs := 1 :: (y : Int) :: t) (v := ⟨1, y, ⟨#[]⟩⟩) (m := 2) rfl)
  have HC := fun W => vcheckRef0 1 y W
  rw [← hB] at HV HC
  have HC := Lib.hid HC
  clear h hB
  go_enter Try.func68, Try.ntmps68
  go_wp2_with (go_at_call 51; refine (HC.out _).mono ?_; rintro e w4 ⟨rfl, b4⟩; have g1 := Lib.hid (blk_below (heap_alloc2_old w _ _) b4 (by simp; omega)); have g2 := Lib.hid (blk_below (heap_alloc2_new w _ _) b4 (by simp)); have t4 := Lib.hid ((((Below.refl _ w).alloc (Nat.le_refl _) _).alloc (by simp) _).trans (b4.mono (by simp; omega))); obtain ⟨p0, p1, p2, p3, p4, p5⟩ := vcells g2.out; obtain ⟨r0, r1, r2, r3, r4, r5⟩ := vcells g1.out; have z1 := lt_of_heap g1.out; have z2 := lt_of_heap g2.out; cases B)
  · exact gv_fin (v := ⟨0, 0, ⟨#[]⟩⟩) (m := 0) rfl rfl rfl (val_set g1.out 0 0 ⟨#[]⟩) (fun v' m' h' => by rw [HV.out] at h'; cases h') (fun _ => rfl) (val_below t4.out _ _ _)
  · exact gv_fin (v := ⟨1, y, ⟨#[]⟩⟩) (m := 2) rfl rfl rfl (val_set g1.out 1 y ⟨#[]⟩) (fun v' m' h' => by rw [HV.out] at h'; cases h'; exact ⟨rfl, rfl⟩) (fun h' => by rw [HV.out] at h'; cases h') (val_below t4.out _ _ _)
theorem conv_slice {w : World} {A : Option Addr} {n c : Nat} {bs : List Int} (h : Rd1 w A n (u8s bs)) {w' : World} (b : Below w.heap.size w w') : (convert 23 9 (.slice A n c)).run Try.prog w' = .ok (.string (strOf bs)) w' := conv_rd (h.below b)
set_option maxRecDepth 3000 in
theorem gv_text {w : World} {ad : Addr} {n c y : Nat} {t : List Int} (h : Rd1 w (some ad) n (u8s (3 :: (y : Int) :: t))) (hs : 2 + y ≤ n) (hy : y ≤ 255) (hnc : n ≤ c) : Calls Try.prog 68 #[.slice (some ad) n c] w (GVPost w (3 :: (y : Int) :: t)) := by
  obtain ⟨c0, had, hn⟩ := rd_head h
  have c1 := rd_second h
  have hn2 : 2 ≤ n := by omega
  have hn3 : (y : Int) ≤ n - 2 := by omega
  have hc2 : 2 ≤ c := by omega
  have hcy : 2 + y ≤ c := by omega
  have hn5 : n ≤ 9223372036854775807 := h.2.1
  obtain ⟨s, hss⟩ : ∃ s, s = strOf (t.take y) := ⟨_, rfl⟩
  have hsz : s.size ≤ 9223372036854775807 := by rw [hss, strOf_size, List.length_take]; omega
  obtain ⟨B, hB⟩ : ∃ B, B = vOk ⟨3, 0, s⟩ := ⟨_, rfl⟩
  have HV := Lib.hid (decV_raw (bs := 3 :: (y : Int) :: t) (v := ⟨3, 0, s⟩) (m := 2 + y) (by show (if (y : Int).toNat ≤ t.length then _ else _) = _; simp at hn; rw [if_pos (by omega), Int.toNat_natCast, ← hss]))
  have HC := fun W => vcheckRef ⟨3, 0, s⟩ W hsz
  unfold CPost at HC
  rw [← hB] at HV HC
  have HC := Lib.hid HC
  have b2 : Below w.heap.size w ((w.alloc (vcs 0 0 ⟨#[]⟩)).alloc (vcs 3 0 ⟨#[]⟩)) := ((Below.refl _ w).alloc (Nat.le_refl _) _).alloc (by simp) _
  have hr2 : Rd1 w (some ⟨ad.block, ad.off + 2, none⟩) y (u8s (t.take y)) := by
    have := (h.drop (h := 2) hn2).take (h := y) (by omega)
    simpa [Addr.add, List.map_take] using this
  have hconv := conv_slice (c := c - 2) hr2 b2
  rw [← hss] at hconv
  have hconv0 : c = 2 → (convert 23 9 (.slice (some ad) 0 0)).run Try.prog ((w.alloc (vcs 0 0 ⟨#[]⟩)).alloc (vcs 3 0 ⟨#[]⟩)) = .ok (.string s) ((w.alloc (vcs 0 0 ⟨#[]⟩)).alloc (vcs 3 0 ⟨#[]⟩)) := by
    intro hc
    obtain rfl : y = 0 := by omega
    have hr0 : Rd1 w (some ad) 0 (u8s (t.take 0)) := ⟨rfl, by omega, fun h => absurd h (by omega)⟩
    have := conv_slice (c := 0) hr0 b2
    rwa [← hss] at this
  clear h hB hss hn hr2 b2
  go_enter Try.func68, Try.ntmps68
  by_cases hc : c = 2
  · have hq := hconv0 hc
    clear hconv0 hconv
    subst hc
    go_wp2_with (go_at_call 51; refine (HC.out _).mono ?_; rintro e w4 ⟨rfl, b4⟩; have g1 := Lib.hid (blk_below (heap_alloc2_old w _ _) b4 (by simp; omega)); have g2 := Lib.hid (blk_below (heap_alloc2_new w _ _) b4 (by simp)); have t4 := Lib.hid ((((Below.refl _ w).alloc (Nat.le_refl _) _).alloc (by simp) _).trans (b4.mono (by simp; omega))); obtain ⟨p0, p1, p2, p3, p4, p5⟩ := vcells g2.out; obtain ⟨r0, r1, r2, r3, r4, r5⟩ := vcells g1.out; have z1 := lt_of_heap g1.out; have z2 := lt_of_heap g2.out; cases B)
    · exact gv_fin (v := ⟨0, 0, ⟨#[]⟩⟩) (m := 0) rfl rfl rfl (val_set g1.out 0 0 ⟨#[]⟩) (fun v' m' h' => by rw [HV.out] at h'; cases h') (fun _ => rfl) (val_below t4.out _ _ _)
    · exact gv_fin (v := ⟨3, 0, s⟩) (m := 2 + y) rfl rfl rfl (val_set g1.out 3 0 s) (fun v' m' h' => by rw [HV.out] at h'; cases h'; exact ⟨rfl, rfl⟩) (fun h' => by rw [HV.out] at h'; cases h') (val_below t4.out _ _ _)
  · clear hconv0
    go_wp2_with (go_at_call 51; refine (HC.out _).mono ?_; rintro e w4 ⟨rfl, b4⟩; have g1 := Lib.hid (blk_below (heap_alloc2_old w _ _) b4 (by simp; omega)); have g2 := Lib.hid (blk_below (heap_alloc2_new w _ _) b4 (by simp)); have t4 := Lib.hid ((((Below.refl _ w).alloc (Nat.le_refl _) _).alloc (by simp) _).trans (b4.mono (by simp; omega))); obtain ⟨p0, p1, p2, p3, p4, p5⟩ := vcells g2.out; obtain ⟨r0, r1, r2, r3, r4, r5⟩ := vcells g1.out; have z1 := lt_of_heap g1.out; have z2 := lt_of_heap g2.out; cases B)
    · exact gv_fin (v := ⟨0, 0, ⟨#[]⟩⟩) (m := 0) rfl rfl rfl (val_set g1.out 0 0 ⟨#[]⟩) (fun v' m' h' => by rw [HV.out] at h'; cases h') (fun _ => rfl) (val_below t4.out _ _ _)
    · exact gv_fin (v := ⟨3, 0, s⟩) (m := 2 + y) rfl rfl rfl (val_set g1.out 3 0 s) (fun v' m' h' => by rw [HV.out] at h'; cases h'; exact ⟨rfl, rfl⟩) (fun h' => by rw [HV.out] at h'; cases h') (val_below t4.out _ _ _)
end Go.Proofs.Ytlldkdhpilcilaa
namespace Go.Proofs.Ytlldkdhpilcilaa
open Go.RowKit
set_option linter.unusedVariables false
set_option linter.unusedSimpArgs false

theorem gv_other {w : World} {ad : Addr} {n c k : Nat} {t : List Int} (h : Rd1 w (some ad) n (u8s ((k : Int) :: t))) (hk : 4 ≤ k) (hk5 : k ≤ 255) : Calls Try.prog 68 #[.slice (some ad) n c] w (GVPost w ((k : Int) :: t)) := by
  obtain ⟨c0, had, hn⟩ := rd_head h
  have HV := Lib.hid (show decV ((k : Int) :: t) = none by
    rw [decV_raw (v := ⟨k, 0, ⟨#[]⟩⟩) (m := 1) (by show (if (k : Int) = 1 then _ else if (k : Int) = 2 then _ else if (k : Int) = 3 then _ else _) = _; rw [if_neg (by omega), if_neg (by omega), if_neg (by omega)])]
    rw [if_neg]
    unfold vOk
    intro h
    have h := of_decide_eq_true h
    simp only at h
    omega)
  clear h
  go_enter Try.func68, Try.ntmps68
  go_wp2
  all_goals first
    | (exfalso; omega)
    | exact gv_fin (v := ⟨0, 0, ⟨#[]⟩⟩) (m := 0) rfl rfl rfl (heap_alloc2_old w _ _) (fun v' m' h' => by rw [HV.out] at h'; cases h') (fun _ => rfl) (((Below.refl _ _).alloc (Nat.le_refl _) _).alloc (by simp) _)
set_option maxRecDepth 3000 in
theorem gv_int {w : World} {ad : Addr} {n c : Nat} {t : List Int} (h : Rd1 w (some ad) n (u8s (2 :: t))) (hb : isB t) (hs : 8 ≤ n) : Calls Try.prog 68 #[.slice (some ad) n c] w (GVPost w (2 :: t)) := by
  obtain ⟨c0, had, hn⟩ := rd_head h
  have hn5 : n ≤ 9223372036854775807 := h.2.1
  obtain ⟨v, hv⟩ : ∃ v, v = bigE (t.take 7) - 9007199254740992 := ⟨_, rfl⟩
  obtain ⟨B, hB⟩ : ∃ B, B = vOk ⟨2, v, ⟨#[]⟩⟩ := ⟨_, rfl⟩
  have HV := Lib.hid (decV_raw (bs := 2 :: t) (v := ⟨2, v, ⟨#[]⟩⟩) (m := 8) (by show (if 7 ≤ t.length then _ else _) = _; rw [if_pos (by omega), ← hv]))
  have HC := fun W => vcheckRef0 2 v W
  rw [← hB] at HV HC
  have HC := Lib.hid HC
  have HH := Lib.hid (And.intro h (And.intro hb hv))
  have b2 := Lib.hid (((Below.refl w.heap.size w).alloc (Nat.le_refl _) (vcs 0 0 ⟨#[]⟩)).alloc (by simp) (vcs 2 0 ⟨#[]⟩))
  have hnt : 7 ≤ t.length := by omega
  clear h hB hb hv hn
  go_enter Try.func68, Try.ntmps68
  go_wp2
  go_loopw [6] (fun i wr => ∃ j k : Nat, j = k + 1 ∧ k ≤ 7 ∧ i = .int .i64 j ∧ wr.heap[w.heap.size + 1]? = some (vcs 2 (bigE (t.take k)) ⟨#[]⟩) ∧ wr.heap[w.heap.size]? = some (vcs 0 0 ⟨#[]⟩) ∧ Below w.heap.size w wr) (fun i _ => 8 - (intOf i).toNat)
  case atStart => exact ⟨1, 0, rfl, by omega, rfl, heap_alloc2_new w _ _, heap_alloc2_old w _ _, b2.out⟩
  case round =>
    obtain ⟨j, k, hj, hk, rfl, gq, gr, bel⟩ := hrel
    obtain ⟨p0, p1, p2, p3, p4, p5⟩ := vcells gq
    obtain ⟨r0, r1, r2, r3, r4, r5⟩ := vcells gr
    have z1 := lt_of_heap gq
    have z2 := lt_of_heap gr
    have G := Lib.hid (And.intro gq (And.intro gr bel))
    by_cases hlt : k < 7
    · obtain ⟨ad', e, _, hc⟩ := (HH.out.1.below bel).at2 (k := j) (by omega)
      obtain rfl := Option.some.inj e
      have hl : k < t.length := by omega
      have hc2 : wr.cell? (ad.add j) = some (.int .u8 (t.getD k 0)) := by
        rw [hc, hj, getD_map 0 (show k + 1 < (2 :: t).length by simp; omega)]
        rfl
      have B := bigE_rng k t HH.out.2.1
      have D := getD_isB HH.out.2.1 k
      have E := Lib.hid (bigE_snoc hl)
      obtain ⟨z, hz⟩ : ∃ z, z = bigE (t.take k) := ⟨_, rfl⟩
      obtain ⟨y, hy⟩ : ∃ y, y = t.getD k 0 := ⟨_, rfl⟩
      rw [← hz] at B E p1
      rw [← hy] at D hc2 E
      have hz6 : z < 281474976710656 := by have B := B.2; rcases (show k = 0 ∨ k = 1 ∨ k = 2 ∨ k = 3 ∨ k = 4 ∨ k = 5 ∨ k = 6 by omega) with rfl | rfl | rfl | rfl | rfl | rfl | rfl <;> omega
      have hz0 := B.1
      have hj8 : j < 8 := by omega
      have HJ := Lib.hid hj
      have HZ := Lib.hid hz
      have hj0 : (j : Int) < n := by omega
      have HK := Lib.hid (show k + 1 ≤ 7 by omega)
      clear hz hy B hc e gq gr bel hl hj hlt
      go_wp2
      go_region
      all_goals go_wp2
      go_roundw
      case rel =>
        refine ⟨j + 1, k + 1, by have := HJ.out; omega, HK.out, by go_num, ?_, ?_, ?_⟩
        · have h1 := blk_set G.out.1 1 (.int .i64 (256 * z + y))
          rw [E.out, show z * 256 + y = 256 * z + y by omega]
          exact h1
        · exact blk_far G.out.2.1 (p := ⟨w.heap.size + 1, 1, none⟩) (by simp) _
        · exact below_drew (G.out.2.2.setCell (by simp) _)
      case measure => simp [intOf]; omega
    · obtain rfl : k = 7 := by omega
      have B7 := bigE_rng 7 t HH.out.2.1
      have hz : bigE (t.take 7) = v + 9007199254740992 := by have := HH.out.2.2; omega
      rw [hz] at B7 p1
      have v0 := B7.1
      have v1 : v + 9007199254740992 < 72057594037927936 := B7.2
      have hj8 : ¬ j < 8 := by omega
      have HJ := Lib.hid hj
      clear B7 hz gq gr bel hlt hk hj
      go_wp2_with (go_at_call 51; refine (HC.out _).mono ?_; rintro e w4 ⟨rfl, b4⟩; have g1 := Lib.hid (blk_below (blk_far G.out.2.1 (p := ⟨w.heap.size + 1, 1, none⟩) (by simp) _) b4 (lt_of_heap (blk_far G.out.2.1 (p := ⟨w.heap.size + 1, 1, none⟩) (by simp) _))); have g2 := Lib.hid (blk_below (blk_set G.out.1 1 _) b4 (lt_of_heap (blk_set G.out.1 1 _))); have t4 := Lib.hid ((G.out.2.2.setCell (p := ⟨w.heap.size + 1, 1, none⟩) (by simp) (.int .i64 v)).trans (b4.mono (G.out.2.2.setCell (p := ⟨w.heap.size + 1, 1, none⟩) (by simp) (.int .i64 v)).size)); obtain ⟨p0, p1, p2, p3, p4, p5⟩ := vcells g2.out; obtain ⟨r0, r1, r2, r3, r4, r5⟩ := vcells g1.out; have z1 := lt_of_heap g1.out; have z2 := lt_of_heap g2.out; cases B)
      · exact gv_fin (v := ⟨0, 0, ⟨#[]⟩⟩) (m := 0) rfl rfl rfl (val_set g1.out 0 0 ⟨#[]⟩) (fun v' m' h' => by rw [HV.out] at h'; cases h') (fun _ => rfl) (val_below t4.out _ _ _)
      · exact gv_fin (v := ⟨2, v, ⟨#[]⟩⟩) (m := 8) rfl rfl rfl (val_set g1.out 2 v ⟨#[]⟩) (fun v' m' h' => by rw [HV.out] at h'; cases h'; exact ⟨rfl, rfl⟩) (fun h' => by rw [HV.out] at h'; cases h') (val_below t4.out _ _ _)
theorem gv_walk {w : World} {ad : Addr} {n c : Nat} {bs : List Int} (h : Rd1 w (some ad) n (u8s bs)) (hb : isB bs) (hnc : n ≤ c) : Calls Try.prog 68 #[.slice (some ad) n c] w (GVPost w bs) := by
  match bs, h, hb with
  | [], h, _ =>
    obtain rfl : n = 0 := by simpa using h.1.symm
    exact gv_nil
  | k :: t, h, hb =>
    have hk := hb k (by simp)
    obtain ⟨k, rfl⟩ : ∃ j : Nat, k = j := ⟨k.toNat, by omega⟩
    have hn := (rd_head h).2.2
    have ht : isB t := fun y hy => hb y (by simp [hy])
    rcases Nat.lt_or_ge k 4 with h4 | h4
    · rcases (show k = 0 ∨ k = 1 ∨ k = 2 ∨ k = 3 by omega) with rfl | rfl | rfl | rfl
      · exact gv_null h
      · match t, h, ht with
        | [], h, _ => exact gv_b1 h
        | y :: t, h, ht =>
          have hy := ht y (by simp)
          obtain ⟨y, rfl⟩ : ∃ j : Nat, y = j := ⟨y.toNat, by omega⟩
          exact gv_bool h (by omega)
      · by_cases h8 : n < 8
        · exact gv_i7 h h8
        · exact gv_int h ht (by omega)
      · match t, h, ht with
        | [], h, _ => exact gv_t1 h
        | y :: t, h, ht =>
          have hy := ht y (by simp)
          obtain ⟨y, rfl⟩ : ∃ j : Nat, y = j := ⟨y.toNat, by omega⟩
          by_cases hs : n < 2 + y
          · exact gv_ts h hs (by omega)
          · exact gv_text h (by omega) (by omega) hnc
    · exact gv_other h h4 (by omega)
end Go.Proofs.Ytlldkdhpilcilaa
namespace Go.Proofs.Ytlldkdhpilcilaa
open Go.RowKit
set_option linter.unusedVariables false
set_option linter.unusedSimpArgs false

theorem decA_succ (bs : List Int) (k a : Nat) (acc : List V) : decA bs (k + 1) a acc = match decV (bs.drop a) with
    | none => none
    | some (v, m) => decA bs k (a + m) (acc ++ [v]) := rfl
theorem gv_walk2 {w : World} {ad : Addr} {n c : Nat} {bs : List Int} (h : Rd1 w (some ad) n (u8s bs)) (hb : isB bs) (hnc : n ≤ c) :
    Calls Try.prog 68 #[.slice (some ad) n c] w fun e w' => ∃ (k x : Int) (s : ByteArray) (m : Nat), e = .returned (.tuple #[.agg #[.int .i64 k, .int .i64 x, .string s], .int .i64 m]) ∧ (∀ v' m', decV bs = some (v', m') → V.mk k x s = v' ∧ m = m') ∧ (decV bs = none → m = 0) ∧ Below w.heap.size w w' := by
  refine (gv_walk h hb hnc).mono ?_
  rintro e w' ⟨⟨k, x, s⟩, m, rfl, h1, h2, h3⟩
  exact ⟨k, x, s, m, rfl, h1, h2, h3⟩
def RGetP (w : World) (o : Option (List V × Nat)) (e : Ending) (w' : World) : Prop :=
  (match o with
  | some (r, m) => ∃ v', e = .returned (.tuple #[v', .int .i64 m, .bool true]) ∧ w'.ownsRow w.heap.size 76 3 v' r.length (cellsR r)
  | none => e = .returned (.tuple #[.slice none 0 0, .int .i64 0, .bool false])) ∧ Below w.heap.size w w'
def RGetPost (w : World) (bs : List Int) : Ending → World → Prop := RGetP w (decR bs)
theorem rget_nil {w : World} {A : Option Addr} {c : Nat} : Calls Try.prog 58 #[.slice A 0 c] w (RGetPost w []) := by
  go_enter Try.func58, Try.ntmps58
  go_wp2
  go_ret3
  exact ⟨rfl, Below.refl _ _⟩
theorem rget_big {w : World} {ad : Addr} {n c k : Nat} {t : List Int} (h : Rd1 w (some ad) n (u8s ((k : Int) :: t))) (hk : 32 < k) (hk5 : k ≤ 255) : Calls Try.prog 58 #[.slice (some ad) n c] w (RGetPost w ((k : Int) :: t)) := by
  obtain ⟨c0, had, hn⟩ := rd_head h
  have HV := Lib.hid (show decR ((k : Int) :: t) = none by
    show (if (k : Int) ≤ 32 then _ else _) = _
    rw [if_neg (by omega)])
  clear h
  go_enter Try.func58, Try.ntmps58
  go_wp2
  go_ret3
  unfold RGetPost
  rw [HV.out]
  exact ⟨rfl, Below.refl _ _⟩
theorem rget_ok {w : World} {ad : Addr} {n c k : Nat} {t : List Int} (h : Rd1 w (some ad) n (u8s ((k : Int) :: t))) (hb : isB ((k : Int) :: t)) (hk : k ≤ 32) (hnc : n ≤ c) (hn5 : n ≤ 100000) (hc5 : c ≤ 9223372036854775807) : Calls Try.prog 58 #[.slice (some ad) n c] w (RGetPost w ((k : Int) :: t)) := by
  obtain ⟨c0, had, hn⟩ := rd_head h
  obtain ⟨bs, hbs⟩ : ∃ bs, bs = (k : Int) :: t := ⟨_, rfl⟩
  have hd : decR ((k : Int) :: t) = decA bs k 1 [] := by
    rw [hbs]
    show (if (k : Int) ≤ 32 then _ else _) = _
    rw [if_pos (by omega), Int.toNat_natCast]
  unfold RGetPost
  rw [hd]
  rw [← hbs] at h hb
  have hbl : bs.length = n := by simpa using h.1
  have HH := Lib.hid (And.intro h (And.intro hb hbl))
  have hn1 : 1 ≤ n := by omega
  clear h hb hd hbs hn hbl
  go_enter Try.func58, Try.ntmps58
  have hg : ((n : Int) == 0 || decide ((32 : Int) < (k : Int))) = false := by simp; omega
  go_wp2
  clear hg
  go_loopw [5, 6, 7] (fun p o i wr => ∃ (j a : Nat) (r : List V), j ≤ k ∧ a ≤ n ∧ p = .int .i64 a ∧ i = .int .i64 j ∧ r.length = j ∧ decA bs k 1 [] = decA bs (k - j) a r ∧ wr.ownsRow w.heap.size 76 3 o j (cellsR r) ∧ Below w.heap.size w wr) (fun _ _ i _ => k - (intOf i).toNat)
  case atStart => exact ⟨0, 1, [], by omega, hn1, rfl, rfl, rfl, rfl, World.ownsRow_nil _ _ _ _, Below.refl _ _⟩
  case round =>
    obtain ⟨j, a, r, hj, ha, rfl, rfl, hrl, hdec, ho, bel⟩ := hrel
    have c0 := (bel.cell had).trans c0
    obtain ⟨A3, c3, rfl⟩ := own_slice ho
    have szr := bel.size
    by_cases hlt : j < k
    · have hst : decA bs (k - j) a r = decA bs (k - (j + 1) + 1) a r := by rw [show k - j = k - (j + 1) + 1 by omega]
      rw [hst, decA_succ] at hdec
      by_cases hca : c = a
      · obtain rfl := hca
        obtain rfl : c = n := by omega
        have hdn : bs.drop c = [] := List.drop_eq_nil_iff.2 (by rw [HH.out.2.2]; omega)
        rw [hdn] at hdec
        have HD := Lib.hid (show decA bs k 1 [] = none from hdec)
        have G := Lib.hid (And.intro ho bel)
        have HG := Lib.hid (gv_nil (w := wr) (A := some ad) (c := 0))
        clear ho bel hst hdec
        go_wp2_with (go_at_call 68; refine HG.out.mono ?_; rintro e w2 ⟨⟨vk, vn, vs⟩, m, he, h1, h2, b2⟩; dsimp only [V.val] at he; subst he; obtain rfl := h2 rfl; clear h1 h2)
        go_ret3
        rw [HD.out]
        exact ⟨rfl, (G.out.2.trans (b2.mono szr)).alloc (Nat.le_trans szr b2.size) _⟩
      · have R2 : Rd1 wr (some (ad.add a)) (n - a) (u8s (bs.drop a)) := by
          have := (HH.out.1.below bel).drop (h := a) ha
          rwa [← List.map_drop] at this
        have HG := Lib.hid (gv_walk2 (c := c - a) R2 (HH.out.2.1.drop a) (by omega))
        have G := Lib.hid (And.intro ho bel)
        clear R2 ho bel hst
        cases hd : decV (bs.drop a) with
        | none =>
          rw [hd] at hdec
          have HD := Lib.hid (And.intro (show decA bs k 1 [] = none from hdec) hd)
          clear hdec hd
          go_wp2_with (go_at_call 68; refine HG.out.mono ?_; rintro e w2 ⟨vk, vn, vs, m, rfl, h1, h2, b2⟩; obtain rfl := h2 HD.out.2; clear h1 h2)
          go_ret3
          rw [HD.out.1]
          exact ⟨rfl, (G.out.2.trans (b2.mono szr)).alloc (Nat.le_trans szr b2.size) _⟩
        | some x =>
          obtain ⟨v, m⟩ := x
          rw [hd] at hdec
          have S := decV_sound (HH.out.2.1.drop a) hd
          have hm : 1 ≤ m := by rw [S.2.2.1]; exact encV_pos v
          have hm2 : a + m ≤ n := by have := S.2.2.2; rw [List.length_drop, HH.out.2.2] at this; omega
          have HD := Lib.hid (And.intro (show decA bs k 1 [] = decA bs (k - (j + 1)) (a + m) (r ++ [v]) from hdec) (And.intro hd hrl))
          clear hdec hd S hrl
          go_wp2_with (first
            | (go_at_call 68; refine HG.out.mono ?_; rintro e w2 ⟨vk, vn, vs, m', rfl, h1, _, b2⟩; obtain ⟨hv, rfl⟩ := h1 _ _ HD.out.2.1; have HV := Lib.hid hv; have h2 := own_below G.out.1 b2; have s2 := Nat.le_trans szr b2.size; have B2 := Lib.hid (G.out.2.trans (b2.mono szr)); clear h1 hv b2)
            | (at_builtin; refine wp_append1 (W := w2.alloc (vcs vk vn vs)) w.heap.size rfl (.tmp 36) (.tmp 38) 24 76 (.agg #[.int .i64 0, .int .i64 0, .string ⟨#[]⟩]) 3 32 rfl Try.underlying24 info_V rfl (by omega) (by omega) (.slice A3 j c3) j _ [.int .i64 vk, .int .i64 vn, .string vs] rfl rfl (by simp) rfl (by simp [Value.oneCell']) (h2.alloc _) (by simp; omega) (by omega) ?_; intro v1 w3 h3 t3 _))
          have B3 := below_turn (B2.out.alloc s2 (vcs vk vn vs)) t3 (by simp; omega) (fun i hi => own_ge h2 hi)
          go_roundw
          case rel =>
            refine ⟨j + 1, a + m', _, by omega, hm2, by go_num, by go_num, ?_, HD.out.1, ?_, B3⟩
            · have := HD.out.2.2
              simp [this]
            · rw [← HV.out, cellsR_snoc]
              exact h3
          case measure => simp [intOf]; omega
    · obtain rfl : j = k := by omega
      rw [Nat.sub_self] at hdec
      have G := Lib.hid (And.intro ho (And.intro bel (And.intro hdec hrl)))
      clear ho bel hdec hrl
      go_wp2
      go_ret3
      rw [G.out.2.2.1]
      obtain rfl := G.out.2.2.2
      exact ⟨⟨_, rfl, G.out.1⟩, G.out.2.1⟩
theorem rget_walk {w : World} {ad : Addr} {n c : Nat} {bs : List Int} (h : Rd1 w (some ad) n (u8s bs)) (hb : isB bs) (hnc : n ≤ c) (hn5 : n ≤ 100000) (hc5 : c ≤ 9223372036854775807) : Calls Try.prog 58 #[.slice (some ad) n c] w (RGetPost w bs) := by
  match bs, h, hb with
  | [], h, _ =>
    obtain rfl : n = 0 := by simpa using h.1.symm
    exact rget_nil
  | k :: t, h, hb =>
    have hk := hb k (by simp)
    obtain ⟨k, rfl⟩ : ∃ j : Nat, k = j := ⟨k.toNat, by omega⟩
    by_cases h32 : k ≤ 32
    · exact rget_ok h hb h32 hnc hn5 hc5
    · exact rget_big h (by omega) (by omega)
end Go.Proofs.Ytlldkdhpilcilaa
