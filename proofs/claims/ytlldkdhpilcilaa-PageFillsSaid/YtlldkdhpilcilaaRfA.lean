/- the document's Used, May. -/
import Derived.Test.YtlldkdhpilcilaaPaddA
import Derived.RegionTactic
import Derived.BigRegion
namespace Go.Proofs.Ytlldkdhpilcilaa
open Go.RowKit
set_option linter.unusedVariables false
set_option linter.unusedSimpArgs false

theorem flat_take {rows : List (List V)} {k : Nat} {r : List V} (h : rows[k]? = some r) : flat (rows.take (k + 1)) = flat (rows.take k) ++ encR r := by
  obtain ⟨hl, e⟩ := List.getElem?_eq_some_iff.1 h
  rw [List.take_succ_eq_append_getElem hl, e, flat_append]
  simp [flat]
theorem encR_le (r : List V) (h : rowOk r = true) : (encR r).length ≤ 2113 := by
  unfold rowOk at h
  simp only [Bool.and_eq_true, decide_eq_true_eq] at h
  have := encs_length_le r h.2
  simp only [encR, List.length_cons]
  omega
theorem flat_le : ∀ (rows : List (List V)), (∀ r ∈ rows, rowOk r = true) → (flat rows).length ≤ rows.length * 2113
  | [], _ => by simp [flat]
  | r :: t, h => by
    have h1 := encR_le r (h r (by simp))
    have h2 := flat_le t (fun s hs => h s (by simp [hs]))
    rw [flat_cons, List.length_append, List.length_cons]
    omega
set_option maxRecDepth 6000 in
theorem used_walk {w : World} {A : Option Addr} {n c : Nat} {hds : List Value} {rows : List (List V)} (hl : RdL w A n hds rows) (hok : ∀ r ∈ rows, rowOk r = true) (hn : n ≤ 10000) :
    Calls Try.prog 34 #[.slice A n c] w fun e w' => e = .returned (.int .i64 (usedN rows)) ∧ Below w.heap.size w w' := by
  have hlen := hl.len
  have HO := Lib.hid hok
  have HL := Lib.hid hl
  have HN := Lib.hid hlen
  clear hok hl hlen
  go_enter Try.func34, Try.ntmps34
  go_wp2
  go_loopw [3, 4] (fun u i wr => ∃ k f : Nat, k ≤ n ∧ f = (flat (rows.take k)).length ∧ u = .int .i64 ((1 + f + 2 * k : Nat) : Int) ∧ i = .int .i64 k ∧ Below w.heap.size w wr) (fun _ i _ => n - (intOf i).toNat)
  case atStart => exact ⟨0, 0, by omega, by simp [flat], rfl, rfl, Below.refl _ _⟩
  case round =>
    obtain ⟨k, f, hk, hf, rfl, rfl, bel⟩ := hrel
    have szr := bel.size
    by_cases hlt : k < n
    · obtain ⟨ad, B, m, cc, r, rfl, had, hrk, hhk, hcell, hrv⟩ := (HL.out.below bel).at_ hlt
      have hro := HO.out r (List.mem_of_getElem? hrk)
      have HP := Lib.hid (refput (c := cc) r hrv hro)
      have hf2 := flat_take hrk
      obtain ⟨g, hg⟩ : ∃ g, g = (encR r).length := ⟨_, rfl⟩
      have HF := Lib.hid (show f + g = (flat (rows.take (k + 1))).length by rw [hf2, List.length_append, hf, hg])
      have hg5 : g ≤ 2113 := by rw [hg]; exact encR_le r hro
      have hf5 : f ≤ 21130000 := by
        have := flat_le (rows.take k) (fun s hs => HO.out s (List.mem_of_mem_take hs))
        rw [List.length_take, HN.out, ← hf] at this
        have : min k n ≤ 10000 := by omega
        omega
      have HG := Lib.hid hg
      clear hrv hrk hhk hf hf2 hg
      go_wp2_with (go_at_call 18; refine HP.out.mono ?_; rintro e w1 ⟨v, rfl, ho, b1⟩; obtain ⟨D, cd, rfl⟩ := own_slice ho; rw [← HG.out] at *; clear ho)
      go_roundw
      case rel => exact ⟨k + 1, f + g, by omega, HF.out, by go_num, by go_num, bel.trans (b1.mono szr)⟩
      case measure => simp [intOf]; omega
    · obtain rfl : k = n := by omega
      have HF := Lib.hid (show 1 + f + 2 * k = usedN rows by rw [List.take_of_length_le (by rw [HN.out]; omega)] at hf; unfold usedN; rw [hf, HN.out])
      clear hf
      go_wp2
      go_ret
      exact ⟨by rw [← HF.out]; go_num, bel⟩
def mayE (r : List V) : Int := if rowOk r = false then 20 else if 253 < (encR r).length then 3 else 0
theorem may_walk {w : World} {A : Option Addr} {n c : Nat} {r : List V} (hr : RdV w A n r) :
    Calls Try.prog 33 #[.slice A n c] w fun e w' => e = .returned (.int .i64 (mayE r)) ∧ Below w.heap.size w w' := by
  have HC := rcheckRef (c := c) r hr
  cases hk : rowOk r with
  | false =>
    rw [hk] at HC
    have HC := Lib.hid HC
    have HM := Lib.hid (show mayE r = 20 by unfold mayE; rw [if_pos hk])
    clear hr hk
    go_enter Try.func33, Try.ntmps33
    go_wp2_with (go_at_call 17; refine HC.out.mono ?_; rintro e w1 ⟨rfl, b1⟩)
    go_ret
    exact ⟨by rw [HM.out]; rfl, b1⟩
  | true =>
    rw [hk] at HC
    have HC := Lib.hid HC
    have HP := fun w1 (b : Below w.heap.size w w1) => refput (c := c) r (hr.below b) hk
    obtain ⟨g, hg⟩ : ∃ g, g = (encR r).length := ⟨_, rfl⟩
    have HM := Lib.hid (show mayE r = if 253 < g then 3 else 0 by unfold mayE; rw [if_neg (by rw [hk]; decide), ← hg])
    have HG := Lib.hid hg
    have HP := Lib.hid HP
    clear hr hk hg
    go_enter Try.func33, Try.ntmps33
    go_wp2_with (first
      | (go_at_call 17; refine HC.out.mono ?_; rintro e w1 ⟨rfl, b1⟩)
      | (go_at_call 18; refine (HP.out _ b1).mono ?_; rintro e w2 ⟨v, rfl, ho, b2⟩; obtain ⟨D, cd, rfl⟩ := own_slice ho; rw [← HG.out]; clear ho))
    all_goals go_ret
    all_goals refine ⟨?_, b1.trans (b2.mono b1.size)⟩
    · rw [HM.out, if_pos (by omega)]
      rfl
    · rw [HM.out, if_neg (by omega)]
      rfl
end Go.Proofs.Ytlldkdhpilcilaa
namespace Go.Proofs.Ytlldkdhpilcilaa
open Go.RowKit
set_option linter.unusedVariables false
set_option linter.unusedSimpArgs false

section
variable {P : Program} {ops : Array Oper} {o : Oper} {a : Act} {K : Act → World → Prop} {Q : Exit → Act → World → Prop}
theorem op_append2 {W : World} (base : Nat) (s x : Operand) (t e : TypeId) (z : Value) (bytes : Nat)
    (ho : o.op = .call { callee := .builtin .append, args := #[s, x], argTypes := #[t, t] })
    (ht : P.underlying t = some (.slice e)) (hinfo : (P.info? e).map (fun i => (i.zero, i.size, i.bytes)) = some (some z, 1, bytes)) (hz : z.cells.size = 1) (hb0 : 0 < bytes)
    (v : Value) (n : Nat) (xs : List Value) (y1 y2 : Value) (hs : a.eval s = v) {S : Nat} (hx : a.eval x = .slice (some ⟨S, 0, none⟩) 2 2) (hS : S = W.heap.size) (h1 : y1.oneCell' = true) (h2 : y2.oneCell' = true)
    (HO : W.ownsRow base e 1 v n xs) (hbase : base ≤ W.heap.size) (hl : (n + 2) * bytes ≤ 140737488355328)
    (h : ∀ v1 w1, w1.ownsRow base e 1 v1 (n + 2) (xs ++ [y1, y2]) → Turn (fun k => v.ownBlock = some k) W w1 → K (a.put o.dst v1) w1) :
    o.wp P a (W.alloc (.cells #[y1, y2] e)) K Q := by
  subst hS
  obtain ⟨i0, hi, hz0, hz1, hz2⟩ := info_parts hinfo
  have hlen : n + 2 ≤ 140737488355328 := Nat.le_trans (Nat.le_mul_of_pos_right _ hb0) hl
  obtain ⟨v1, w1, hrun, hown, hg, _, hat⟩ := run_append_own_at (P := P) (W.alloc (.cells #[y1, y2] e)) base t o.type e i0 z 1 bytes ht hi hz0 hz1 hz2 hz (by omega) v n xs (HO.alloc _) ⟨W.heap.size, 0, none⟩ 2 2 [y1, y2] rfl
    (by simpa using World.news_of_block (cs := #[y1, y2]) (t := e) (fr := (0, 0)) (heap_alloc_new W (.cells #[y1, y2] e))) (by intro u hu; simp at hu; rcases hu with rfl | rfl; exact h1; exact h2) (by simp only [maxLen]; omega) hl (by simp; omega)
  unfold Oper.wp execOp
  simp only [ho, resolve, invoke, builtin, Sem.run_bind, Sem.run_pure, Result.andThen_ok, List.map_toArray, List.map_cons, List.map_nil, hs, hx, hrun]
  exact h v1 w1 hown (((Turn.refl _ W).alloc _).grown hg (fun k hk => .inl hk))
end
theorem getD_app_l {a b : List Int} {j : Nat} (h : j < a.length) : (a ++ b).getD j 0 = a.getD j 0 := by
  rw [List.getD_eq_getElem?_getD, List.getElem?_append_left h, ← List.getD_eq_getElem?_getD]
theorem getD_app_r {a b : List Int} {j : Nat} (h : a.length ≤ j) : (a ++ b).getD j 0 = b.getD (j - a.length) 0 := by
  rw [List.getD_eq_getElem?_getD, List.getElem?_append_right h, ← List.getD_eq_getElem?_getD]
/-- What stands behind all: so many rows' places, the last one first. -/
def tlS (off : Nat → Nat) (k : Nat) : Nat → List Int
  | 0 => []
  | m + 1 => tlS off k m ++ [((off (k - 1 - m) / 256 : Nat) : Int), ((off (k - 1 - m) % 256 : Nat) : Int)]
theorem tlS_len (off : Nat → Nat) (k : Nat) : ∀ m, (tlS off k m).length = 2 * m
  | 0 => rfl
  | m + 1 => by rw [tlS, List.length_append, tlS_len off k m]; simp; omega
theorem tlS_get (off : Nat → Nat) (k : Nat) : ∀ m j, j < m → (tlS off k m).getD (2 * j) 0 = ((off (k - 1 - j) / 256 : Nat) : Int) ∧ (tlS off k m).getD (2 * j + 1) 0 = ((off (k - 1 - j) % 256 : Nat) : Int)
  | 0, j, h => absurd h (by omega)
  | m + 1, j, h => by
    have hl := tlS_len off k m
    rw [tlS]
    by_cases hj : j < m
    · have := tlS_get off k m j hj
      rw [getD_app_l (show 2 * j < _ by omega), getD_app_l (show 2 * j + 1 < _ by omega)]
      exact this
    · obtain rfl : j = m := by omega
      rw [getD_app_r (show _ ≤ 2 * j by omega), getD_app_r (show _ ≤ 2 * j + 1 by omega), hl]
      simp
def mkP (rows : List (List V)) : List Int := ((rows.length : Int) :: flat rows) ++ List.replicate (256 - 2 * rows.length - (1 + (flat rows).length)) 0 ++ tlS (offAt rows) rows.length rows.length
theorem mkP_PG (rows : List (List V)) (h : usedN rows ≤ 256) : PG (mkP rows) rows := by
  have hu := h
  unfold usedN at hu
  obtain ⟨X, hX⟩ : ∃ X, X = ((rows.length : Int) :: flat rows) ++ List.replicate (256 - 2 * rows.length - (1 + (flat rows).length)) 0 := ⟨_, rfl⟩
  have hXl : X.length = 256 - 2 * rows.length := by rw [hX, List.length_append, List.length_replicate, List.length_cons]; omega
  have htl := tlS_len (offAt rows) rows.length rows.length
  have hm : mkP rows = X ++ tlS (offAt rows) rows.length rows.length := by rw [hX]; rfl
  rw [hm]
  refine ⟨by rw [List.length_append, hXl, htl]; omega, h, ?_, ?_, ?_⟩
  · rw [List.take_append_of_le_length (by rw [hXl]; omega), hX]
    exact List.take_left' (by rw [List.length_cons]; omega)
  · intro j h1 h2
    rw [List.getD_eq_getElem?_getD, List.getElem?_append_left (by rw [hXl]; exact h2), hX, List.getElem?_append_right (by rw [List.length_cons]; omega), List.getElem?_replicate]
    split <;> rfl
  · intro i hi
    have := tlS_get (offAt rows) rows.length rows.length (rows.length - 1 - i) (by omega)
    rw [show rows.length - 1 - (rows.length - 1 - i) = i by omega] at this
    rw [getD_app_r (show _ ≤ 256 - 2 * (i + 1) by rw [hXl]; omega), getD_app_r (show _ ≤ 256 - 2 * (i + 1) + 1 by rw [hXl]; omega), hXl]
    rw [show 256 - 2 * (i + 1) - (256 - 2 * rows.length) = 2 * (rows.length - 1 - i) by omega, show 256 - 2 * (i + 1) + 1 - (256 - 2 * rows.length) = 2 * (rows.length - 1 - i) + 1 by omega]
    exact this
end Go.Proofs.Ytlldkdhpilcilaa
namespace Go.Proofs.Ytlldkdhpilcilaa
open Go.RowKit
set_option linter.unusedVariables false
set_option linter.unusedSimpArgs false

theorem info_int : (Try.prog.info? 3).map (fun i => (i.zero, i.size, i.bytes)) = some (some (.int .i64 0), 1, 8) := by kernel_rfl
def offsI (rows : List (List V)) (k : Nat) : List Value := (List.range k).map fun i => Value.int .i64 (offAt rows i)
theorem offsI_succ (rows : List (List V)) (k : Nat) : offsI rows (k + 1) = offsI rows k ++ [.int .i64 (offAt rows k)] := by
  unfold offsI
  rw [List.range_succ, List.map_append]
  rfl
theorem offsI_get (rows : List (List V)) {k i : Nat} (h : i < k) : (offsI rows k)[i]? = some (.int .i64 (offAt rows i)) := by
  unfold offsI
  rw [List.getElem?_map, List.getElem?_range h]
  rfl
theorem wrap_a {o : Nat} (h : o ≤ 65535) : IntKind.u8.wrap (IntKind.i64.wrap ((o : Int) / 256)) = ((o / 256 : Nat) : Int) := by
  have e2 : ((o / 256 : Nat) : Int) % 2 ^ 64 = (o / 256 : Nat) := Int.emod_eq_of_lt (by omega) (by omega)
  have e : IntKind.i64.wrap ((o : Int) / 256) = ((o / 256 : Nat) : Int) := by
    rw [show (o : Int) / 256 = ((o / 256 : Nat) : Int) by omega]
    simp only [IntKind.wrap, IntKind.bits, IntKind.signed, e2]
    rw [if_neg]
    simp
    omega
  rw [e]
  exact u8_small (by omega) (by omega)
theorem wrap_b (o : Nat) : IntKind.u8.wrap ((o : Int).tmod 256) = ((o % 256 : Nat) : Int) := by
  rw [Int.tmod_eq_emod_of_nonneg (by omega)]
  rw [u8_small (by omega) (by omega)]
  omega
def MakePost (w : World) (rows : List (List V)) (e : Ending) (w' : World) : Prop :=
  (if 256 < usedN rows then e = .returned (.tuple #[.slice none 0 0, .bool false])
   else ∃ A c, e = .returned (.tuple #[.slice A 256 c, .bool true]) ∧ w'.ownsRow w.heap.size 5 1 (.slice A 256 c) 256 (u8s (mkP rows))) ∧ Below w.heap.size w w'
set_option maxRecDepth 6000 in
set_option maxHeartbeats 400000 in
theorem make_walk {w : World} {A : Option Addr} {n c : Nat} {hds : List Value} {rows : List (List V)} (hl : RdL w A n hds rows) (hok : ∀ r ∈ rows, rowOk r = true) (hn : n ≤ 255) :
    Calls Try.prog 35 #[.slice A n c] w (MakePost w rows) := by
  have hlen := hl.len
  have HO := Lib.hid hok
  have HL := Lib.hid hl
  have HN := Lib.hid hlen
  have hw8 : IntKind.u8.wrap (n : Int) = n := u8_small (by omega) (by omega)
  obtain ⟨F, hF⟩ : ∃ F, F = (flat rows).length := ⟨_, rfl⟩
  have hF5 : F ≤ 538815 := by
    have := flat_le rows hok
    omega
  have HF := Lib.hid hF
  clear hok hl hlen hF
  go_enter Try.func35, Try.ntmps35
  go_wp2
  have hown := World.ownsRow_lit (base := w.heap.size) (e := 5) (size := 1) w #[.int .u8 n] 1 (Nat.le_refl _) (by simp [maxLen]) (by simp)
  have b0 : Below w.heap.size w (w.alloc (.cells #[.int .u8 n] 5)) := (Below.refl _ _).alloc (Nat.le_refl _) _
  go_loopw [4, 5, 6] (fun o q i wr => ∃ (k f : Nat) (A1 A2 : Option Addr) (c1 c2 : Nat), k ≤ n ∧ f = (flat (rows.take k)).length ∧ f ≤ F ∧ o = .slice A1 (1 + f) c1 ∧ q = .slice A2 k c2 ∧ i = .int .i64 k ∧ wr.ownsRow w.heap.size 5 1 (.slice A1 (1 + f) c1) (1 + f) (u8s ((n : Int) :: flat (rows.take k))) ∧ wr.ownsRow w.heap.size 3 1 (.slice A2 k c2) k (offsI rows k) ∧ Below w.heap.size w wr) (fun _ _ i _ => n - (intOf i).toNat)
  case atStart => exact ⟨0, 0, _, none, _, 0, by omega, by simp [flat], by omega, rfl, rfl, rfl, by simpa [u8s, flat] using hown, World.ownsRow_nil _ _ _ _, b0⟩
  case round =>
    clear hown b0
    obtain ⟨k, f, A1, A2, c1, c2, hk, hf, hfF, rfl, rfl, rfl, ho, hq, bel⟩ := hrel
    have szr := bel.size
    by_cases hlt : k < n
    · obtain ⟨ad, B, m, cc, r, rfl, had, hrk, hhk, hcell, hrv⟩ := HL.out.at_ hlt
      have hro := HO.out r (List.mem_of_getElem? hrk)
      have HP := fun W (b : Below w.heap.size w W) => refput (c := cc) r (hrv.below b) hro
      have hf2 := flat_take hrk
      obtain ⟨E, hE⟩ : ∃ E, E = encR r := ⟨_, rfl⟩
      obtain ⟨g, hg⟩ : ∃ g, g = E.length := ⟨_, rfl⟩
      rw [← hE] at HP hf2
      rw [← hg] at HP
      have HP := Lib.hid HP
      have hfg : f + g = (flat (rows.take (k + 1))).length := by rw [hf2, List.length_append, hf, hg]
      have hfg2 : f + g ≤ F := by
        rw [hfg, HF.out]
        conv => rhs; rw [← List.take_append_drop (k + 1) rows, flat_append, List.length_append]
        omega
      have HH := Lib.hid (And.intro hg (And.intro hfg (And.intro hf2 (And.intro hf bel))))
      have HO1 := Lib.hid ho
      have HQ1 := Lib.hid hq
      have hofk : offAt rows k = 1 + f := by unfold offAt; rw [hf]
      have HK := Lib.hid hofk
      have HHC := Lib.hid (fun W (b : Below w.heap.size w W) => cell_belowv hcell b (by rw [add_block]; exact had))
      clear hrv hrk hhk hf hf2 hE hg hfg ho bel hofk hcell
      go_wp2_with (first
        | (at_builtin; refine wp_append1 w.heap.size rfl (.tmp 18) (.tmp 21) 39 3 (.int .i64 0) 1 8 rfl Try.underlying39 info_int rfl (by omega) (by omega) (.slice A2 k c2) k _ [.int .i64 ((1 : Int) + f)] rfl rfl (by simp) rfl (by simp [Value.oneCell']) HQ1.out szr (by omega) ?_; intro v1 w2 h2 t2 hor2; obtain ⟨A3, c3, rfl⟩ := own_slice h2; have HQ2 := Lib.hid h2; have HO2 := Lib.hid (own_turn HO1.out t2 (fun k hk => own_ne_own HO1.out HQ1.out (by decide) hk)); have B2 := Lib.hid (below_turn HH.out.2.2.2.2 t2 szr (fun k hk => own_ge HQ1.out hk)); have hc2 := HHC.out _ B2.out; clear h2 t2 hor2)
        | (go_at_call 18; refine (HP.out _ B2.out).mono ?_; rintro e w3 ⟨v, rfl, ho3, b3⟩; obtain ⟨D, cd, rfl⟩ := own_slice ho3; have HQ3 := Lib.hid (own_below HQ2.out b3); have HO3 := Lib.hid (own_below HO2.out b3); have HD3 := Lib.hid ho3; have B3 := Lib.hid (B2.out.trans (b3.mono B2.out.size)); clear ho3 b3)
        | (at_builtin; refine wp_appendL w.heap.size rfl (.tmp 23) (.tmp 28) 23 5 (.int .u8 0) 1 1 rfl Try.underlying23 info_u8 rfl (by omega) (by omega) (.slice A1 (1 + f) c1) (1 + f) _ rfl D g cd (u8s E) rfl (by rw [List.length_map, ← HH.out.1]; omega) (fun h => by obtain ⟨ad, e, _, hc⟩ := (Rd1.of_own HD3.out).2.2.2 h; exact ⟨ad, e, hc⟩) (by intro u hu; obtain ⟨x, _, rfl⟩ := List.mem_map.1 hu; rfl) HO3.out B3.out.size (by omega) ?_; intro v4 w4 h4 t4 _))
      obtain ⟨A5, c5, rfl⟩ := own_slice h4
      have HQ4 := own_turn HQ3.out t4 (fun k hk => own_ne_own HQ3.out HO3.out (by decide) hk)
      have B4 := below_turn B3.out t4 B3.out.size (fun k hk => own_ge HO3.out hk)
      have h5 : w4.ownsRow w.heap.size 5 1 (.slice A5 (1 + f + g) c5) (1 + f + g) (u8s ((n : Int) :: flat (rows.take (k + 1)))) := by
        rw [HH.out.2.2.1]
        simpa [u8s] using h4
      go_roundw
      case rel =>
        refine ⟨k + 1, f + g, A5, A3, c5, c3, by omega, HH.out.2.1, hfg2, by rw [Nat.add_assoc], rfl, by go_num, by rw [← Nat.add_assoc]; exact h5, ?_, B4⟩
        rw [offsI_succ, HK.out]
        exact HQ4
      case measure => simp [intOf]; omega
    · obtain rfl : k = n := by omega
      have hfF2 : f = F := by rw [hf, HF.out, List.take_of_length_le (by rw [HN.out]; omega)]
      subst hfF2
      rw [List.take_of_length_le (by rw [HN.out]; omega)] at ho
      have HH := Lib.hid (And.intro ho (And.intro hq bel))
      have HU := Lib.hid (show usedN rows = 1 + f + 2 * k by unfold usedN; rw [HN.out, ← HF.out])
      clear ho hq bel hf
      by_cases hbig : 256 < 1 + f + 2 * k
      · have hk5 : ¬ ((255 : Int) < k) := by omega
        have hbI : (256 : Int) < 1 + (f : Int) + 2 * (k : Int) := by omega
        go_wp2
        go_ret2
        unfold MakePost
        rw [if_pos (by rw [HU.out]; exact hbig)]
        exact ⟨by trivial, HH.out.2.2⟩
      · have hk5 : ¬ ((255 : Int) < k) := by omega
        have hbI : ¬ (256 : Int) < 1 + (f : Int) + 2 * (k : Int) := by omega
        obtain ⟨en, hen⟩ : ∃ en, en = 256 - 2 * k := ⟨_, rfl⟩
        have henI : (256 : Int) - 2 * (k : Int) = en := by omega
        have hfe : 1 + f ≤ en := by omega
        have HEN := Lib.hid hen
        have hkI : (k : Int) + -1 = (k : Int) - 1 := by omega
        have hfit : 1 + f + 2 * k ≤ 256 := by omega
        have hen5 : en ≤ 256 := by omega
        obtain ⟨X, hX⟩ : ∃ X, X = (k : Int) :: flat rows := ⟨_, rfl⟩
        have HX := Lib.hid hX
        rw [← hX] at HH
        clear hX hen hbig
        go_wp2
        go_loopw [4] (fun o wr2 => ∃ (z : Nat) (A3 : Option Addr) (c3 : Nat), 1 + f + z ≤ en ∧ o = .slice A3 (1 + f + z) c3 ∧ wr2.ownsRow w.heap.size 5 1 (.slice A3 (1 + f + z) c3) (1 + f + z) (u8s (X ++ List.replicate z 0)) ∧ wr2.ownsRow w.heap.size 3 1 (.slice A2 k c2) k (offsI rows k) ∧ Below w.heap.size w wr2) (fun o _ => 256 - lenOf o)
        case atStart => exact ⟨0, A1, c1, by omega, rfl, by simpa using HH.out.1, HH.out.2.1, HH.out.2.2⟩
        case round =>
          obtain ⟨z, A3, c3, hz, rfl, ho, hq, bel⟩ := hrel
          have szr := bel.size
          have HO2 := Lib.hid ho
          have HQ2 := Lib.hid hq
          clear ho hq
          by_cases hze : 1 + f + z < en
          · go_wp2_with (at_builtin; refine wp_append1 w.heap.size rfl (.tmp 49) (.tmp 50) 23 5 (.int .u8 0) 1 1 rfl Try.underlying23 info_u8 rfl (by omega) (by omega) (.slice A3 (1 + f + z) c3) (1 + f + z) _ [.int .u8 0] rfl rfl (by simp) rfl (by simp [Value.oneCell']) HO2.out szr (by omega) ?_; intro v1 w2 h2 t2 hor2)
            obtain ⟨A4, c4, rfl⟩ := own_slice h2
            have HQ3 := own_turn HQ2.out t2 (fun k hk => own_ne_own HQ2.out HO2.out (by decide) hk)
            have B2 := below_turn bel t2 szr (fun k hk => own_ge HO2.out hk)
            have h3 : w2.ownsRow w.heap.size 5 1 (.slice A4 (1 + f + (z + 1)) c4) (1 + f + (z + 1)) (u8s (X ++ List.replicate (z + 1) 0)) := by
              rw [List.replicate_succ', ← List.append_assoc, show 1 + f + (z + 1) = 1 + f + z + 1 by omega]
              simpa [u8s] using h2
            go_roundw
            case rel => exact ⟨z + 1, A4, c4, by omega, rfl, h3, HQ3, B2⟩
            case measure => simp [lenOf]; omega
          · have hzz : 1 + f + z = en := by omega
            have HY := Lib.hid (show X ++ List.replicate z 0 = (((rows.length : Nat) : Int) :: flat rows) ++ List.replicate (256 - 2 * rows.length - (1 + (flat rows).length)) 0 by
              rw [HX.out, HN.out, ← HF.out, ← HEN.out, ← hzz, Nat.add_sub_cancel_left])
            obtain ⟨Y, hY⟩ : ∃ Y, Y = X ++ List.replicate z 0 := ⟨_, rfl⟩
            rw [← hY] at HO2 HY
            rw [hzz] at HO2 ⊢
            have hzI : ¬ (en : Int) < en := by omega
            clear hY hzz hz hze
            go_wp2
            go_loopw [4, 7] (fun o i wr3 => ∃ (m : Nat) (A4 : Option Addr) (c4 : Nat), m ≤ k ∧ o = .slice A4 (en + 2 * m) c4 ∧ i = .int .i64 ((k : Int) - 1 - m) ∧ wr3.ownsRow w.heap.size 5 1 (.slice A4 (en + 2 * m) c4) (en + 2 * m) (u8s (Y ++ tlS (offAt rows) k m)) ∧ wr3.ownsRow w.heap.size 3 1 (.slice A2 k c2) k (offsI rows k) ∧ Below w.heap.size w wr3) (fun _ i _ => (intOf i + 1).toNat)
            case atStart => exact ⟨0, A3, c3, by omega, rfl, by simp, by simpa [tlS] using HO2.out, HQ2.out, bel⟩
            case round =>
              obtain ⟨m, A4, c4, hm, rfl, rfl, ho, hq, bel3⟩ := hrel
              have HO3 := Lib.hid ho
              have HQ3 := Lib.hid hq
              have sz3 := bel3.size
              clear ho hq
              by_cases hmk : m < k
              · obtain ⟨j, hj⟩ : ∃ j, j = k - 1 - m := ⟨_, rfl⟩
                have hjI : (k : Int) - 1 - m = j := by omega
                rw [hjI]
                obtain ⟨adq, rfl, had, hcq⟩ := (Rd1.of_own HQ3.out).2.at2 (k := j) (by omega)
                rw [offsI_get rows (show j < k by omega)] at hcq
                have hoff := offAt_le (rows := rows) j
                rw [← HF.out] at hoff
                obtain ⟨o, hoo⟩ : ∃ o, o = offAt rows j := ⟨_, rfl⟩
                rw [← hoo] at hcq hoff
                have HOO := Lib.hid (And.intro hoo hj)
                have hjk : j < k := by omega
                have hj1 : ¬ (j : Int) < 0 := by omega
                clear hoo hj
                go_wp2
                have HOd : wr.drew.ownsRow w.heap.size 5 1 (.slice A4 (en + 2 * m) c4) (en + 2 * m) (u8s (Y ++ tlS (offAt rows) k m)) := HO3.out
                have HOd := Lib.hid HOd
                have e1 : IntKind.u8.wrap (IntKind.i64.wrap ((o : Int) / 256)) = ((o / 256 : Nat) : Int) := wrap_a (by omega)
                have e2 : IntKind.u8.wrap ((o : Int).tmod 256) = ((o % 256 : Nat) : Int) := wrap_b o
                have HE := Lib.hid (And.intro e1 e2)
                clear e1 e2
                go_region_law (refine step_of_wp rfl (show Oper.wp _ _ _ (wr.drew.alloc (.cells #[.int .u8 (IntKind.u8.wrap (IntKind.i64.wrap ((o : Int) / 256))), .int .u8 (IntKind.u8.wrap ((o : Int).tmod 256))] 5)) _ _ from op_append2 (W := wr.drew) w.heap.size (.tmp 59) (.tmp 72) 23 5 (.int .u8 0) 1 rfl Try.underlying23 info_u8 rfl (by omega) (.slice A4 (en + 2 * m) c4) (en + 2 * m) _ _ _ rfl rfl rfl rfl rfl HOd.out sz3 (by omega) ?_); intro v1 w4 h4 t4; obtain ⟨A5, c5, rfl⟩ := own_slice h4)
                all_goals
                  have HQ4 := own_turn (show wr.drew.ownsRow w.heap.size 3 1 (.slice (some adq) k c2) k (offsI rows k) from HQ3.out) t4 (fun i hi => own_ne_own HQ3.out HO3.out (by decide) hi)
                  have B4 := below_turn (below_drew bel3) t4 sz3 (fun i hi => own_ge HOd.out hi)
                  have h5 : w4.ownsRow w.heap.size 5 1 (.slice A5 (en + 2 * (m + 1)) c5) (en + 2 * (m + 1)) (u8s (Y ++ tlS (offAt rows) k (m + 1))) := by
                    rw [HE.out.1, HE.out.2, HOO.out.1, HOO.out.2, show en + 2 * m + 2 = en + 2 * (m + 1) by omega] at h4
                    rw [tlS, ← List.append_assoc]
                    simpa [u8s] using h4
                  go_wp2
                  go_roundw
                all_goals first
                  | exact ⟨m + 1, A5, c5, by omega, by rw [Nat.mul_add, ← Nat.add_assoc], by congr 1 <;> omega, h5, HQ4, B4⟩
                  | (simp only [intOf]; omega)
              · obtain rfl : m = k := by omega
                have hjI : (m : Int) - 1 - m = -1 := by omega
                rw [hjI]
                have hen : en + 2 * m = 256 := by have := HEN.out; omega
                rw [hen] at HO3 ⊢
                have HM := Lib.hid (show u8s (Y ++ tlS (offAt rows) m m) = u8s (mkP rows) by
                  unfold mkP
                  rw [HY.out, HN.out])
                rw [HM.out] at HO3
                have HB := Lib.hid bel3
                have HU2 := Lib.hid (show ¬ 256 < usedN rows by rw [HU.out]; omega)
                clear hen hjI bel3
                go_wp2
                go_ret2
                unfold MakePost
                rw [if_neg HU2.out]
                exact ⟨⟨A4, c4, by trivial, HO3.out⟩, HB.out⟩
end Go.Proofs.Ytlldkdhpilcilaa
