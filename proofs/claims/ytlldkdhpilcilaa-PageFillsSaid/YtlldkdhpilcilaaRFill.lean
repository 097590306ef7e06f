/- the document's Fill. -/
import Derived.Test.YtlldkdhpilcilaaPAdds2
import Derived.BigRegion
namespace Go.Proofs.Ytlldkdhpilcilaa
open Go.RowKit
set_option linter.unusedVariables false
set_option linter.unusedSimpArgs false

theorem own_set {w : World} {base n : Nat} {e : TypeId} {v : Value} {xs : List Value} (h : w.ownsRow base e 1 v n xs) {i : Nat} (hi : i < n) : ∃ g c, v = .slice (some ⟨g, 0, none⟩) n c ∧ base ≤ g ∧ g < w.heap.size ∧ (∃ x, w.cell? ⟨g, i, none⟩ = some x) ∧ w.frozen? ⟨g, i, none⟩ = false ∧ ∀ u, (w.setCell ⟨g, i, none⟩ u).ownsRow base e 1 v n (xs.set i u) := by
  rcases h.2 with ⟨rfl, h⟩ | ⟨g, cap, cur, rfl, h1, h2, h3, h4, h5, h6⟩
  · omega
  · refine ⟨g, cap, rfl, h1, lt_of_heap h2, ⟨cur[i]'(by omega), ?_⟩, free_of_blk h2 i, fun u => ⟨by rw [List.length_set]; exact h.1, .inr ⟨g, cap, _, rfl, h1, blk_set h2 i u, h3, h4, by simpa using h5, ?_⟩⟩⟩
    · rw [cell_of_blk h2 i, Array.getElem?_eq_getElem]
    · rw [← h6, Array.toList_setIfInBounds, List.take_set]
theorem own_set2 {w : World} {base n gb C : Nat} {e : TypeId} {xs : List Value} (h : w.ownsRow base e 1 (.slice (some ⟨gb, 0, none⟩) n C) n xs) {i : Nat} (hi : i < n) : (∃ x, w.cell? ⟨gb, i, none⟩ = some x) ∧ w.frozen? ⟨gb, i, none⟩ = false ∧ ∀ u, (w.setCell ⟨gb, i, none⟩ u).ownsRow base e 1 (.slice (some ⟨gb, 0, none⟩) n C) n (xs.set i u) := by
  obtain ⟨g, c, e1, _, _, h3, h4, h5⟩ := own_set h hi
  injection e1 with e1 _ e3
  injection e1 with e1
  injection e1 with e1
  subst e1 e3
  exact ⟨h3, h4, h5⟩
theorem own_box {W : World} {S base : Nat} {e : TypeId} {y : Value} (h : W.heap[S]? = some (.cells #[y] e (0, 0))) (hb : base ≤ S) : W.ownsRow base e 1 (.slice (some ⟨S, 0, none⟩) 1 1) 1 [y] :=
  ⟨rfl, .inr ⟨S, 1, #[y], rfl, hb, h, by omega, by simp [maxLen], rfl, rfl⟩⟩
/-- Groups of rows, each owned. -/
structure GsAt (w wr : World) (hs2 : List Value) (gs : List Rows) : Prop where
  len : hs2.length = gs.length
  gr : ∀ (i : Nat) h g, hs2[i]? = some h → gs[i]? = some g → ∃ A m c hsg, h = .slice A m c ∧ wr.ownsRow w.heap.size 24 1 (.slice A m c) m hsg ∧ HsOf w hsg g
theorem GsAt.nil (w wr : World) : GsAt w wr [] [] := ⟨rfl, fun i h g hh => by simp at hh⟩
theorem GsAt.turn {S : Nat → Prop} {w wr w' : World} {hs2 : List Value} {gs : List Rows} (H : GsAt w wr hs2 gs) (ht : Turn S wr w') (hs : ∀ v n xs, wr.ownsRow w.heap.size 24 1 v n xs → ∀ k, v.ownBlock = some k → ¬ S k) : GsAt w w' hs2 gs :=
  ⟨H.len, fun i h g h1 h2 => by
    obtain ⟨A, m, c, hsg, e, ho, hh⟩ := H.gr i h g h1 h2
    exact ⟨A, m, c, hsg, e, own_turn ho ht (hs _ _ _ ho), hh⟩⟩
theorem GsAt.below {w wr w' : World} {hs2 : List Value} {gs : List Rows} (H : GsAt w wr hs2 gs) (hb : Below wr.heap.size wr w') : GsAt w w' hs2 gs := H.turn (Turn.of_below hb (fun _ => False)) (fun _ _ _ _ _ _ => id)
theorem GsAt.snoc {w wr : World} {hs2 : List Value} {gs : List Rows} {A : Option Addr} {m c : Nat} {hsg : List Value} {g : Rows} (H : GsAt w wr hs2 gs) (ho : wr.ownsRow w.heap.size 24 1 (.slice A m c) m hsg) (hh : HsOf w hsg g) : GsAt w wr (hs2 ++ [.slice A m c]) (gs ++ [g]) := by
  refine ⟨by simp [H.len], fun i y s hy hs => ?_⟩
  rcases Nat.lt_or_ge i hs2.length with hl | hl
  · rw [List.getElem?_append_left hl] at hy
    rw [List.getElem?_append_left (by rw [← H.len]; exact hl)] at hs
    exact H.gr i y s hy hs
  · rw [List.getElem?_append_right hl] at hy
    rw [List.getElem?_append_right (by rw [← H.len]; exact hl), ← H.len] at hs
    rcases hz : i - hs2.length with _ | j
    · rw [hz] at hy hs
      simp at hy hs
      subst hy hs
      exact ⟨A, m, c, hsg, rfl, ho, hh⟩
    · rw [hz] at hy
      simp at hy
theorem GsAt.set {w wr : World} {hs2 : List Value} {gs : List Rows} {A : Option Addr} {m c i : Nat} {hsg : List Value} {g : Rows} (H : GsAt w wr hs2 gs) (ho : wr.ownsRow w.heap.size 24 1 (.slice A m c) m hsg) (hh : HsOf w hsg g) : GsAt w wr (hs2.set i (.slice A m c)) (gs.set i g) := by
  refine ⟨by simp [H.len], fun j y s hy hs => ?_⟩
  by_cases e : i = j
  · subst e
    rw [List.getElem?_set_self' ] at hy hs
    cases h1 : hs2[i]? with
    | none => rw [h1] at hy; simp at hy
    | some x =>
      rw [h1] at hy
      cases h2 : gs[i]? with
      | none => rw [h2] at hs; simp at hs
      | some z =>
        rw [h2] at hs
        simp at hy hs
        subst hy hs
        exact ⟨A, m, c, hsg, rfl, ho, hh⟩
  · rw [List.getElem?_set_ne e] at hy hs
    exact H.gr j y s hy hs
theorem fillG_len (rows : Rows) (h : rows ≠ []) : fillG rows = (fillF rows).1 ++ [(fillF rows).2] := by unfold fillG; rw [if_neg h]
theorem fillF_inv : ∀ (rows : Rows), (fillF rows).1.flatten ++ (fillF rows).2 = rows := by
  intro rows
  have key : ∀ (l : Rows) (s : List Rows × Rows), (l.foldl stepF s).1.flatten ++ (l.foldl stepF s).2 = s.1.flatten ++ s.2 ++ l := by
    intro l
    induction l with
    | nil => intro s; simp
    | cons r t ih =>
      intro s
      rw [List.foldl_cons, ih]
      unfold stepF
      split <;> simp
  unfold fillF
  rw [key]
  simp
theorem fillG_flat (rows : Rows) : (fillG rows).flatten = rows := by
  unfold fillG
  split
  · next h => rw [h]; rfl
  · rw [List.flatten_append]
    simpa using fillF_inv rows
theorem fillF_fit (rows : Rows) (hm : ∀ r ∈ rows, mayE r = 0) : (∀ g ∈ (fillF rows).1, usedN g ≤ 256) ∧ usedN (fillF rows).2 ≤ 256 := by
  have key : ∀ (l : Rows) (s : List Rows × Rows), (∀ r ∈ l, mayE r = 0) → (∀ g ∈ s.1, usedN g ≤ 256) ∧ usedN s.2 ≤ 256 → (∀ g ∈ (l.foldl stepF s).1, usedN g ≤ 256) ∧ usedN (l.foldl stepF s).2 ≤ 256 := by
    intro l
    induction l with
    | nil => intro s _ h; exact h
    | cons r t ih =>
      intro s hr h
      rw [List.foldl_cons]
      refine ih _ (fun x hx => hr x (by simp [hx])) ?_
      unfold stepF
      split
      · refine ⟨fun g hg => ?_, ?_⟩
        · rcases List.mem_append.1 hg with e | e
          · exact h.1 g e
          · obtain rfl : g = s.2 := by simpa using e
            exact h.2
        · have := (mayE_zero (hr r (by simp))).2
          rw [usedN_one]
          omega
      · next hn => exact ⟨h.1, Nat.not_lt.1 hn⟩
  exact key rows ([], []) hm ⟨by simp, by decide⟩
theorem info_LL2 : (Try.prog.info? 38).map (fun i => (i.zero, i.size, i.bytes)) = some (some (.slice none 0 0), 1, 24) := by kernel_rfl
def RFillP (w : World) (rows : Rows) (e : Ending) (w' : World) : Prop :=
  ∃ A c hs2, e = .returned (.slice A (fillG rows).length c) ∧ w'.ownsRow w.heap.size 38 1 (.slice A (fillG rows).length c) (fillG rows).length hs2 ∧ GsAt w w' hs2 (fillG rows) ∧ Below w.heap.size w w'
theorem fillG_step {rows : Rows} {k : Nat} {r : List V} (h : rows[k]? = some r) (hk : 0 < k) : fillG (rows.take (k + 1)) = if 256 < usedN ((fillF (rows.take k)).2 ++ [r]) then fillG (rows.take k) ++ [[r]] else (fillG (rows.take k)).set ((fillG (rows.take k)).length - 1) ((fillF (rows.take k)).2 ++ [r]) := by
  obtain ⟨hl, _⟩ := List.getElem?_eq_some_iff.1 h
  have h1 : rows.take (k + 1) ≠ [] := by intro e; have := congrArg List.length e; rw [List.length_take] at this; simp only [List.length_nil] at this; omega
  have h2 : rows.take k ≠ [] := by intro e; have := congrArg List.length e; rw [List.length_take] at this; simp only [List.length_nil] at this; omega
  rw [fillG_len _ h1, fillG_len _ h2, fillF_snoc h]
  unfold stepF
  split
  · simp
  · rw [List.length_append, List.length_singleton, Nat.add_sub_cancel, List.set_append]
    simp
theorem fillG_first {rows : Rows} {r : List V} (h : rows[0]? = some r) (hm : mayE r = 0) : fillG (rows.take 1) = [[r]] := by
  obtain ⟨t, rfl⟩ : ∃ t, rows = r :: t := by
    cases rows with
    | nil => simp at h
    | cons x t => simp at h; exact ⟨t, by rw [h]⟩
  have hu : ¬ 256 < usedN [r] := by rw [usedN_one]; have := (mayE_zero hm).2; omega
  show fillG [r] = _
  unfold fillG fillF
  simp [stepF, hu]
theorem rf_set {w wr w9 : World} {gb C M1 k rm mg : Nat} {rc c8 : Nat} {D A8 : Option Addr} {hs2 hsg : List Value} {rows g : Rows} {r : List V}
    (ho : wr.ownsRow w.heap.size 38 1 (.slice (some ⟨gb, 0, none⟩) (M1 + 1) C) (M1 + 1) hs2) (hgs : GsAt w wr hs2 (fillG (rows.take k))) (bel : Below w.heap.size w wr) (hM : (fillG (rows.take k)).length = M1 + 1)
    (hrk : rows[k]? = some r) (hrv : RdV w D rm r) (hk0 : 0 < k) (hg : g = (fillF (rows.take k)).2) (hhg : HsOf w hsg g) (hgb : w.heap.size ≤ gb) (hnot : ¬ 256 < usedN (g ++ [r])) (B9 : Below wr.heap.size wr w9)
    (HN9 : w9.ownsRow w.heap.size 24 1 (.slice A8 (mg + 1) c8) (mg + 1) (hsg ++ [.slice D rm rc])) :
    (fillG (rows.take (k + 1))).length = M1 + 1 ∧ (w9.setCell ⟨gb, M1, none⟩ (.slice A8 (mg + 1) c8)).ownsRow w.heap.size 38 1 (.slice (some ⟨gb, 0, none⟩) (M1 + 1) C) (M1 + 1) (hs2.set M1 (.slice A8 (mg + 1) c8)) ∧
    GsAt w (w9.setCell ⟨gb, M1, none⟩ (.slice A8 (mg + 1) c8)) (hs2.set M1 (.slice A8 (mg + 1) c8)) (fillG (rows.take (k + 1))) ∧ Below w.heap.size w (w9.setCell ⟨gb, M1, none⟩ (.slice A8 (mg + 1) c8)) := by
  have szr := bel.size
  have HO9 := own_below ho B9
  have h1 := fillG_step hrk hk0
  rw [← hg, if_neg hnot, hM, Nat.add_sub_cancel] at h1
  have ht : Turn (fun j => j = gb) w9 (w9.setCell ⟨gb, M1, none⟩ (.slice A8 (mg + 1) c8)) := (Turn.refl (fun j => j = gb) w9).setCell (p := ⟨gb, M1, none⟩) (.inl rfl) _
  have hne : ∀ v n xs, w9.ownsRow w.heap.size 24 1 v n xs → ∀ j, v.ownBlock = some j → ¬ j = gb := fun v n xs hv j hj e => own_ne_own hv HO9 (by decide) hj (by rw [e]; rfl)
  refine ⟨by rw [h1, List.length_set]; exact hM, (own_set2 HO9 (by omega)).2.2 _, ?_, below_turn (bel.trans (B9.mono szr)) ht (Nat.le_trans szr B9.size) (fun j hj => by rw [hj]; exact hgb)⟩
  rw [h1]
  exact ((hgs.below B9).turn ht hne).set (own_turn HN9 ht (hne _ _ _ HN9)) (hhg.snoc hrv)
theorem rf_app {w wr w9 w10 : World} {gb C M1 k rm : Nat} {rc c10 : Nat} {D A10 : Option Addr} {hs2 : List Value} {rows g : Rows} {r : List V}
    (ho : wr.ownsRow w.heap.size 38 1 (.slice (some ⟨gb, 0, none⟩) (M1 + 1) C) (M1 + 1) hs2) (hgs : GsAt w wr hs2 (fillG (rows.take k))) (bel : Below w.heap.size w wr) (hM : (fillG (rows.take k)).length = M1 + 1)
    (hrk : rows[k]? = some r) (hrv : RdV w D rm r) (hk0 : 0 < k) (hg : g = (fillF (rows.take k)).2) (hgb : w.heap.size ≤ gb) (hgl : gb < wr.heap.size) (hyes : 256 < usedN (g ++ [r])) (B9 : Below wr.heap.size wr w9)
    (h10 : w10.ownsRow w.heap.size 38 1 (.slice A10 (M1 + 1 + 1) c10) (M1 + 1 + 1) (hs2 ++ [.slice (some ⟨w9.heap.size, 0, none⟩) 1 1])) (t10 : Turn (fun j => (Value.slice (some ⟨gb, 0, none⟩) (M1 + 1) C).ownBlock = some j) (w9.alloc (.cells #[.slice D rm rc] 24)) w10) :
    (fillG (rows.take (k + 1))).length = M1 + 1 + 1 ∧ GsAt w w10 (hs2 ++ [.slice (some ⟨w9.heap.size, 0, none⟩) 1 1]) (fillG (rows.take (k + 1))) ∧ Below w.heap.size w w10 := by
  have szr := bel.size
  have HO9 := own_below ho B9
  have h1 := fillG_step hrk hk0
  rw [← hg, if_pos hyes] at h1
  have s9 := B9.size
  have hne : ∀ v n xs, (w9.alloc (.cells #[.slice D rm rc] 24)).ownsRow w.heap.size 24 1 v n xs → ∀ j, v.ownBlock = some j → ¬ (Value.slice (some ⟨gb, 0, none⟩) (M1 + 1) C).ownBlock = some j := fun v n xs hv j hj => own_ne_own hv (HO9.alloc _) (by decide) hj
  refine ⟨by rw [h1, List.length_append, hM]; rfl, ?_, below_turn ((bel.trans (B9.mono szr)).alloc (by omega) _) t10 (by simp; omega) (fun j hj => own_ge ho hj)⟩
  rw [h1]
  have HB := own_box (base := w.heap.size) (heap_alloc_new w9 (.cells #[.slice D rm rc] 24)) (by omega)
  exact ((((hgs.below B9).below (hid_below_alloc _)).turn t10 hne)).snoc (own_turn HB t10 (hne _ _ _ HB)) ((HsOf.nil w).snoc hrv)
set_option maxRecDepth 6000 in
set_option maxHeartbeats 16000000 in
theorem rfill_walk {w : World} {A : Option Addr} {n c : Nat} {hds : List Value} {rows : Rows} (hl : RdL w A n hds rows) (hm : ∀ r ∈ rows, mayE r = 0) (hn : n ≤ 600) : Calls Try.prog 44 #[.slice A n c] w (RFillP w rows) := by
  have hlen := hl.len
  have HL := Lib.hid hl
  have HN := Lib.hid hlen
  have HM := Lib.hid hm
  clear hl hlen hm
  go_enter Try.func44, Try.ntmps44
  go_wp2
  go_loopw [3, 4] (fun o x wr => ∃ (k M : Nat) (B : Option Addr) (C : Nat) (hs2 : List Value), k ≤ n ∧ M ≤ k ∧ (0 < k → 0 < M) ∧ x = .int .i64 k ∧ o = .slice B M C ∧ (fillG (rows.take k)).length = M ∧ wr.ownsRow w.heap.size 38 1 (.slice B M C) M hs2 ∧ GsAt w wr hs2 (fillG (rows.take k)) ∧ Below w.heap.size w wr) (fun _ x _ => n - (intOf x).toNat)
  case atStart => exact ⟨0, 0, none, 0, [], by omega, by omega, by omega, rfl, rfl, rfl, World.ownsRow_nil _ _ _ _, GsAt.nil _ _, Below.refl _ _⟩
  case round =>
    obtain ⟨k, M, B, C, hs2, hk, hMk, hM0, rfl, rfl, hM, ho, hgs, bel⟩ := hrel
    have szr := bel.size
    by_cases hlt : k < n
    · obtain ⟨adl, D, rm, rc, r, rfl, had, hrk, hhk, hcell, hrv⟩ := HL.out.at_ hlt
      have HCell := Lib.hid (fun W (b : Below w.heap.size w W) => cell_belowv hcell b (by rw [add_block]; exact had))
      have c6 := HCell.out _ bel
      have had6 : adl.block < wr.heap.size := by omega
      have hmr := HM.out r (List.mem_of_getElem? hrk)
      have HH := Lib.hid (And.intro ho (And.intro hgs (And.intro bel (And.intro hM (And.intro hrk (And.intro hrv hmr))))))
      have HONER := Lib.hid (HsOf.snoc (c := rc) (HsOf.nil w) hrv)
      clear ho hgs hcell hhk hrk hrv hmr
      by_cases h0 : k = 0
      · subst h0
        obtain rfl : M = 0 := by omega
        have hneg : ¬ (0 : Int) ≤ -1 := by omega
        have c60 : wr.cell? adl = some (.slice D rm rc) := by simpa [Addr.add] using c6
        go_wp2_with (at_builtin; refine wp_append1 (W := wr.alloc (.cells #[.slice D rm rc] 24)) w.heap.size rfl (.tmp 37) (.tmp 43) 41 38 (.slice none 0 0) 1 24 rfl Try.underlying41 info_LL2 rfl (by omega) (by omega) (.slice B 0 C) 0 _ [.slice (some ⟨wr.heap.size, 0, none⟩) 1 1] rfl rfl (by simp) rfl (by simp [Value.oneCell']) (HH.out.1.alloc _) (by simp; omega) (by omega) ?_; intro v8 w8 h8 t8 _; obtain ⟨A8, c8, rfl⟩ := own_slice h8; have HH8 := Lib.hid (And.intro h8 t8); clear h8 t8)
        go_roundw
        case measure => simp [intOf]; omega
        obtain ⟨ho, hgs, bel, hM, hrk, hrv, hmr⟩ := HH.out
        obtain ⟨h8, t8⟩ := HH8.out
        have hz : hs2 = [] := List.eq_nil_of_length_eq_zero (by rw [hgs.len]; exact hM)
        subst hz
        have hne : ∀ j, (Value.slice B 0 C).ownBlock = some j → j < wr.heap.size := fun j hj => (ho.lt j hj).2
        refine ⟨1, 1, A8, c8, _, by omega, by omega, by omega, by simp, rfl, by rw [fillG_first hrk hmr]; rfl, h8, ?_, ?_⟩
        · rw [fillG_first hrk hmr]
          exact (GsAt.nil w w8).snoc (own_turn (own_box (heap_alloc_new wr _) (by omega)) t8 (fun j hj hj2 => by have := hne j hj2; simp [Value.ownBlock] at hj; omega)) HONER.out
        · exact below_turn (bel.alloc (by omega) _) t8 (by simp; omega) (fun j hj => own_ge ho hj)
      · obtain ⟨M1, hM1⟩ : ∃ M1, M = M1 + 1 := ⟨M - 1, by omega⟩
        subst hM1
        obtain ⟨ho, hgs, bel, hM, hrk, hrv, hmr⟩ := HH.out
        obtain ⟨gb, gc, hv, hgb1, hgb2, _, _, _⟩ := own_set ho (i := M1) (by omega)
        injection hv with hv1 _ hv3
        subst hv1 hv3
        have hk0 : 0 < k := by omega
        have hne2 : rows.take k ≠ [] := by intro e; have := congrArg List.length e; rw [List.length_take] at this; simp only [List.length_nil] at this; have := HN.out; omega
        have hlast : (fillG (rows.take k))[M1]? = some (fillF (rows.take k)).2 := by
          have h1 := fillG_len _ hne2
          rw [h1] at hM ⊢
          rw [List.length_append, List.length_singleton] at hM
          rw [List.getElem?_append_right (by omega), show M1 - (fillF (rows.take k)).1.length = 0 from by omega]
          rfl
        obtain ⟨hh, hhe⟩ : ∃ hh, hs2[M1]? = some hh := ⟨hs2[M1]'(by rw [hgs.len]; omega), List.getElem?_eq_getElem _⟩
        obtain ⟨Ag, mg, cg, hsg, rfl, hog, hhg⟩ := hgs.gr M1 hh _ hhe hlast
        have cq6 : wr.cell? ⟨gb, M1, none⟩ = some (.slice Ag mg cg) := by
          obtain ⟨ad', e, _, hc⟩ := (Rd1.of_own ho).2.2.2 (by omega)
          injection e with e
          subst e
          have h9 := hc M1 _ hhe
          rcases M1 with _ | j
          · simpa [Addr.add] using h9
          · simpa [Addr.add] using h9
        obtain ⟨g, hg⟩ : ∃ g, g = (fillF (rows.take k)).2 := ⟨_, rfl⟩
        rw [← hg] at hhg hlast
        have hfit := fillF_fit (rows.take k) (fun x hx => HM.out x (List.mem_of_mem_take hx))
        have hu1 : usedN g ≤ 256 := by rw [hg]; exact hfit.2
        have hlg : g.length = mg := by rw [← hhg.len]; simpa using hog.1
        have hok2 : ∀ s ∈ g ++ [r], rowOk s = true := by
          intro x hx
          rcases List.mem_append.1 hx with hx | hx
          · have : x ∈ (fillF (rows.take k)).1.flatten ++ (fillF (rows.take k)).2 := List.mem_append_right _ (by rw [← hg]; exact hx)
            rw [fillF_inv] at this
            exact (mayE_zero (HM.out x (List.mem_of_mem_take this))).1
          · rw [List.mem_singleton.1 hx]
            exact (mayE_zero hmr).1
        have hm127 : mg ≤ 127 := by unfold usedN at hu1; rw [hlg] at hu1; omega
        have HHo2 := Lib.hid (hhg.snoc (c := rc) hrv)
        obtain ⟨U2, hU2⟩ : ∃ U2, U2 = usedN (g ++ [r]) := ⟨_, rfl⟩
        have HUs2 := Lib.hid (fun W A8 c8 (b : Below w.heap.size w W) (ho : W.ownsRow w.heap.size 24 1 (.slice A8 (mg + 1) c8) (mg + 1) (hsg ++ [.slice D rm rc])) => used_rdl (c := c8) (HHo2.out.rdl ho b) hok2 (by simp [hlg]; omega) hU2)
        have hU2b := usedN_le (g ++ [r]) hok2
        rw [← hU2] at hU2b
        have hml : (g ++ [r]).length = mg + 1 := by simp [hlg]
        rw [hml] at hU2b
        have HF6 := Lib.hid (more_worlds wr.drew (.slice D rm rc) wr.heap.size (Nat.le_refl _))
        have HL6 := Lib.hid (show hsg.length = mg by simpa using hog.1)
        have HS6 := Lib.hid (fun W (b : Below wr.heap.size wr W) (h : 0 < mg) => by obtain ⟨ad', e, _, hc⟩ := (((Rd1.of_own hog).2).below b).2.2 h; exact (⟨ad', e, hc⟩ : ∃ ad, Ag = some ad ∧ ∀ j u, hsg[j]? = some u → W.cell? (ad.add j) = some u))
        have HONE := Lib.hid hhg.one
        have HW1 := Lib.hid (show Below wr.heap.size wr (wr.drew.alloc (.cells #[] 24)) from (below_drew (Below.refl _ _)).alloc (Nat.le_refl _) _)
        have HW2 := Lib.hid (show Below wr.heap.size wr ((wr.drew.alloc (.cells #[] 24)).alloc (.cells #[.slice D rm rc] 24)) from HW1.out.alloc (by simp) _)
        have HW3 := Lib.hid (show Below wr.heap.size wr ((wr.drew.alloc (.cells #[.slice D rm rc] 24)).alloc (.cells #[] 24)) from ((below_drew (Below.refl _ _)).alloc (Nat.le_refl _) _).alloc (by simp) _)
        have HX6 := Lib.hid (show ((wr.drew.alloc (.cells #[] 24)).alloc (.cells #[.slice D rm rc] 24)).cell? ⟨wr.heap.size + 1, 0, none⟩ = some (.slice D rm rc) ∧ ((wr.drew.alloc (.cells #[.slice D rm rc] 24)).alloc (.cells #[] 24)).cell? ⟨wr.heap.size, 0, none⟩ = some (.slice D rm rc) from ⟨cell_of_blk (heap_alloc2_new _ _ _) 0, cell_of_blk (heap_alloc2_old _ _ _) 0⟩)
        have el0 : (wr.alloc (.cells #[] 24)).cell? (adl.add k) = some (.slice D rm rc) := ((World.cell?_alloc_lt _ _ _ (World.block_lt_of_cell? _ _ (show wr.cell? (adl.add k) = some (.slice D rm rc) from c6))).trans (show wr.cell? (adl.add k) = some (.slice D rm rc) from c6))
        have eq0 : (wr.alloc (.cells #[] 24)).cell? ⟨gb, M1, none⟩ = some (.slice Ag mg cg) := ((World.cell?_alloc_lt _ _ _ (World.block_lt_of_cell? _ _ (show wr.cell? ⟨gb, M1, none⟩ = some (.slice Ag mg cg) from cq6))).trans (show wr.cell? ⟨gb, M1, none⟩ = some (.slice Ag mg cg) from cq6))
        have el1 : (wr.drew.alloc (.cells #[] 24)).cell? (adl.add k) = some (.slice D rm rc) := ((World.cell?_alloc_lt _ _ _ (World.block_lt_of_cell? _ _ (show wr.drew.cell? (adl.add k) = some (.slice D rm rc) from c6))).trans (show wr.drew.cell? (adl.add k) = some (.slice D rm rc) from c6))
        have eq1 : (wr.drew.alloc (.cells #[] 24)).cell? ⟨gb, M1, none⟩ = some (.slice Ag mg cg) := ((World.cell?_alloc_lt _ _ _ (World.block_lt_of_cell? _ _ (show wr.drew.cell? ⟨gb, M1, none⟩ = some (.slice Ag mg cg) from cq6))).trans (show wr.drew.cell? ⟨gb, M1, none⟩ = some (.slice Ag mg cg) from cq6))
        have el2 : (wr.alloc (.cells #[.slice D rm rc] 24)).cell? (adl.add k) = some (.slice D rm rc) := ((World.cell?_alloc_lt _ _ _ (World.block_lt_of_cell? _ _ (show wr.cell? (adl.add k) = some (.slice D rm rc) from c6))).trans (show wr.cell? (adl.add k) = some (.slice D rm rc) from c6))
        have eq2 : (wr.alloc (.cells #[.slice D rm rc] 24)).cell? ⟨gb, M1, none⟩ = some (.slice Ag mg cg) := ((World.cell?_alloc_lt _ _ _ (World.block_lt_of_cell? _ _ (show wr.cell? ⟨gb, M1, none⟩ = some (.slice Ag mg cg) from cq6))).trans (show wr.cell? ⟨gb, M1, none⟩ = some (.slice Ag mg cg) from cq6))
        have el3 : (wr.drew.alloc (.cells #[.slice D rm rc] 24)).cell? (adl.add k) = some (.slice D rm rc) := ((World.cell?_alloc_lt _ _ _ (World.block_lt_of_cell? _ _ (show wr.drew.cell? (adl.add k) = some (.slice D rm rc) from c6))).trans (show wr.drew.cell? (adl.add k) = some (.slice D rm rc) from c6))
        have eq3 : (wr.drew.alloc (.cells #[.slice D rm rc] 24)).cell? ⟨gb, M1, none⟩ = some (.slice Ag mg cg) := ((World.cell?_alloc_lt _ _ _ (World.block_lt_of_cell? _ _ (show wr.drew.cell? ⟨gb, M1, none⟩ = some (.slice Ag mg cg) from cq6))).trans (show wr.drew.cell? ⟨gb, M1, none⟩ = some (.slice Ag mg cg) from cq6))
        have el4 : ((wr.alloc (.cells #[] 24)).alloc (.cells #[.slice D rm rc] 24)).cell? (adl.add k) = some (.slice D rm rc) := ((World.cell?_alloc_lt _ _ _ (World.block_lt_of_cell? _ _ ((World.cell?_alloc_lt _ _ _ (World.block_lt_of_cell? _ _ (show wr.cell? (adl.add k) = some (.slice D rm rc) from c6))).trans (show wr.cell? (adl.add k) = some (.slice D rm rc) from c6)))).trans ((World.cell?_alloc_lt _ _ _ (World.block_lt_of_cell? _ _ (show wr.cell? (adl.add k) = some (.slice D rm rc) from c6))).trans (show wr.cell? (adl.add k) = some (.slice D rm rc) from c6)))
        have eq4 : ((wr.alloc (.cells #[] 24)).alloc (.cells #[.slice D rm rc] 24)).cell? ⟨gb, M1, none⟩ = some (.slice Ag mg cg) := ((World.cell?_alloc_lt _ _ _ (World.block_lt_of_cell? _ _ ((World.cell?_alloc_lt _ _ _ (World.block_lt_of_cell? _ _ (show wr.cell? ⟨gb, M1, none⟩ = some (.slice Ag mg cg) from cq6))).trans (show wr.cell? ⟨gb, M1, none⟩ = some (.slice Ag mg cg) from cq6)))).trans ((World.cell?_alloc_lt _ _ _ (World.block_lt_of_cell? _ _ (show wr.cell? ⟨gb, M1, none⟩ = some (.slice Ag mg cg) from cq6))).trans (show wr.cell? ⟨gb, M1, none⟩ = some (.slice Ag mg cg) from cq6)))
        have el5 : ((wr.drew.alloc (.cells #[] 24)).alloc (.cells #[.slice D rm rc] 24)).cell? (adl.add k) = some (.slice D rm rc) := ((World.cell?_alloc_lt _ _ _ (World.block_lt_of_cell? _ _ ((World.cell?_alloc_lt _ _ _ (World.block_lt_of_cell? _ _ (show wr.drew.cell? (adl.add k) = some (.slice D rm rc) from c6))).trans (show wr.drew.cell? (adl.add k) = some (.slice D rm rc) from c6)))).trans ((World.cell?_alloc_lt _ _ _ (World.block_lt_of_cell? _ _ (show wr.drew.cell? (adl.add k) = some (.slice D rm rc) from c6))).trans (show wr.drew.cell? (adl.add k) = some (.slice D rm rc) from c6)))
        have eq5 : ((wr.drew.alloc (.cells #[] 24)).alloc (.cells #[.slice D rm rc] 24)).cell? ⟨gb, M1, none⟩ = some (.slice Ag mg cg) := ((World.cell?_alloc_lt _ _ _ (World.block_lt_of_cell? _ _ ((World.cell?_alloc_lt _ _ _ (World.block_lt_of_cell? _ _ (show wr.drew.cell? ⟨gb, M1, none⟩ = some (.slice Ag mg cg) from cq6))).trans (show wr.drew.cell? ⟨gb, M1, none⟩ = some (.slice Ag mg cg) from cq6)))).trans ((World.cell?_alloc_lt _ _ _ (World.block_lt_of_cell? _ _ (show wr.drew.cell? ⟨gb, M1, none⟩ = some (.slice Ag mg cg) from cq6))).trans (show wr.drew.cell? ⟨gb, M1, none⟩ = some (.slice Ag mg cg) from cq6)))
        have el6 : ((wr.alloc (.cells #[.slice D rm rc] 24)).alloc (.cells #[] 24)).cell? (adl.add k) = some (.slice D rm rc) := ((World.cell?_alloc_lt _ _ _ (World.block_lt_of_cell? _ _ ((World.cell?_alloc_lt _ _ _ (World.block_lt_of_cell? _ _ (show wr.cell? (adl.add k) = some (.slice D rm rc) from c6))).trans (show wr.cell? (adl.add k) = some (.slice D rm rc) from c6)))).trans ((World.cell?_alloc_lt _ _ _ (World.block_lt_of_cell? _ _ (show wr.cell? (adl.add k) = some (.slice D rm rc) from c6))).trans (show wr.cell? (adl.add k) = some (.slice D rm rc) from c6)))
        have eq6 : ((wr.alloc (.cells #[.slice D rm rc] 24)).alloc (.cells #[] 24)).cell? ⟨gb, M1, none⟩ = some (.slice Ag mg cg) := ((World.cell?_alloc_lt _ _ _ (World.block_lt_of_cell? _ _ ((World.cell?_alloc_lt _ _ _ (World.block_lt_of_cell? _ _ (show wr.cell? ⟨gb, M1, none⟩ = some (.slice Ag mg cg) from cq6))).trans (show wr.cell? ⟨gb, M1, none⟩ = some (.slice Ag mg cg) from cq6)))).trans ((World.cell?_alloc_lt _ _ _ (World.block_lt_of_cell? _ _ (show wr.cell? ⟨gb, M1, none⟩ = some (.slice Ag mg cg) from cq6))).trans (show wr.cell? ⟨gb, M1, none⟩ = some (.slice Ag mg cg) from cq6)))
        have el7 : ((wr.drew.alloc (.cells #[.slice D rm rc] 24)).alloc (.cells #[] 24)).cell? (adl.add k) = some (.slice D rm rc) := ((World.cell?_alloc_lt _ _ _ (World.block_lt_of_cell? _ _ ((World.cell?_alloc_lt _ _ _ (World.block_lt_of_cell? _ _ (show wr.drew.cell? (adl.add k) = some (.slice D rm rc) from c6))).trans (show wr.drew.cell? (adl.add k) = some (.slice D rm rc) from c6)))).trans ((World.cell?_alloc_lt _ _ _ (World.block_lt_of_cell? _ _ (show wr.drew.cell? (adl.add k) = some (.slice D rm rc) from c6))).trans (show wr.drew.cell? (adl.add k) = some (.slice D rm rc) from c6)))
        have eq7 : ((wr.drew.alloc (.cells #[.slice D rm rc] 24)).alloc (.cells #[] 24)).cell? ⟨gb, M1, none⟩ = some (.slice Ag mg cg) := ((World.cell?_alloc_lt _ _ _ (World.block_lt_of_cell? _ _ ((World.cell?_alloc_lt _ _ _ (World.block_lt_of_cell? _ _ (show wr.drew.cell? ⟨gb, M1, none⟩ = some (.slice Ag mg cg) from cq6))).trans (show wr.drew.cell? ⟨gb, M1, none⟩ = some (.slice Ag mg cg) from cq6)))).trans ((World.cell?_alloc_lt _ _ _ (World.block_lt_of_cell? _ _ (show wr.drew.cell? ⟨gb, M1, none⟩ = some (.slice Ag mg cg) from cq6))).trans (show wr.drew.cell? ⟨gb, M1, none⟩ = some (.slice Ag mg cg) from cq6)))
        have HG := Lib.hid (And.intro ho (And.intro hgs (And.intro bel (And.intro hM (And.intro hrk (And.intro hrv (And.intro hmr (And.intro hhe (And.intro hlast (And.intro hog hhg))))))))))
        have HK := Lib.hid (And.intro hne2 hg)
        have HU := Lib.hid hU2
        clear ho hgs bel hM hrk hrv hmr hhe hlast hog hhg hne2 hg hfit hok2 hU2 hml HH
        have hMM : (M1 : Int) < (M1 : Int) + 1 := by omega
        go_wp2
        go_region_law (first
              | (refine step_of_wp rfl (show Oper.wp _ _ _ (wr.drew.alloc (.cells #[] 24)) _ _ from op_appendA (W := wr.drew.alloc (.cells #[] 24)) wr.heap.size (.tmp 18) (.tmp 22) 38 24 (.slice none 0 0) 24 rfl Try.underlying38 info_L rfl (by omega) (.slice (some ⟨wr.heap.size, 0, none⟩) 0 0) 0 [] rfl Ag mg cg hsg rfl HL6.out (HS6.out _ HW1.out) HONE.out HF6.out.1 (by simp <;> omega) (by omega) ?_); intro v7 w7 h7a t7; rw [Nat.zero_add, List.nil_append] at h7a; obtain ⟨A7, c7, rfl⟩ := own_slice h7a; have B7 := Lib.hid (below_turn HW1.out t7 (by simp <;> omega) (fun i hi => by simp [Value.ownBlock] at hi; omega)); have hc7 := cell_belowv c6 B7.out (by rw [add_block]; exact had6); have hq7 := cell_belowv cq6 B7.out hgb2)
              | (refine step_of_wp rfl (show Oper.wp _ _ _ ((wr.drew.alloc (.cells #[] 24)).alloc (.cells #[.slice D rm rc] 24)) _ _ from op_appendA (W := (wr.drew.alloc (.cells #[] 24)).alloc (.cells #[.slice D rm rc] 24)) wr.heap.size (.tmp 18) (.tmp 22) 38 24 (.slice none 0 0) 24 rfl Try.underlying38 info_L rfl (by omega) (.slice (some ⟨wr.heap.size, 0, none⟩) 0 0) 0 [] rfl Ag mg cg hsg rfl HL6.out (HS6.out _ HW2.out) HONE.out HF6.out.2.1 (by simp <;> omega) (by omega) ?_); intro v7 w7 h7b t7; rw [Nat.zero_add, List.nil_append] at h7b; obtain ⟨A7, c7, rfl⟩ := own_slice h7b; have B7 := Lib.hid (below_turn HW2.out t7 (by simp <;> omega) (fun i hi => by simp [Value.ownBlock] at hi; omega)); have hc7 := cell_belowv c6 B7.out (by rw [add_block]; exact had6); have hq7 := cell_belowv cq6 B7.out hgb2; have hx7 := cell_turn (HX6.out.1) t7 (by simp [Value.ownBlock]))
              | (refine step_of_wp rfl (show Oper.wp _ _ _ ((wr.drew.alloc (.cells #[.slice D rm rc] 24)).alloc (.cells #[] 24)) _ _ from op_appendA (W := (wr.drew.alloc (.cells #[.slice D rm rc] 24)).alloc (.cells #[] 24)) wr.heap.size (.tmp 18) (.tmp 22) 38 24 (.slice none 0 0) 24 rfl Try.underlying38 info_L rfl (by omega) (.slice (some ⟨wr.heap.size + 1, 0, none⟩) 0 0) 0 [] rfl Ag mg cg hsg rfl HL6.out (HS6.out _ HW3.out) HONE.out HF6.out.2.2 (by simp <;> omega) (by omega) ?_); intro v7 w7 h7c t7; rw [Nat.zero_add, List.nil_append] at h7c; obtain ⟨A7, c7, rfl⟩ := own_slice h7c; have B7 := Lib.hid (below_turn HW3.out t7 (by simp <;> omega) (fun i hi => by simp [Value.ownBlock] at hi; omega)); have hc7 := cell_belowv c6 B7.out (by rw [add_block]; exact had6); have hq7 := cell_belowv cq6 B7.out hgb2; have hx7 := cell_turn (HX6.out.2) t7 (by simp [Value.ownBlock]))
              | (refine step_of_wp rfl (show Oper.wp _ _ _ (w7.alloc (.cells #[.slice D rm rc] 24)) _ _ from op_append1 (W := w7) wr.heap.size (.tmp 23) (.tmp 28) 38 24 (.slice none 0 0) 1 24 rfl Try.underlying38 info_L rfl (by omega) (by omega) (.slice A7 mg c7) mg _ [.slice D rm rc] rfl rfl (by simp) rfl (by simp [Value.oneCell']) h7a B7.out.size (by omega) ?_); intro v8 w8 h8 t8 _; obtain ⟨A8, c8, rfl⟩ := own_slice h8; have HB8 := Lib.hid (below_turn B7.out t8 B7.out.size (fun i hi => own_ge h7a hi)); have HH8 := Lib.hid h8; clear h8 t8)
              | (refine step_of_wp rfl (show Oper.wp _ _ _ w7 _ _ from op_appendA (W := w7) wr.heap.size (.tmp 23) (.tmp 28) 38 24 (.slice none 0 0) 24 rfl Try.underlying38 info_L rfl (by omega) (.slice A7 mg c7) mg _ rfl (some ⟨wr.heap.size + 1, 0, none⟩) 1 1 [.slice D rm rc] rfl rfl (fun _ => ⟨_, rfl, one_src hx7⟩) (by simp [Value.oneCell']) h7b B7.out.size (by omega) ?_); intro v8 w8 h8 t8; obtain ⟨A8, c8, rfl⟩ := own_slice h8; have HB8 := Lib.hid (below_turn B7.out t8 B7.out.size (fun i hi => own_ge h7b hi)); have HH8 := Lib.hid h8; clear h8 t8)
              | (refine step_of_wp rfl (show Oper.wp _ _ _ w7 _ _ from op_appendA (W := w7) wr.heap.size (.tmp 23) (.tmp 28) 38 24 (.slice none 0 0) 24 rfl Try.underlying38 info_L rfl (by omega) (.slice A7 mg c7) mg _ rfl (some ⟨wr.heap.size, 0, none⟩) 1 1 [.slice D rm rc] rfl rfl (fun _ => ⟨_, rfl, one_src hx7⟩) (by simp [Value.oneCell']) h7c B7.out.size (by omega) ?_); intro v8 w8 h8 t8; obtain ⟨A8, c8, rfl⟩ := own_slice h8; have HB8 := Lib.hid (below_turn B7.out t8 B7.out.size (fun i hi => own_ge h7c hi)); have HH8 := Lib.hid h8; clear h8 t8))
        all_goals
          have b8 : Below w.heap.size w w8 := HG.out.2.2.1.trans (HB8.out.mono szr)
          have s8 := HB8.out.size
          have HHl8 := Lib.hid (own_lower HH8.out szr)
          go_wp2_with (first
            | (exfalso; omega)
            | (go_at_call 34; (with_reducible refine (HUs2.out _ _ _ b8 HHl8.out).mono ?_); rintro e w9 ⟨rfl, b⟩; have b9 := b8.trans (b.mono b8.size); have s9 := b.size; have B9 := Lib.hid (HB8.out.trans (b.mono s8)); have c69 := HCell.out _ b9; have HO9 := Lib.hid (own_below HG.out.1 B9.out); have HN9 := Lib.hid (own_below HHl8.out b); obtain ⟨⟨x9, hx9⟩, hf9, hst9⟩ := own_set2 HO9.out (i := M1) (by omega); have HST9 := Lib.hid hst9; clear hst9 b)
            | (at_builtin; refine wp_append1 (W := w9.alloc (.cells #[.slice D rm rc] 24)) w.heap.size rfl (.tmp 37) (.tmp 43) 41 38 (.slice none 0 0) 1 24 rfl Try.underlying41 info_LL2 rfl (by omega) (by omega) (.slice (some ⟨gb, 0, none⟩) (M1 + 1) C) (M1 + 1) _ [.slice (some ⟨w9.heap.size, 0, none⟩) 1 1] rfl rfl (by simp) rfl (by simp [Value.oneCell']) (HO9.out.alloc _) (by simp; omega) (by omega) ?_; intro v10 w10 h10 t10 _; obtain ⟨A10, c10, rfl⟩ := own_slice h10; have HH10 := Lib.hid (And.intro h10 t10); clear h10 t10))
        all_goals first
          | (exfalso; omega)
          | skip
        all_goals go_roundw
        all_goals first
          | (have hz := rf_set HG.out.1 HG.out.2.1 HG.out.2.2.1 HG.out.2.2.2.1 HG.out.2.2.2.2.1 HG.out.2.2.2.2.2.1 hk0 HK.out.2 HG.out.2.2.2.2.2.2.2.2.2.2 hgb1 (by rw [← HU.out]; omega) B9.out HN9.out; exact ⟨k + 1, M1 + 1, _, _, _, by omega, by omega, by omega, by go_num, rfl, hz⟩)
          | (have hz := rf_app HG.out.1 HG.out.2.1 HG.out.2.2.1 HG.out.2.2.2.1 HG.out.2.2.2.2.1 HG.out.2.2.2.2.2.1 hk0 HK.out.2 hgb1 hgb2 (by rw [← HU.out]; omega) B9.out HH10.out.1 HH10.out.2; exact ⟨k + 1, M1 + 1 + 1, _, _, _, by omega, by omega, by omega, by go_num, rfl, hz.1, HH10.out.1, hz.2⟩)
          | (simp [intOf]; omega)
    · obtain rfl : k = n := by omega
      have hlen := HN.out
      rw [List.take_of_length_le (by omega)] at hgs hM
      have HE := Lib.hid (And.intro ho (And.intro hgs (And.intro bel hM)))
      clear ho hgs bel hM
      go_wp2
      go_ret
      obtain ⟨ho, hgs, bel, rfl⟩ := HE.out
      exact ⟨_, _, _, rfl, ho, hgs, bel⟩
end Go.Proofs.Ytlldkdhpilcilaa
