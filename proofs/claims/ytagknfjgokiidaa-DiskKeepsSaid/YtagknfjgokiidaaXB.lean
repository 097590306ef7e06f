/- the document's disk: New, deed, Create. -/
import Derived.Test.YtagknfjgokiidaaXA
namespace Go.Proofs.Ytagknfjgokiidaa
open Go.RowKit
set_option linter.unusedVariables false
set_option linter.unusedSimpArgs false
set_option maxRecDepth 6000

theorem own_at1 {w : World} {base : Nat} {e : TypeId} {A : Option Addr} {n c : Nat} {xs : List Value} (h : w.ownsRow base e 1 (.slice A n c) n xs) {j : Nat} {u : Value} (hu : xs[j]? = some u) : ∃ g, A = some ⟨g, 0, none⟩ ∧ g < w.heap.size ∧ w.cell? ⟨g, j, none⟩ = some u := by
  rcases h.2 with ⟨e1, e2⟩ | ⟨g, cap, cur, e1, hb, hg, hnc, hm, _⟩
  · have := (List.getElem?_eq_some_iff.1 hu).1
    have := h.1
    omega
  · injection e1 with e1 e3
    subst e1
    have := h.cells (g := g) rfl j u hu
    rw [Addr.add_mid, Nat.zero_add] at this
    exact ⟨g, rfl, lt_of_heap hg, this⟩
section
variable {w : World} {bx : Nat} {FV LV : Value} {P : Int → Value} {Hd : Int → List Value} {R : Int} {F : List Int} {s : Ds}
/-- Numbers of the disk have turned. -/
theorem Rsk.upd {w' : World} {s' : Ds} (H : Rsk w bx FV LV P Hd R F s) (ht : Turn (fun k => k = bx) w w') (ho : w'.heap[bx]? = some (rskObj FV LV R s')) (hf : s'.fs = s.fs) : Rsk w' bx FV LV P Hd R F s' := by
  have hT : ∀ {e : TypeId}, e ≠ 71 → ∀ k, k = bx → ∃ cs t, w.heap[k]? = some (.cells cs t (0, 0)) ∧ t ≠ e := by
    rintro e he k rfl
    exact ⟨_, _, H.dsk, fun e2 => he e2.symm⟩
  refine ⟨ho, own_turnT H.flt ht (hT (by decide)), ?_, ?_, ?_, ?_⟩
  · rw [hf]
    exact own_turnT H.lst ht (hT (by decide))
  · rw [hf]
    exact fun x hx => own_turnT (H.prow x hx) ht (hT (by decide))
  · rw [hf]
    intro x hx j p hp
    obtain ⟨v, hv, ho⟩ := H.page x hx j p hp
    exact ⟨v, hv, own_turnT ho ht (hT (by decide))⟩
  · rw [hf]
    exact H.sep
def XDeed (w : World) (bx : Nat) (FV LV : Value) (P : Int → Value) (Hd : Int → List Value) (R : Int) (F : List Int) (s : Ds) (w' : World) : Prop :=
  Rsk w' bx FV LV P Hd R F s.deed_ ∧ Turn (fun k => k = bx) w w'
theorem XDeed.drewN {w' : World} (h : XDeed w bx FV LV P Hd R F s w') (m : Nat) : XDeed w bx FV LV P Hd R F s (w'.drewN m) :=
  ⟨h.1.turn ((Turn.refl (fun _ => False) w').drewN m) (fun _ _ => id), h.2.drewN m⟩
theorem notin_step {F : List Int} {i : Nat} {x n : Int} (h : ∀ (j : Nat) y, j < i → F[j]? = some y → y ≠ n) (hx : F[i]? = some x) (hne : x ≠ n) : ∀ (j : Nat) y, j < i + 1 → F[j]? = some y → y ≠ n := fun j y hj hy => by
  by_cases e : j = i
  · subst e
    rw [hx] at hy
    injection hy with hy
    rw [← hy]
    exact hne
  · exact h j y (by omega) hy
theorem notin_end {F : List Int} {n : Int} (h : ∀ (j : Nat) y, j < F.length → F[j]? = some y → y ≠ n) : F.contains n = false := by
  rw [List.contains_eq_mem]
  simp only [decide_eq_false_iff_not]
  intro hm
  obtain ⟨j, hj, e⟩ := List.mem_iff_getElem.1 hm
  exact h j _ hj (List.getElem?_eq_getElem hj) e
def notinB (F : List Int) (n : Int) (i : Nat) : Prop := ∀ (j : Nat) y, j < i → F[j]? = some y → y ≠ n
theorem xdeed (H : Rsk w bx FV LV P Hd R F s) (h0 : 0 ≤ s.deeds) (h1 : s.deeds ≤ 1000000000) (hF : F.length ≤ 9223372036854775807) :
    Calls Try.prog 51 #[dp bx] w fun e w' => e = .returned (.bool (!F.contains (s.deeds + 1))) ∧ XDeed w bx FV LV P Hd R F s w' := by
  have hT : Turn (fun k => k = bx) w (w.setCell ⟨bx, 4, none⟩ (.int .i64 (s.deeds + 1))) := (Turn.refl (fun k => k = bx) w).cell bx 4 _ rfl
  have HP : Hid (XDeed w bx FV LV P Hd R F s (w.setCell ⟨bx, 4, none⟩ (.int .i64 (s.deeds + 1)))) := ⟨H.upd hT (blk_set H.dsk 4 _) rfl, hT⟩
  obtain ⟨c0, c1, c2, c3, c4, c5, c6, c7, c8, hb⟩ := H.cells
  have f4 := H.frees 4
  obtain ⟨n, hn⟩ : ∃ n, n = F.length := ⟨_, rfl⟩
  rw [← hn] at hF
  have HN := Lib.hid hn
  clear H hT hn c0 c1 c2 c3 c5 c6 c7 c8
  go_enter Try.func51, Try.ntmps51
  go_wp2
  generalize (w.setCell ⟨bx, 4, none⟩ (.int .i64 (s.deeds + 1))) = w1 at HP ⊢
  clear c4 f4
  go_loopw [3] (fun y wr => ∃ (i : Nat), i ≤ n ∧ y = .int .i64 (i : Int) ∧ Hid (notinB F (s.deeds + 1) i) ∧ Hid (XDeed w bx FV LV P Hd R F s wr)) (fun y _ => n - (intOf y).toNat)
  case atStart => exact ⟨0, by omega, rfl, fun j y hj => absurd hj (by omega), HP⟩
  case round =>
    clear HP
    obtain ⟨i, hi, rfl, HU, HX⟩ := hrel
    have d1 := HX.out.1.cells.2.1
    have d4 := HX.out.1.cells.2.2.2.2.1
    dsimp only [Ds.deed_] at d4
    obtain ⟨A, c, rfl⟩ := own_slice HX.out.1.flt
    rw [← HN.out] at d1
    by_cases hlt : i < n
    · obtain ⟨x, hx⟩ : ∃ x, F[i]? = some x := ⟨_, List.getElem?_eq_getElem (by rw [← HN.out]; exact hlt)⟩
      obtain ⟨g, rfl, hg, hc⟩ := own_at1 HX.out.1.flt (j := i) (u := .int .i64 x) (by rw [List.getElem?_map, hx]; rfl)
      by_cases e : x = s.deeds + 1
      · have HB := Lib.hid (show F.contains (s.deeds + 1) = true from by rw [List.contains_eq_mem]; simp only [decide_eq_true_eq]; rw [← e]; exact List.mem_of_getElem? hx)
        subst e
        clear hx HU
        go_wp2
        go_quiet (fail)
        go_wp2
        go_ret
        exact ⟨by rw [HB.out]; rfl, HX.out.drewN _⟩
      · have hb : (x == s.deeds + 1) = false := by simpa using e
        have HU2 : Hid (notinB F (s.deeds + 1) (i + 1)) := notin_step HU.out hx e
        clear hx HU e
        go_wp2
        go_quiet (fail)
        go_wp2
        go_roundw
        case measure => simp [intOf]; omega
        case rel => exact ⟨i + 1, by omega, by go_num, HU2, HX.out.drewN _⟩
    · obtain rfl : i = n := by omega
      have HB := Lib.hid (notin_end (by rw [← HN.out]; exact HU.out))
      clear HU
      go_wp2
      go_ret
      exact ⟨by rw [HB.out]; rfl, HX.out⟩
end
end Go.Proofs.Ytagknfjgokiidaa
