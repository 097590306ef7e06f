/- the document's disk in memory; At. -/
import Derived.Test.YtagknfjgokiidaaDE
namespace Go.Proofs.Ytagknfjgokiidaa
open Go.RowKit
set_option linter.unusedVariables false
set_option linter.unusedSimpArgs false
set_option maxRecDepth 6000

theorem own_turnT {T : Nat → Prop} {w w' : World} {base : Nat} {e : TypeId} {size n : Nat} {v : Value} {xs : List Value} (h : w.ownsRow base e size v n xs) (ht : Turn T w w') (hT : ∀ k, T k → ∃ cs t, w.heap[k]? = some (.cells cs t (0, 0)) ∧ t ≠ e) : w'.ownsRow base e size v n xs :=
  own_turn h ht fun k hk hk2 => by
    obtain ⟨cs, hc⟩ := own_obj h hk
    obtain ⟨cs', t, hc', hne⟩ := hT k hk2
    rw [hc] at hc'
    injection hc' with hc'
    injection hc' with _ h2
    exact hne h2.symm
theorem own_ne {w : World} {b1 b2 : Nat} {e1 e2 : TypeId} {s1 s2 n1 n2 : Nat} {v1 v2 : Value} {xs1 xs2 : List Value} (h1 : w.ownsRow b1 e1 s1 v1 n1 xs1) (h2 : w.ownsRow b2 e2 s2 v2 n2 xs2) (hne : e1 ≠ e2) {k : Nat} (hk : v1.ownBlock = some k) : v2.ownBlock ≠ some k := fun hk2 => by
  obtain ⟨cs, hc⟩ := own_obj h1 hk
  obtain ⟨cs', hc'⟩ := own_obj h2 hk2
  rw [hc] at hc'
  injection hc' with hc'
  injection hc' with _ h2
  exact hne h2
abbrev fcs (P : Int → Value) (fs : List (Int × List Pg)) : List Value := fs.flatMap fun x => [.int .i64 x.1, P x.1]
abbrev rskObj (FV LV : Value) (R : Int) (s : Ds) : Obj := .cells #[.int .i64 R, FV, LV, .int .i64 s.made, .int .i64 s.deeds, .int .i64 s.reads, .int .i64 s.writes, .int .i64 s.used, .int .i64 s.peak] 71 (0, 0)
structure Rsk (w : World) (bx : Nat) (FV LV : Value) (P : Int → Value) (Hd : Int → List Value) (R : Int) (F : List Int) (s : Ds) : Prop where
  dsk : w.heap[bx]? = some (rskObj FV LV R s)
  flt : w.ownsRow 0 3 1 FV F.length (F.map (Value.int .i64))
  lst : w.ownsRow 0 74 2 LV s.fs.length (fcs P s.fs)
  prow : ∀ x ∈ s.fs, w.ownsRow 0 31 1 (P x.1) x.2.length (Hd x.1)
  page : ∀ x ∈ s.fs, ∀ (j : Nat) p, x.2[j]? = some p → ∃ v, (Hd x.1)[j]? = some v ∧ w.ownsRow 0 5 1 v 256 (b8 p)
  sep : ∀ x ∈ s.fs, ∀ y ∈ s.fs, ∀ k, (P x.1).ownBlock = some k → (P y.1).ownBlock = some k → x.1 = y.1
def XS (bx : Nat) (FV LV : Value) (P : Int → Value) (Hd : Int → List Value) (s : Ds) (k : Nat) : Prop :=
  k = bx ∨ FV.ownBlock = some k ∨ LV.ownBlock = some k ∨ (∃ x ∈ s.fs, (P x.1).ownBlock = some k) ∨ ∃ x ∈ s.fs, ∃ (j : Nat) (p : Pg) (v : Value), x.2[j]? = some p ∧ (Hd x.1)[j]? = some v ∧ v.ownBlock = some k
section
variable {w : World} {bx : Nat} {FV LV : Value} {P : Int → Value} {Hd : Int → List Value} {R : Int} {F : List Int} {s : Ds}
theorem Rsk.turn {S : Nat → Prop} {w' : World} (H : Rsk w bx FV LV P Hd R F s) (ht : Turn S w w') (hs : ∀ k, XS bx FV LV P Hd s k → ¬ S k) : Rsk w' bx FV LV P Hd R F s :=
  ⟨ht.heap H.dsk (hs _ (.inl rfl)), own_turn H.flt ht (fun k hk => hs k (.inr (.inl hk))), own_turn H.lst ht (fun k hk => hs k (.inr (.inr (.inl hk)))),
    fun x hx => own_turn (H.prow x hx) ht (fun k hk => hs k (.inr (.inr (.inr (.inl ⟨x, hx, hk⟩))))),
    fun x hx j p hp => by
      obtain ⟨v, hv, ho⟩ := H.page x hx j p hp
      exact ⟨v, hv, own_turn ho ht (fun k hk => hs k (.inr (.inr (.inr (.inr ⟨x, hx, j, p, v, hp, hv, hk⟩)))))⟩, H.sep⟩
theorem Rsk.lt (H : Rsk w bx FV LV P Hd R F s) : ∀ k, XS bx FV LV P Hd s k → k < w.heap.size := by
  rintro k (rfl | h | h | ⟨x, hx, h⟩ | ⟨x, hx, j, p, v, hp, hv, h⟩)
  · exact lt_of_heap H.dsk
  · exact (H.flt.lt k h).2
  · exact (H.lst.lt k h).2
  · exact ((H.prow x hx).lt k h).2
  · obtain ⟨v', hv', ho⟩ := H.page x hx j p hp
    rw [hv] at hv'
    injection hv' with hv'
    rw [← hv'] at ho
    exact (ho.lt k h).2
theorem Rsk.cells (H : Rsk w bx FV LV P Hd R F s) :
    w.cell? ⟨bx, 0, none⟩ = some (.int .i64 R) ∧ w.cell? ⟨bx, 1, none⟩ = some FV ∧ w.cell? ⟨bx, 2, none⟩ = some LV ∧ w.cell? ⟨bx, 3, none⟩ = some (.int .i64 s.made) ∧ w.cell? ⟨bx, 4, none⟩ = some (.int .i64 s.deeds) ∧
      w.cell? ⟨bx, 5, none⟩ = some (.int .i64 s.reads) ∧ w.cell? ⟨bx, 6, none⟩ = some (.int .i64 s.writes) ∧ w.cell? ⟨bx, 7, none⟩ = some (.int .i64 s.used) ∧ w.cell? ⟨bx, 8, none⟩ = some (.int .i64 s.peak) ∧ bx < w.heap.size :=
  ⟨cell_of_blk H.dsk 0, cell_of_blk H.dsk 1, cell_of_blk H.dsk 2, cell_of_blk H.dsk 3, cell_of_blk H.dsk 4, cell_of_blk H.dsk 5, cell_of_blk H.dsk 6, cell_of_blk H.dsk 7, cell_of_blk H.dsk 8, lt_of_heap H.dsk⟩
theorem Rsk.frees (H : Rsk w bx FV LV P Hd R F s) : ∀ i, w.frozen? ⟨bx, i, none⟩ = false := fun i => free_of_blk H.dsk i
/-- The blocks are apart by what lies in them. -/
theorem Rsk.nes (H : Rsk w bx FV LV P Hd R F s) : (∀ k, FV.ownBlock = some k → k ≠ bx) ∧ (∀ k, LV.ownBlock = some k → k ≠ bx) ∧ (∀ x ∈ s.fs, ∀ k, (P x.1).ownBlock = some k → k ≠ bx) := by
  have h : ∀ {base : Nat} {e : TypeId} {size n : Nat} {v : Value} {xs : List Value}, w.ownsRow base e size v n xs → e ≠ 71 → ∀ k, v.ownBlock = some k → k ≠ bx := by
    intro base e size n v xs h hne k hk e2
    obtain ⟨cs, hc⟩ := own_obj h hk
    rw [e2, H.dsk] at hc
    injection hc with hc
    injection hc with _ h2
    exact hne h2.symm
  exact ⟨h H.flt (by decide), h H.lst (by decide), fun x hx => h (H.prow x hx) (by decide)⟩
theorem fcs_get {fs : List (Int × List Pg)} {i : Nat} {x : Int × List Pg} (P : Int → Value) (h : fs[i]? = some x) : (fcs P fs)[i * 2]? = some (.int .i64 x.1) ∧ (fcs P fs)[i * 2 + 1]? = some (P x.1) := by
  induction fs generalizing i with
  | nil => simp at h
  | cons y t ih =>
    rcases i with _ | i
    · obtain rfl : y = x := by simpa using h
      exact ⟨rfl, rfl⟩
    · have := ih (i := i) (by simpa using h)
      simp only [fcs, List.flatMap_cons] at this ⊢
      rw [show (i + 1) * 2 = (i * 2) + 2 by omega, show (i * 2) + 2 + 1 = (i * 2 + 1) + 2 by omega]
      simpa using this
/-- The list's cells, at file i. -/
theorem Rsk.at_ (H : Rsk w bx FV LV P Hd R F s) {i : Nat} {x : Int × List Pg} (h : s.fs[i]? = some x) : ∃ g c, LV = .slice (some ⟨g, 0, none⟩) s.fs.length c ∧ g < w.heap.size ∧ w.cell? ⟨g, i * 2, none⟩ = some (.int .i64 x.1) ∧ w.cell? ⟨g, i * 2 + 1, none⟩ = some (P x.1) ∧ w.frozen? ⟨g, i * 2 + 1, none⟩ = false := by
  obtain ⟨h1, h2⟩ := fcs_get P h
  have hl := (List.getElem?_eq_some_iff.1 h).1
  rcases H.lst.2 with ⟨e, e2⟩ | ⟨g, cap, cur, e, hb, hg, hnc, hm, _⟩
  · omega
  · have hc := H.lst.cells (g := g) (by rw [e]; rfl)
    refine ⟨g, cap, e, lt_of_heap hg, ?_, ?_, free_of_blk hg _⟩
    · have := hc _ _ h1
      rw [Addr.add_mid, Nat.zero_add] at this
      exact this
    · have := hc _ _ h2
      rw [Addr.add_mid, Nat.zero_add] at this
      exact this
def Ds.at_ (s : Ds) (n : Int) : Int := match s.fs.findIdx? fun x => x.1 == n with | some i => (i : Int) | none => -1
theorem Ds.at_none {s : Ds} {n : Int} (h : s.find n = none) : s.at_ n = -1 := by
  have : (s.fs.findIdx? fun x => x.1 == n) = none := by
    rw [List.findIdx?_eq_none_iff]
    intro x hx
    have := Ds.find_none h x hx
    simpa using this
  unfold Ds.at_
  rw [this]
theorem Ds.at_some {s : Ds} {n : Int} {l : List Pg} (h : s.find n = some l) : ∃ i : Nat, s.at_ n = (i : Int) ∧ s.fs[i]? = some (n, l) := by
  cases hf : s.fs.findIdx? fun x => x.1 == n with
  | none =>
    rw [List.findIdx?_eq_none_iff] at hf
    have := hf _ (Ds.find_mem h)
    simp at this
  | some i =>
    have hfi := hf
    rw [List.findIdx?_eq_some_iff_getElem] at hf
    obtain ⟨hl, h1, h2⟩ := hf
    refine ⟨i, by unfold Ds.at_; rw [hfi], ?_⟩
    have e : s.fs.find? (fun x => x.1 == n) = some s.fs[i] := by
      rw [List.find?_eq_some_iff_getElem]
      exact ⟨h1, i, hl, rfl, fun j hj => by have := h2 j hj; simpa using this⟩
    unfold Ds.find at h
    rw [e] at h
    have e1 : s.fs[i].1 = n := by simpa using h1
    have e2 : s.fs[i].2 = l := by simpa using h
    rw [List.getElem?_eq_getElem hl, ← e1, ← e2]
/-- No file before place i bears the number. -/
def Ds.upto (s : Ds) (n : Int) (i : Nat) : Prop := ∀ j x, j < i → s.fs[j]? = some x → x.1 ≠ n
theorem Ds.upto_hit {s : Ds} {n : Int} {i : Nat} {x : Int × List Pg} (h : s.upto n i) (hx : s.fs[i]? = some x) (e : x.1 = n) : s.at_ n = (i : Int) := by
  have hl := (List.getElem?_eq_some_iff.1 hx).1
  have : s.fs.findIdx? (fun x => x.1 == n) = some i := by
    rw [List.findIdx?_eq_some_iff_getElem]
    refine ⟨hl, ?_, fun j hj => ?_⟩
    · rw [List.getElem?_eq_getElem hl] at hx
      injection hx with hx
      rw [hx, e]
      simp
    · have := h j _ hj (List.getElem?_eq_getElem (by omega))
      simpa using this
  unfold Ds.at_
  rw [this]
theorem Ds.upto_end {s : Ds} {n : Int} (h : s.upto n s.fs.length) : s.at_ n = -1 := by
  have : (s.fs.findIdx? fun x => x.1 == n) = none := by
    rw [List.findIdx?_eq_none_iff]
    intro x hx
    obtain ⟨j, hj, rfl⟩ := List.mem_iff_getElem.1 hx
    have := h j _ hj (List.getElem?_eq_getElem hj)
    simpa using this
  unfold Ds.at_
  rw [this]
theorem xat (H : Rsk w bx FV LV P Hd R F s) (hl : s.fs.length ≤ 32768) (n : Int) :
    Calls Try.prog 41 #[dp bx, .int .i64 n] w fun e w' => e = .returned (.int .i64 (s.at_ n)) ∧ w' = w := by
  obtain ⟨c0, c1, c2, c3, c4, c5, c6, c7, c8, hb⟩ := H.cells
  obtain ⟨A, c, rfl⟩ := own_slice H.lst
  have HH := Lib.hid H
  clear c0 c1 c3 c4 c5 c6 c7 c8 H
  obtain ⟨m, hm⟩ : ∃ m, m = s.fs.length := ⟨_, rfl⟩
  rw [← hm] at c2 hl
  have HM := Lib.hid hm
  clear hm
  go_enter Try.func41, Try.ntmps41
  go_wp2
  go_loop [5] (fun y => ∃ (i : Nat), i ≤ m ∧ y = .int .i64 (i : Int) ∧ Hid (s.upto n i)) (fun y => m - (intOf y).toNat)
  case atStart => exact ⟨0, by omega, rfl, fun j x hj => absurd hj (by omega)⟩
  case round =>
    obtain ⟨i, hi, rfl, HU⟩ := hrel
    by_cases hlt : i < m
    · obtain ⟨x, hx⟩ : ∃ x, s.fs[i]? = some x := ⟨_, List.getElem?_eq_getElem (by rw [← HM.out]; exact hlt)⟩
      obtain ⟨g, c', e, hg, d0, d1, _⟩ := HH.out.at_ hx
      injection e with e1 e2 e3
      subst e1
      clear e2 e3
      obtain ⟨xn, xl⟩ := x
      dsimp only at d0 d1
      clear d1
      by_cases e : xn = n
      · subst e
        have HX := Lib.hid (Ds.upto_hit HU.out hx rfl)
        clear hx
        go_wp2
        go_ret
        exact ⟨by rw [HX.out]; rfl, rfl⟩
      · have HX : Hid (s.upto n (i + 1)) := fun j y hj hy => by
          by_cases h : j = i
          · subst h
            rw [hx] at hy
            injection hy with hy
            rw [← hy]
            exact e
          · exact HU.out j y (by omega) hy
        have hb : (xn == n) = false := by simpa using e
        clear hx e HU
        go_wp2
        go_round
        case measure => simp [intOf]; omega
        case rel => exact ⟨i + 1, by omega, by go_num, HX⟩
    · obtain rfl : i = m := by omega
      have HX := Lib.hid (Ds.upto_end (by rw [← HM.out]; exact HU.out))
      clear HU
      go_wp2
      go_ret
      exact ⟨by rw [HX.out]; rfl, rfl⟩
end
end Go.Proofs.Ytagknfjgokiidaa
