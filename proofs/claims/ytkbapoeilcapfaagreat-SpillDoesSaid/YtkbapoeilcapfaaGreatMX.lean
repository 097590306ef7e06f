/- The document's disk. -/
import Derived.Test.YtkbapoeilcapfaaGreatME
import Derived.BigRegion
import Derived.OrdersHeld
import Derived.IntWalk
/- the document's disk in memory; At. -/
namespace Go.Proofs.YtkbapoeilcapfaaGreat
open Go.RowKit
set_option linter.unusedVariables false
set_option linter.unusedSimpArgs false
set_option maxRecDepth 6000

theorem own_turnT {T : Nat → Prop} {w w' : World} {base : Nat} {e : TypeId} {size n : Nat} {v : Value} {xs : List Value} (h : w.ownsRow base e size v n xs) (ht : Turn T w w') (hT : ∀ k, T k → ∃ cs t, w.heap[k]? = some (.cells cs t (0, 0)) ∧ t ≠ e) : w'.ownsRow base e size v n xs :=
  own_turn h ht fun k hk hk2 => by
    obtain ⟨cs, hc⟩ := own_obj h hk
    obtain ⟨cs', t, hc', hne⟩ := hT k hk2
    rw [hc] at hc'
    injection hc' with hc'
    injection hc' with _ h2
    exact hne h2.symm
theorem own_ne {w : World} {b1 b2 : Nat} {e1 e2 : TypeId} {s1 s2 n1 n2 : Nat} {v1 v2 : Value} {xs1 xs2 : List Value} (h1 : w.ownsRow b1 e1 s1 v1 n1 xs1) (h2 : w.ownsRow b2 e2 s2 v2 n2 xs2) (hne : e1 ≠ e2) {k : Nat} (hk : v1.ownBlock = some k) : v2.ownBlock ≠ some k := fun hk2 => by
  obtain ⟨cs, hc⟩ := own_obj h1 hk
  obtain ⟨cs', hc'⟩ := own_obj h2 hk2
  rw [hc] at hc'
  injection hc' with hc'
  injection hc' with _ h2
  exact hne h2
abbrev fcs (P : Int → Value) (fs : List (Int × List Pg)) : List Value := fs.flatMap fun x => [.int .i64 x.1, P x.1]
abbrev rskObj (FV LV : Value) (R : Int) (s : Ds) : Obj := .cells #[.int .i64 R, FV, LV, .int .i64 s.made, .int .i64 s.deeds, .int .i64 s.reads, .int .i64 s.writes, .int .i64 s.used, .int .i64 s.peak] 68 (0, 0)
structure Rsk (w : World) (bx : Nat) (FV LV : Value) (P : Int → Value) (Hd : Int → List Value) (R : Int) (F : List Int) (s : Ds) : Prop where
  dsk : w.heap[bx]? = some (rskObj FV LV R s)
  flt : w.ownsRow 0 3 1 FV F.length (F.map (Value.int .i64))
  lst : w.ownsRow 0 158 2 LV s.fs.length (fcs P s.fs)
  prow : ∀ x ∈ s.fs, w.ownsRow 0 136 1 (P x.1) x.2.length (Hd x.1)
  page : ∀ x ∈ s.fs, ∀ (j : Nat) p, x.2[j]? = some p → ∃ v, (Hd x.1)[j]? = some v ∧ w.ownsRow 0 5 1 v 256 (b8 p)
  sep : ∀ x ∈ s.fs, ∀ y ∈ s.fs, ∀ k, (P x.1).ownBlock = some k → (P y.1).ownBlock = some k → x.1 = y.1
def XS (bx : Nat) (FV LV : Value) (P : Int → Value) (Hd : Int → List Value) (s : Ds) (k : Nat) : Prop :=
  k = bx ∨ FV.ownBlock = some k ∨ LV.ownBlock = some k ∨ (∃ x ∈ s.fs, (P x.1).ownBlock = some k) ∨ ∃ x ∈ s.fs, ∃ (j : Nat) (p : Pg) (v : Value), x.2[j]? = some p ∧ (Hd x.1)[j]? = some v ∧ v.ownBlock = some k
section
variable {w : World} {bx : Nat} {FV LV : Value} {P : Int → Value} {Hd : Int → List Value} {R : Int} {F : List Int} {s : Ds}
theorem Rsk.turn {S : Nat → Prop} {w' : World} (H : Rsk w bx FV LV P Hd R F s) (ht : Turn S w w') (hs : ∀ k, XS bx FV LV P Hd s k → ¬ S k) : Rsk w' bx FV LV P Hd R F s :=
  ⟨ht.heap H.dsk (hs _ (.inl rfl)), own_turn H.flt ht (fun k hk => hs k (.inr (.inl hk))), own_turn H.lst ht (fun k hk => hs k (.inr (.inr (.inl hk)))),
    fun x hx => own_turn (H.prow x hx) ht (fun k hk => hs k (.inr (.inr (.inr (.inl ⟨x, hx, hk⟩))))),
    fun x hx j p hp => by
      obtain ⟨v, hv, ho⟩ := H.page x hx j p hp
      exact ⟨v, hv, own_turn ho ht (fun k hk => hs k (.inr (.inr (.inr (.inr ⟨x, hx, j, p, v, hp, hv, hk⟩)))))⟩, H.sep⟩
theorem Rsk.lt (H : Rsk w bx FV LV P Hd R F s) : ∀ k, XS bx FV LV P Hd s k → k < w.heap.size := by
  rintro k (rfl | h | h | ⟨x, hx, h⟩ | ⟨x, hx, j, p, v, hp, hv, h⟩)
  · exact lt_of_heap H.dsk
  · exact (H.flt.lt k h).2
  · exact (H.lst.lt k h).2
  · exact ((H.prow x hx).lt k h).2
  · obtain ⟨v', hv', ho⟩ := H.page x hx j p hp
    rw [hv] at hv'
    injection hv' with hv'
    rw [← hv'] at ho
    exact (ho.lt k h).2
theorem Rsk.cells (H : Rsk w bx FV LV P Hd R F s) :
    w.cell? ⟨bx, 0, none⟩ = some (.int .i64 R) ∧ w.cell? ⟨bx, 1, none⟩ = some FV ∧ w.cell? ⟨bx, 2, none⟩ = some LV ∧ w.cell? ⟨bx, 3, none⟩ = some (.int .i64 s.made) ∧ w.cell? ⟨bx, 4, none⟩ = some (.int .i64 s.deeds) ∧
      w.cell? ⟨bx, 5, none⟩ = some (.int .i64 s.reads) ∧ w.cell? ⟨bx, 6, none⟩ = some (.int .i64 s.writes) ∧ w.cell? ⟨bx, 7, none⟩ = some (.int .i64 s.used) ∧ w.cell? ⟨bx, 8, none⟩ = some (.int .i64 s.peak) ∧ bx < w.heap.size :=
  ⟨cell_of_blk H.dsk 0, cell_of_blk H.dsk 1, cell_of_blk H.dsk 2, cell_of_blk H.dsk 3, cell_of_blk H.dsk 4, cell_of_blk H.dsk 5, cell_of_blk H.dsk 6, cell_of_blk H.dsk 7, cell_of_blk H.dsk 8, lt_of_heap H.dsk⟩
theorem Rsk.frees (H : Rsk w bx FV LV P Hd R F s) : ∀ i, w.frozen? ⟨bx, i, none⟩ = false := fun i => free_of_blk H.dsk i
/-- The blocks are apart by what lies in them. -/
theorem Rsk.nes (H : Rsk w bx FV LV P Hd R F s) : (∀ k, FV.ownBlock = some k → k ≠ bx) ∧ (∀ k, LV.ownBlock = some k → k ≠ bx) ∧ (∀ x ∈ s.fs, ∀ k, (P x.1).ownBlock = some k → k ≠ bx) := by
  have h : ∀ {base : Nat} {e : TypeId} {size n : Nat} {v : Value} {xs : List Value}, w.ownsRow base e size v n xs → e ≠ 68 → ∀ k, v.ownBlock = some k → k ≠ bx := by
    intro base e size n v xs h hne k hk e2
    obtain ⟨cs, hc⟩ := own_obj h hk
    rw [e2, H.dsk] at hc
    injection hc with hc
    injection hc with _ h2
    exact hne h2.symm
  exact ⟨h H.flt (by decide), h H.lst (by decide), fun x hx => h (H.prow x hx) (by decide)⟩
theorem fcs_get {fs : List (Int × List Pg)} {i : Nat} {x : Int × List Pg} (P : Int → Value) (h : fs[i]? = some x) : (fcs P fs)[i * 2]? = some (.int .i64 x.1) ∧ (fcs P fs)[i * 2 + 1]? = some (P x.1) := by
  induction fs generalizing i with
  | nil => simp at h
  | cons y t ih =>
    rcases i with _ | i
    · obtain rfl : y = x := by simpa using h
      exact ⟨rfl, rfl⟩
    · have := ih (i := i) (by simpa using h)
      simp only [fcs, List.flatMap_cons] at this ⊢
      rw [show (i + 1) * 2 = (i * 2) + 2 by omega, show (i * 2) + 2 + 1 = (i * 2 + 1) + 2 by omega]
      simpa using this
/-- The list's cells, at file i. -/
theorem Rsk.at_ (H : Rsk w bx FV LV P Hd R F s) {i : Nat} {x : Int × List Pg} (h : s.fs[i]? = some x) : ∃ g c, LV = .slice (some ⟨g, 0, none⟩) s.fs.length c ∧ g < w.heap.size ∧ w.cell? ⟨g, i * 2, none⟩ = some (.int .i64 x.1) ∧ w.cell? ⟨g, i * 2 + 1, none⟩ = some (P x.1) ∧ w.frozen? ⟨g, i * 2 + 1, none⟩ = false := by
  obtain ⟨h1, h2⟩ := fcs_get P h
  have hl := (List.getElem?_eq_some_iff.1 h).1
  rcases H.lst.2 with ⟨e, e2⟩ | ⟨g, cap, cur, e, hb, hg, hnc, hm, _⟩
  · omega
  · have hc := H.lst.cells (g := g) (by rw [e]; rfl)
    refine ⟨g, cap, e, lt_of_heap hg, ?_, ?_, free_of_blk hg _⟩
    · have := hc _ _ h1
      rw [Addr.add_mid, Nat.zero_add] at this
      exact this
    · have := hc _ _ h2
      rw [Addr.add_mid, Nat.zero_add] at this
      exact this
def Ds.at_ (s : Ds) (n : Int) : Int := match s.fs.findIdx? fun x => x.1 == n with | some i => (i : Int) | none => -1
theorem Ds.at_none {s : Ds} {n : Int} (h : s.find n = none) : s.at_ n = -1 := by
  have : (s.fs.findIdx? fun x => x.1 == n) = none := by
    rw [List.findIdx?_eq_none_iff]
    intro x hx
    have := Ds.find_none h x hx
    simpa using this
  unfold Ds.at_
  rw [this]
theorem Ds.at_some {s : Ds} {n : Int} {l : List Pg} (h : s.find n = some l) : ∃ i : Nat, s.at_ n = (i : Int) ∧ s.fs[i]? = some (n, l) := by
  cases hf : s.fs.findIdx? fun x => x.1 == n with
  | none =>
    rw [List.findIdx?_eq_none_iff] at hf
    have := hf _ (Ds.find_mem h)
    simp at this
  | some i =>
    have hfi := hf
    rw [List.findIdx?_eq_some_iff_getElem] at hf
    obtain ⟨hl, h1, h2⟩ := hf
    refine ⟨i, by unfold Ds.at_; rw [hfi], ?_⟩
    have e : s.fs.find? (fun x => x.1 == n) = some s.fs[i] := by
      rw [List.find?_eq_some_iff_getElem]
      exact ⟨h1, i, hl, rfl, fun j hj => by have := h2 j hj; simpa using this⟩
    unfold Ds.find at h
    rw [e] at h
    have e1 : s.fs[i].1 = n := by simpa using h1
    have e2 : s.fs[i].2 = l := by simpa using h
    rw [List.getElem?_eq_getElem hl, ← e1, ← e2]
/-- No file before place i bears the number. -/
def Ds.upto (s : Ds) (n : Int) (i : Nat) : Prop := ∀ j x, j < i → s.fs[j]? = some x → x.1 ≠ n
theorem Ds.upto_hit {s : Ds} {n : Int} {i : Nat} {x : Int × List Pg} (h : s.upto n i) (hx : s.fs[i]? = some x) (e : x.1 = n) : s.at_ n = (i : Int) := by
  have hl := (List.getElem?_eq_some_iff.1 hx).1
  have : s.fs.findIdx? (fun x => x.1 == n) = some i := by
    rw [List.findIdx?_eq_some_iff_getElem]
    refine ⟨hl, ?_, fun j hj => ?_⟩
    · rw [List.getElem?_eq_getElem hl] at hx
      injection hx with hx
      rw [hx, e]
      simp
    · have := h j _ hj (List.getElem?_eq_getElem (by omega))
      simpa using this
  unfold Ds.at_
  rw [this]
theorem Ds.upto_end {s : Ds} {n : Int} (h : s.upto n s.fs.length) : s.at_ n = -1 := by
  have : (s.fs.findIdx? fun x => x.1 == n) = none := by
    rw [List.findIdx?_eq_none_iff]
    intro x hx
    obtain ⟨j, hj, rfl⟩ := List.mem_iff_getElem.1 hx
    have := h j _ hj (List.getElem?_eq_getElem hj)
    simpa using this
  unfold Ds.at_
  rw [this]
theorem xat (H : Rsk w bx FV LV P Hd R F s) (hl : s.fs.length ≤ 32768) (n : Int) :
    Calls Tryz.prog 89 #[dp bx, .int .i64 n] w fun e w' => e = .returned (.int .i64 (s.at_ n)) ∧ w' = w := by
  obtain ⟨c0, c1, c2, c3, c4, c5, c6, c7, c8, hb⟩ := H.cells
  obtain ⟨A, c, rfl⟩ := own_slice H.lst
  have HH := Lib.hid H
  clear c0 c1 c3 c4 c5 c6 c7 c8 H
  obtain ⟨m, hm⟩ : ∃ m, m = s.fs.length := ⟨_, rfl⟩
  rw [← hm] at c2 hl
  have HM := Lib.hid hm
  clear hm
  go_enter Tryz.func89, Tryz.ntmps89
  go_wp2
  go_loop [5] (fun y => ∃ (i : Nat), i ≤ m ∧ y = .int .i64 (i : Int) ∧ Hid (s.upto n i)) (fun y => m - (intOf y).toNat)
  case atStart => exact ⟨0, by omega, rfl, fun j x hj => absurd hj (by omega)⟩
  case round =>
    obtain ⟨i, hi, rfl, HU⟩ := hrel
    by_cases hlt : i < m
    · obtain ⟨x, hx⟩ : ∃ x, s.fs[i]? = some x := ⟨_, List.getElem?_eq_getElem (by rw [← HM.out]; exact hlt)⟩
      obtain ⟨g, c', e, hg, d0, d1, _⟩ := HH.out.at_ hx
      injection e with e1 e2 e3
      subst e1
      clear e2 e3
      obtain ⟨xn, xl⟩ := x
      dsimp only at d0 d1
      clear d1
      by_cases e : xn = n
      · subst e
        have HX := Lib.hid (Ds.upto_hit HU.out hx rfl)
        clear hx
        go_wp2
        go_ret
        exact ⟨by rw [HX.out]; rfl, rfl⟩
      · have HX : Hid (s.upto n (i + 1)) := fun j y hj hy => by
          by_cases h : j = i
          · subst h
            rw [hx] at hy
            injection hy with hy
            rw [← hy]
            exact e
          · exact HU.out j y (by omega) hy
        have hb : (xn == n) = false := by simpa using e
        clear hx e HU
        go_wp2
        go_round
        case measure => simp [intOf]; omega
        case rel => exact ⟨i + 1, by omega, by go_num, HX⟩
    · obtain rfl : i = m := by omega
      have HX := Lib.hid (Ds.upto_end (by rw [← HM.out]; exact HU.out))
      clear HU
      go_wp2
      go_ret
      exact ⟨by rw [HX.out]; rfl, rfl⟩
end
end Go.Proofs.YtkbapoeilcapfaaGreat

/- the document's disk: New, deed, Create. -/
namespace Go.Proofs.YtkbapoeilcapfaaGreat
open Go.RowKit
set_option linter.unusedVariables false
set_option linter.unusedSimpArgs false
set_option maxRecDepth 6000

theorem own_at1 {w : World} {base : Nat} {e : TypeId} {A : Option Addr} {n c : Nat} {xs : List Value} (h : w.ownsRow base e 1 (.slice A n c) n xs) {j : Nat} {u : Value} (hu : xs[j]? = some u) : ∃ g, A = some ⟨g, 0, none⟩ ∧ g < w.heap.size ∧ w.cell? ⟨g, j, none⟩ = some u := by
  rcases h.2 with ⟨e1, e2⟩ | ⟨g, cap, cur, e1, hb, hg, hnc, hm, _⟩
  · have := (List.getElem?_eq_some_iff.1 hu).1
    have := h.1
    omega
  · injection e1 with e1 e3
    subst e1
    have := h.cells (g := g) rfl j u hu
    rw [Addr.add_mid, Nat.zero_add] at this
    exact ⟨g, rfl, lt_of_heap hg, this⟩
section
variable {w : World} {bx : Nat} {FV LV : Value} {P : Int → Value} {Hd : Int → List Value} {R : Int} {F : List Int} {s : Ds}
/-- Numbers of the disk have turned. -/
theorem Rsk.upd {w' : World} {s' : Ds} (H : Rsk w bx FV LV P Hd R F s) (ht : Turn (fun k => k = bx) w w') (ho : w'.heap[bx]? = some (rskObj FV LV R s')) (hf : s'.fs = s.fs) : Rsk w' bx FV LV P Hd R F s' := by
  have hT : ∀ {e : TypeId}, e ≠ 68 → ∀ k, k = bx → ∃ cs t, w.heap[k]? = some (.cells cs t (0, 0)) ∧ t ≠ e := by
    rintro e he k rfl
    exact ⟨_, _, H.dsk, fun e2 => he e2.symm⟩
  refine ⟨ho, own_turnT H.flt ht (hT (by decide)), ?_, ?_, ?_, ?_⟩
  · rw [hf]
    exact own_turnT H.lst ht (hT (by decide))
  · rw [hf]
    exact fun x hx => own_turnT (H.prow x hx) ht (hT (by decide))
  · rw [hf]
    intro x hx j p hp
    obtain ⟨v, hv, ho⟩ := H.page x hx j p hp
    exact ⟨v, hv, own_turnT ho ht (hT (by decide))⟩
  · rw [hf]
    exact H.sep
def XDeed (w : World) (bx : Nat) (FV LV : Value) (P : Int → Value) (Hd : Int → List Value) (R : Int) (F : List Int) (s : Ds) (w' : World) : Prop :=
  Rsk w' bx FV LV P Hd R F s.deed_ ∧ Turn (fun k => k = bx) w w'
theorem XDeed.drewN {w' : World} (h : XDeed w bx FV LV P Hd R F s w') (m : Nat) : XDeed w bx FV LV P Hd R F s (w'.drewN m) :=
  ⟨h.1.turn ((Turn.refl (fun _ => False) w').drewN m) (fun _ _ => id), h.2.drewN m⟩
theorem notin_step {F : List Int} {i : Nat} {x n : Int} (h : ∀ (j : Nat) y, j < i → F[j]? = some y → y ≠ n) (hx : F[i]? = some x) (hne : x ≠ n) : ∀ (j : Nat) y, j < i + 1 → F[j]? = some y → y ≠ n := fun j y hj hy => by
  by_cases e : j = i
  · subst e
    rw [hx] at hy
    injection hy with hy
    rw [← hy]
    exact hne
  · exact h j y (by omega) hy
theorem notin_end {F : List Int} {n : Int} (h : ∀ (j : Nat) y, j < F.length → F[j]? = some y → y ≠ n) : F.contains n = false := by
  rw [List.contains_eq_mem]
  simp only [decide_eq_false_iff_not]
  intro hm
  obtain ⟨j, hj, e⟩ := List.mem_iff_getElem.1 hm
  exact h j _ hj (List.getElem?_eq_getElem hj) e
def notinB (F : List Int) (n : Int) (i : Nat) : Prop := ∀ (j : Nat) y, j < i → F[j]? = some y → y ≠ n
theorem xdeed (H : Rsk w bx FV LV P Hd R F s) (h0 : 0 ≤ s.deeds) (h1 : s.deeds ≤ 1000000000) (hF : F.length ≤ 9223372036854775807) :
    Calls Tryz.prog 118 #[dp bx] w fun e w' => e = .returned (.bool (!F.contains (s.deeds + 1))) ∧ XDeed w bx FV LV P Hd R F s w' := by
  have hT : Turn (fun k => k = bx) w (w.setCell ⟨bx, 4, none⟩ (.int .i64 (s.deeds + 1))) := (Turn.refl (fun k => k = bx) w).cell bx 4 _ rfl
  have HP : Hid (XDeed w bx FV LV P Hd R F s (w.setCell ⟨bx, 4, none⟩ (.int .i64 (s.deeds + 1)))) := ⟨H.upd hT (blk_set H.dsk 4 _) rfl, hT⟩
  obtain ⟨c0, c1, c2, c3, c4, c5, c6, c7, c8, hb⟩ := H.cells
  have f4 := H.frees 4
  obtain ⟨n, hn⟩ : ∃ n, n = F.length := ⟨_, rfl⟩
  rw [← hn] at hF
  have HN := Lib.hid hn
  clear H hT hn c0 c1 c2 c3 c5 c6 c7 c8
  go_enter Tryz.func118, Tryz.ntmps118
  go_wp2
  generalize (w.setCell ⟨bx, 4, none⟩ (.int .i64 (s.deeds + 1))) = w1 at HP ⊢
  clear c4 f4
  go_loopw [3] (fun y wr => ∃ (i : Nat), i ≤ n ∧ y = .int .i64 (i : Int) ∧ Hid (notinB F (s.deeds + 1) i) ∧ Hid (XDeed w bx FV LV P Hd R F s wr)) (fun y _ => n - (intOf y).toNat)
  case atStart => exact ⟨0, by omega, rfl, fun j y hj => absurd hj (by omega), HP⟩
  case round =>
    clear HP
    obtain ⟨i, hi, rfl, HU, HX⟩ := hrel
    have d1 := HX.out.1.cells.2.1
    have d4 := HX.out.1.cells.2.2.2.2.1
    dsimp only [Ds.deed_] at d4
    obtain ⟨A, c, rfl⟩ := own_slice HX.out.1.flt
    rw [← HN.out] at d1
    by_cases hlt : i < n
    · obtain ⟨x, hx⟩ : ∃ x, F[i]? = some x := ⟨_, List.getElem?_eq_getElem (by rw [← HN.out]; exact hlt)⟩
      obtain ⟨g, rfl, hg, hc⟩ := own_at1 HX.out.1.flt (j := i) (u := .int .i64 x) (by rw [List.getElem?_map, hx]; rfl)
      by_cases e : x = s.deeds + 1
      · have HB := Lib.hid (show F.contains (s.deeds + 1) = true from by rw [List.contains_eq_mem]; simp only [decide_eq_true_eq]; rw [← e]; exact List.mem_of_getElem? hx)
        subst e
        clear hx HU
        go_wp2
        go_quiet (fail)
        go_wp2
        go_ret
        exact ⟨by rw [HB.out]; rfl, HX.out.drewN _⟩
      · have hb : (x == s.deeds + 1) = false := by simpa using e
        have HU2 : Hid (notinB F (s.deeds + 1) (i + 1)) := notin_step HU.out hx e
        clear hx HU e
        go_wp2
        go_quiet (fail)
        go_wp2
        go_roundw
        case measure => simp [intOf]; omega
        case rel => exact ⟨i + 1, by omega, by go_num, HU2, HX.out.drewN _⟩
    · obtain rfl : i = n := by omega
      have HB := Lib.hid (notin_end (by rw [← HN.out]; exact HU.out))
      clear HU
      go_wp2
      go_ret
      exact ⟨by rw [HB.out]; rfl, HX.out⟩
end
end Go.Proofs.YtkbapoeilcapfaaGreat

/- the document's disk: Create. -/
namespace Go.Proofs.YtkbapoeilcapfaaGreat
open Go.RowKit
set_option linter.unusedVariables false
set_option linter.unusedSimpArgs false
set_option maxRecDepth 6000

/-- The document's disk as a thing. -/
def XR (bx : Nat) (R : Int) (F : List Int) (s : Ds) : Res := fun w S => ∃ FV LV P Hd, Rsk w bx FV LV P Hd R F s ∧ S = XS bx FV LV P Hd s
theorem XR_good (bx : Nat) (R : Int) (F : List Int) (s : Ds) : Good (XR bx R F s) := by
  refine ⟨?_, ?_⟩
  · rintro w S ⟨FV, LV, P, Hd, h, rfl⟩ k hk
    exact h.lt k hk
  · rintro w w' S T ⟨FV, LV, P, Hd, h, rfl⟩ ht hn
    exact ⟨FV, LV, P, Hd, h.turn ht hn, rfl⟩
theorem infFile : (Tryz.prog.info? 158).map (fun i => (i.zero, i.size, i.bytes)) = some (some (.agg #[.int .i64 0, .slice none 0 0]), 2, 32) := by kernel_rfl
def updH (V : Int → List Value) (n : Int) (v : List Value) : Int → List Value := fun m => if m = n then v else V m
theorem updH_same (V : Int → List Value) (n : Int) (v : List Value) : updH V n v n = v := if_pos rfl
theorem updH_ne (V : Int → List Value) {n m : Int} (v : List Value) (h : m ≠ n) : updH V n v m = V m := if_neg h
section
variable {w : World} {bx : Nat} {FV LV : Value} {P : Int → Value} {Hd : Int → List Value} {R : Int} {F : List Int} {s : Ds}
theorem Rsk.ch {w' : World} {FV' LV' : Value} {P' : Int → Value} {Hd' : Int → List Value} {s' : Ds} (H : Rsk w' bx FV' LV' P' Hd' R F s') (ht : Turn (XS bx FV LV P Hd s) w w') (hs : ∀ k, XS bx FV' LV' P' Hd' s' k → XS bx FV LV P Hd s k ∨ w.heap.size ≤ k) : Ch w (XS bx FV LV P Hd s) (XR bx R F s') w' :=
  ⟨_, ⟨FV', LV', P', Hd', H, rfl⟩, ht, hs⟩
theorem XDeed.ch {w' : World} (h : XDeed w bx FV LV P Hd R F s w') : Ch w (XS bx FV LV P Hd s) (XR bx R F s.deed_) w' :=
  Rsk.ch h.1 (h.2.mono fun k hk => .inl hk) (fun k hk => .inl hk)
theorem fcs_congr {P P' : Int → Value} {fs : List (Int × List Pg)} (h : ∀ x ∈ fs, P x.1 = P' x.1) : fcs P fs = fcs P' fs := by
  unfold fcs
  induction fs with
  | nil => rfl
  | cons y t ih =>
    rw [List.flatMap_cons, List.flatMap_cons, ih (fun x hx => h x (by simp [hx])), h y (by simp)]
/-- The list has a new row perhaps, and a file more. -/
theorem Rsk.newFile {w' : World} {v1 : Value} (H : Rsk w bx FV LV P Hd R F s) (hnum : ∀ x ∈ s.fs, x.1 ≤ s.made) (ht : Turn (fun k => k = bx ∨ LV.ownBlock = some k) w w')
    (ho : w'.heap[bx]? = some (rskObj FV v1 R ⟨s.made + 1, s.deeds, s.reads, s.writes, s.used, s.peak, s.fs ++ [(s.made + 1, [])]⟩)) (hl : w'.ownsRow 0 158 2 v1 (s.fs.length + 1) (fcs P s.fs ++ [.int .i64 (s.made + 1), .slice none 0 0]))
    (hor : v1.ownBlock = LV.ownBlock ∨ ∃ b, v1.ownBlock = some b ∧ w.heap.size ≤ b) :
    Ch w (XS bx FV LV P Hd s) (XR bx R F ⟨s.made + 1, s.deeds, s.reads, s.writes, s.used, s.peak, s.fs ++ [(s.made + 1, [])]⟩) w' := by
  have hne : ∀ x ∈ s.fs, x.1 ≠ s.made + 1 := fun x hx => by have := hnum x hx; omega
  have hT : ∀ {e : TypeId}, e ≠ 68 → e ≠ 158 → ∀ k, (k = bx ∨ LV.ownBlock = some k) → ∃ cs t, w.heap[k]? = some (.cells cs t (0, 0)) ∧ t ≠ e := by
    rintro e h1 h2 k (rfl | hk)
    · exact ⟨_, _, H.dsk, fun e2 => h1 e2.symm⟩
    · obtain ⟨cs, hc⟩ := own_obj H.lst hk
      exact ⟨cs, _, hc, fun e2 => h2 e2.symm⟩
  refine Rsk.ch (P' := updV P (s.made + 1) (.slice none 0 0)) (Hd' := updH Hd (s.made + 1) []) ⟨ho, own_turnT H.flt ht (hT (by decide) (by decide)), ?_, ?_, ?_, ?_⟩ (ht.mono fun k hk => hk.elim .inl (fun h => .inr (.inr (.inl h)))) ?_
  · dsimp only
    have e : fcs (updV P (s.made + 1) (.slice none 0 0)) (s.fs ++ [(s.made + 1, [])]) = fcs P s.fs ++ [.int .i64 (s.made + 1), .slice none 0 0] := by
      rw [fcs, List.flatMap_append]
      congr 1
      · exact fcs_congr fun x hx => updV_ne _ _ (hne x hx)
      · simp [updV_same]
    rw [e, List.length_append]
    exact hl
  · intro x hx
    rcases List.mem_append.1 hx with hx | hx
    · rw [updV_ne _ _ (hne x hx), updH_ne _ _ (hne x hx)]
      exact own_turnT (H.prow x hx) ht (hT (by decide) (by decide))
    · obtain rfl := List.mem_singleton.1 hx
      rw [updV_same, updH_same]
      exact ⟨rfl, .inl ⟨rfl, rfl⟩⟩
  · intro x hx j p hp
    rcases List.mem_append.1 hx with hx | hx
    · rw [updH_ne _ _ (hne x hx)]
      obtain ⟨v, hv, ho⟩ := H.page x hx j p hp
      exact ⟨v, hv, own_turnT ho ht (hT (by decide) (by decide))⟩
    · obtain rfl := List.mem_singleton.1 hx
      simp at hp
  · intro x hx y hy k hk hl
    rcases List.mem_append.1 hx with hx | hx
    · rcases List.mem_append.1 hy with hy | hy
      · rw [updV_ne _ _ (hne x hx)] at hk
        rw [updV_ne _ _ (hne y hy)] at hl
        exact H.sep x hx y hy k hk hl
      · obtain rfl := List.mem_singleton.1 hy
        rw [updV_same] at hl
        simp [Value.ownBlock] at hl
    · obtain rfl := List.mem_singleton.1 hx
      rw [updV_same] at hk
      simp [Value.ownBlock] at hk
  · rintro k (rfl | h | h | ⟨x, hx, h⟩ | ⟨x, hx, j, p, v, hp, hv, h⟩)
    · exact .inl (.inl rfl)
    · exact .inl (.inr (.inl h))
    · rcases hor with e | ⟨b, e, hb⟩
      · rw [e] at h
        exact .inl (.inr (.inr (.inl h)))
      · rw [e] at h
        injection h with h
        exact .inr (by omega)
    · rcases List.mem_append.1 hx with hx | hx
      · rw [updV_ne _ _ (hne x hx)] at h
        exact .inl (.inr (.inr (.inr (.inl ⟨x, hx, h⟩))))
      · obtain rfl := List.mem_singleton.1 hx
        rw [updV_same] at h
        simp [Value.ownBlock] at h
    · rcases List.mem_append.1 hx with hx | hx
      · rw [updH_ne _ _ (hne x hx)] at hv
        exact .inl (.inr (.inr (.inr (.inr ⟨x, hx, j, p, v, hp, hv, h⟩))))
      · obtain rfl := List.mem_singleton.1 hx
        simp at hp
theorem xcreate_full (H : Rsk w bx FV LV P Hd R F s) (h : 32768 ≤ s.fs.length) : Calls Tryz.prog 84 #[dp bx] w fun e w' => e = .returned (.tuple #[.int .i64 0, .int .i64 2]) ∧ w' = w := by
  obtain ⟨c0, c1, c2, c3, c4, c5, c6, c7, c8, hb⟩ := H.cells
  obtain ⟨A, c, rfl⟩ := own_slice H.lst
  obtain ⟨m, hm⟩ : ∃ m, m = s.fs.length := ⟨_, rfl⟩
  rw [← hm] at c2 h
  have h' : decide ((m : Int) ≥ 32768) = true := by simp; omega
  clear H hm h
  go_enter Tryz.func84, Tryz.ntmps84
  go_wp2
  go_ret2
  exact ⟨by trivial, rfl⟩
set_option maxHeartbeats 1000000 in
theorem xcreate_ok (H : Rsk w bx FV LV P Hd R F s) (h : s.fs.length < 32768) (h0 : 0 ≤ s.made) (h1 : s.made ≤ 1000000000) (hnum : ∀ x ∈ s.fs, x.1 ≤ s.made) :
    Calls Tryz.prog 84 #[dp bx] w fun e w' => e = .returned (.tuple #[.int .i64 (s.made + 1), .int .i64 0]) ∧ Ch w (XS bx FV LV P Hd s) (XR bx R F ⟨s.made + 1, s.deeds, s.reads, s.writes, s.used, s.peak, s.fs ++ [(s.made + 1, [])]⟩) w' := by
  obtain ⟨c0, c1, c2, c3, c4, c5, c6, c7, c8, hb⟩ := H.cells
  have f2 := H.frees 2
  have f3 := H.frees 3
  obtain ⟨A, c, rfl⟩ := own_slice H.lst
  obtain ⟨n1, n2, n3⟩ := H.nes
  have HN := Lib.hid n2
  have HX := Lib.hid (fun (w' : World) (v1 : Value) ht ho hl hor => H.newFile (w' := w') (v1 := v1) hnum ht ho hl hor)
  have HT : Hid (Turn (fun k => k = bx) w (w.setCell ⟨bx, 3, none⟩ (.int .i64 (s.made + 1)))) := (Turn.refl (fun k => k = bx) w).cell bx 3 _ rfl
  have HO : Hid ((w.setCell ⟨bx, 3, none⟩ (.int .i64 (s.made + 1))).heap[bx]? = some (rskObj FV (.slice A s.fs.length c) R ⟨s.made + 1, s.deeds, s.reads, s.writes, s.used, s.peak, s.fs⟩)) := blk_set H.dsk 3 _
  have HL : Hid ((w.setCell ⟨bx, 3, none⟩ (.int .i64 (s.made + 1))).ownsRow 0 158 2 (.slice A s.fs.length c) s.fs.length (fcs P s.fs)) := own_turn H.lst HT.out (fun k hk => n2 k hk)
  obtain ⟨m, hm⟩ : ∃ m, m = s.fs.length := ⟨_, rfl⟩
  rw [← hm] at c2 h HX HN HO HL ⊢
  have h' : decide ((m : Int) ≥ 32768) = false := by simp; omega
  have hm2 : m ≤ 40000 := by omega
  obtain ⟨xs, hxs⟩ : ∃ xs, xs = fcs P s.fs := ⟨_, rfl⟩
  rw [← hxs] at HL HX
  clear H hm h n1 n2 n3 hnum hxs
  go_enter Tryz.func84, Tryz.ntmps84
  go_wp2
  clear c0 c1 c2 c3 c4 c5 c6 c7 c8 f2 f3
  generalize (w.setCell ⟨bx, 3, none⟩ (.int .i64 (s.made + 1))) = w1 at HT HO HL ⊢
  have d2 : w1.cell? ⟨bx, 2, none⟩ = some (.slice A m c) := cell_of_blk HO.out 2
  have d3 : w1.cell? ⟨bx, 3, none⟩ = some (.int .i64 (s.made + 1)) := cell_of_blk HO.out 3
  have e2 : (w1.alloc (.cells #[.int .i64 (s.made + 1), .slice none 0 0] 158)).cell? ⟨bx, 2, none⟩ = some (.slice A m c) := (World.cell?_alloc_lt _ _ _ (World.block_lt_of_cell? w1 _ d2)).trans d2
  go_region_law (refine step_wp rfl (show Oper.wp _ _ _ (w1.drew.alloc (.cells #[.int .i64 (s.made + 1), .slice none 0 0] 158)) _ _ from op_app1 (W := w1.drew) 0 (.tmp 21) (.tmp 27) 66 158 (.agg #[.int .i64 0, .slice none 0 0]) 2 32 rfl Tryz.underlying66 infFile rfl (by omega) (by omega) (.slice A m c) m xs [.int .i64 (s.made + 1), .slice none 0 0] rfl rfl (by simp) rfl (by simp [Value.oneCell']) HL.out (Nat.zero_le _) (by omega) ?_); intro v2 w2 h2 t2 hor2; obtain ⟨A2, k2, rfl⟩ := own_slice h2; have HO2 := Lib.hid (t2.heap (w := w1.drew) (k := bx) HO.out (fun e => HN.out _ e rfl)); have g2 : w2.cell? ⟨bx, 2, none⟩ = some (.slice A m c) := cell_of_blk HO2.out 2; have g3 : w2.cell? ⟨bx, 3, none⟩ = some (.int .i64 (s.made + 1)) := cell_of_blk HO2.out 3; have r2 := free_of_blk HO2.out 2; have HH2 := Lib.hid (And.intro h2 (And.intro t2 hor2)); clear h2 t2 hor2)
  all_goals
    go_wp2
    go_ret2
    obtain ⟨h2, t2, hor2⟩ := HH2.out
    have hz := HT.out.size
    have t1 : Turn (fun k => k = bx ∨ (Value.slice A m c).ownBlock = some k) w w1.drew := HT.out.drew.mono (fun k hk => .inl hk)
    have nb : ∀ k, (Value.slice A2 (m + 1) k2).ownBlock = some k → k ≠ bx := by
      intro k hk
      obtain ⟨cs, hc⟩ := own_obj h2 hk
      intro e
      rw [e, HO2.out] at hc
      injection hc with hc
      injection hc with _ e2
      exact absurd e2 (by decide)
    refine ⟨by trivial, HX.out _ (.slice A2 (m + 1) k2) ?_ ?_ ?_ ?_⟩
    · exact (t1.then_ t2 (fun k hk => .inl (.inr hk))).cell bx 2 _ (.inl rfl)
    · exact blk_set HO2.out 2 (.slice A2 (m + 1) k2)
    · exact own_turn h2 ((Turn.refl (fun k => k = bx) w2).cell bx 2 _ rfl) nb
    · rcases hor2 with e | ⟨b, e, hb⟩
      · exact .inl e
      · exact .inr ⟨b, e, Nat.le_trans hz hb⟩
end
end Go.Proofs.YtkbapoeilcapfaaGreat

/- the document's disk: New, Read. -/
namespace Go.Proofs.YtkbapoeilcapfaaGreat
open Go.RowKit
set_option linter.unusedVariables false
set_option linter.unusedSimpArgs false
set_option maxRecDepth 6000

theorem infI : (Tryz.prog.info? 3).map (fun i => (i.zero, i.size, i.bytes)) = some (some (.int .i64 0), 1, 8) := by kernel_rfl
theorem xnew_no {w : World} {g : Int} {A : Option Addr} {k c : Nat} (h : g < 0 ∨ 16384 < g) : Calls Tryz.prog 11 #[.int .i64 g, .slice A k c] w fun e w' => e = .returned (.pointer none) ∧ w' = w := by
  by_cases h1 : g < 0
  · clear h
    go_enter Tryz.func11, Tryz.ntmps11
    go_wp2
    go_ret
    exact ⟨by trivial, rfl⟩
  · have h2 : 16384 < g := by omega
    clear h
    go_enter Tryz.func11, Tryz.ntmps11
    go_wp2
    go_ret
    exact ⟨by trivial, rfl⟩
set_option maxHeartbeats 1000000 in
theorem xnew_yes {w : World} {g : Int} {A : Option Addr} {k c : Nat} {F : List Int} (h1 : 0 ≤ g) (h2 : g ≤ 16384) (hk : k ≤ 100000) (hr : RdI w A k F) :
    Calls Tryz.prog 11 #[.int .i64 g, .slice A k c] w fun e w' => ∃ bx, e = .returned (dp bx) ∧ Ch w (fun _ => False) (XR bx g F Ds.new) w' := by
  have b0 : Below w.heap.size w (w.alloc (.cells #[] 3)) := (Below.refl _ _).alloc (Nat.le_refl _) _
  have ho := World.ownsRow_lit (base := w.heap.size) (e := 3) (size := 1) w #[] 0 (Nat.le_refl _) (by simp [maxLen]) (by simp)
  have HR := Lib.hid (And.intro ho (And.intro (hr.below b0) (And.intro hr.1 b0)))
  clear hr b0 ho
  go_enter Tryz.func11, Tryz.ntmps11
  go_wp2_with (at_builtin; refine wp_appendL w.heap.size rfl (.tmp 12) (.tmp 13) 22 3 (.int .i64 0) 1 8 rfl Tryz.underlying22 infI rfl (by omega) (by omega) (.slice (some ⟨w.heap.size, 0, none⟩) 0 0) 0 [] rfl A k c (F.map (Value.int .i64)) rfl (by simp [HR.out.2.2.1]) (fun h => by obtain ⟨ad, e, _, hc⟩ := HR.out.2.1.2.2.2 h; exact ⟨ad, e, fun j u hu => by rw [List.getElem?_map] at hu; cases hx : F[j]? with | none => rw [hx] at hu; cases hu | some x => rw [hx] at hu; injection hu with hu; rw [← hu]; exact hc j x hx⟩) (by intro u hu; obtain ⟨x, _, rfl⟩ := List.mem_map.1 hu; rfl) HR.out.1 (by simp) (by omega) ?_; intro v1 w1 h1 t1 _; rw [Nat.zero_add, List.nil_append] at h1; obtain ⟨A1, c1, rfl⟩ := own_slice h1)
  go_ret
  have b1 := below_turn HR.out.2.2.2 t1 (by simp) (fun k hk => by simp [Value.ownBlock] at hk; omega)
  have hz := b1.size
  refine ⟨w1.heap.size, by trivial, XS w1.heap.size (.slice A1 k c1) (.slice none 0 0) (fun _ => .slice none 0 0) (fun _ => []) Ds.new, ⟨_, _, _, _, ⟨?_, ?_, ⟨rfl, .inl ⟨rfl, rfl⟩⟩, by simp [Ds.new], by simp [Ds.new], by simp [Ds.new]⟩, rfl⟩, Turn.of_below (b1.alloc hz _) _, ?_⟩
  · exact heap_alloc_new _ _
  · have e : F.length = k := HR.out.2.2.1
    rw [e]
    exact own_lower (h1.alloc _) (Nat.zero_le _)
  · rintro j (rfl | h | h | ⟨x, hx, _⟩ | ⟨x, hx, _⟩)
    · exact .inr hz
    · exact .inr (own_ge h1 h)
    · simp [Value.ownBlock] at h
    · simp [Ds.new] at hx
    · simp [Ds.new] at hx
section
variable {w : World} {bx : Nat} {FV LV : Value} {P : Int → Value} {Hd : Int → List Value} {R : Int} {F : List Int} {s : Ds}
theorem Rsk.cellL {g c : Nat} (H : Rsk w bx FV LV P Hd R F s) (e : LV = .slice (some ⟨g, 0, none⟩) s.fs.length c) {i : Nat} {x : Int × List Pg} (h : s.fs[i]? = some x) : w.cell? ⟨g, i * 2 + 1, none⟩ = some (P x.1) ∧ w.frozen? ⟨g, i * 2 + 1, none⟩ = false := by
  obtain ⟨g', c', e', _, _, h2, h3⟩ := H.at_ h
  rw [e] at e'
  injection e' with e1 _ _
  injection e1 with e1
  injection e1 with e1 _ _
  subst e1
  exact ⟨h2, h3⟩
theorem Rsk.shapeL (H : Rsk w bx FV LV P Hd R F s) {i : Nat} {x : Int × List Pg} (h : s.fs[i]? = some x) : ∃ g c, LV = .slice (some ⟨g, 0, none⟩) s.fs.length c := by
  obtain ⟨g', c', e', _⟩ := H.at_ h
  exact ⟨g', c', e'⟩
/-- The pages of a file: the row of their slices, and each. -/
theorem Rsk.shapeP (H : Rsk w bx FV LV P Hd R F s) {x : Int × List Pg} (hx : x ∈ s.fs) {j : Nat} {p : Pg} (hp : x.2[j]? = some p) :
    ∃ g c ad c2, P x.1 = .slice (some ⟨g, 0, none⟩) x.2.length c ∧ (Hd x.1)[j]? = some (.slice (some ad) 256 c2) := by
  obtain ⟨v, hv, ho⟩ := H.page x hx j p hp
  obtain ⟨A, c, e⟩ := own_slice (H.prow x hx)
  have hr := H.prow x hx
  rw [e] at hr
  obtain ⟨g, rfl, _⟩ := own_at1 hr hv
  obtain ⟨B, c2, rfl⟩ := own_slice ho
  rcases ho.2 with ⟨e1, e2⟩ | ⟨g', cap, cur, e1, _⟩
  · omega
  · injection e1 with e1 _ _
    rw [e1] at hv
    exact ⟨g, c, _, c2, e, hv⟩
theorem Rsk.cellP {g c : Nat} {ad : Addr} {c2 : Nat} (H : Rsk w bx FV LV P Hd R F s) {x : Int × List Pg} (hx : x ∈ s.fs) {j : Nat} {p : Pg} (hp : x.2[j]? = some p) (e : P x.1 = .slice (some ⟨g, 0, none⟩) x.2.length c) (hv : (Hd x.1)[j]? = some (.slice (some ad) 256 c2)) :
    w.cell? ⟨g, j, none⟩ = some (.slice (some ad) 256 c2) ∧ At8 w ad p := by
  have hr := H.prow x hx
  rw [e] at hr
  obtain ⟨g', e', _, hc⟩ := own_at1 hr hv
  injection e' with e'
  injection e' with e'
  subst e'
  obtain ⟨v, hv', ho⟩ := H.page x hx j p hp
  rw [hv] at hv'
  injection hv' with hv'
  rw [← hv'] at ho
  refine ⟨hc, ?_⟩
  rcases ho.2 with ⟨e1, e2⟩ | ⟨g2, cap, cur, e1, hb, hg, hnc, hm, _⟩
  · omega
  · injection e1 with e1 _ _
    injection e1 with e1
    subst e1
    exact ⟨lt_of_heap hg, ho.cells (g := g2) rfl⟩
end
end Go.Proofs.YtkbapoeilcapfaaGreat

/- the document's disk: Read. -/
namespace Go.Proofs.YtkbapoeilcapfaaGreat
open Go.RowKit
set_option linter.unusedVariables false
set_option linter.unusedSimpArgs false
set_option maxRecDepth 6000

theorem lit_row (W : World) (e : TypeId) {N : Nat} (h : N = W.heap.size) : (W.alloc (.cells #[] e)).ownsRow N e 1 (.slice (some ⟨N, 0, none⟩) 0 0) 0 [] := by
  subst h
  exact World.ownsRow_lit (base := W.heap.size) (e := e) (size := 1) W #[] 0 (Nat.le_refl _) (by simp [maxLen]) (by simp)
section
variable {w : World} {bx : Nat} {FV LV : Value} {P : Int → Value} {Hd : Int → List Value} {R : Int} {F : List Int} {s : Ds}
theorem xread_no (H : Rsk w bx FV LV P Hd R F s) (hl : s.fs.length ≤ 32768) {n k : Int} (hf : s.find n = none ∨ k < 0) :
    Calls Tryz.prog 90 #[dp bx, .int .i64 n, .int .i64 k] w fun e w' => e = .returned (.tuple #[.slice none 0 0, .int .i64 4]) ∧ w' = w := by
  have HA := xat H hl n
  by_cases hk : k < 0
  · obtain ⟨a, ha⟩ : ∃ a, a = s.at_ n := ⟨_, rfl⟩
    rw [← ha] at HA
    have HA := Lib.hid HA
    by_cases h0 : a < 0
    · clear H hf ha
      go_enter Tryz.func90, Tryz.ntmps90
      go_wp2_with (go_at_call 89; refine HA.out.mono ?_; rintro e w1 ⟨rfl, hw⟩; obtain rfl := hw.symm; clear hw)
      go_ret2
      exact ⟨by trivial, rfl⟩
    · clear H hf ha
      go_enter Tryz.func90, Tryz.ntmps90
      go_wp2_with (go_at_call 89; refine HA.out.mono ?_; rintro e w1 ⟨rfl, hw⟩; obtain rfl := hw.symm; clear hw)
      go_ret2
      exact ⟨by trivial, rfl⟩
  · have hn : s.find n = none := hf.elim id (fun h => absurd h hk)
    rw [Ds.at_none hn] at HA
    have HA := Lib.hid HA
    clear H hf hn
    go_enter Tryz.func90, Tryz.ntmps90
    go_wp2_with (go_at_call 89; refine HA.out.mono ?_; rintro e w1 ⟨rfl, hw⟩; obtain rfl := hw.symm; clear hw)
    go_ret2
    exact ⟨by trivial, rfl⟩
theorem xread_long (H : Rsk w bx FV LV P Hd R F s) (hl : s.fs.length ≤ 32768) {n k : Int} {l : List Pg} (hf : s.find n = some l) (hk0 : 0 ≤ k) (hk : (l.length : Int) ≤ k) :
    Calls Tryz.prog 90 #[dp bx, .int .i64 n, .int .i64 k] w fun e w' => e = .returned (.tuple #[.slice none 0 0, .int .i64 4]) ∧ w' = w := by
  have HA := xat H hl n
  obtain ⟨i, hi, hx⟩ := Ds.at_some hf
  rw [hi] at HA
  have HA := Lib.hid HA
  obtain ⟨c0, c1, c2, c3, c4, c5, c6, c7, c8, hb⟩ := H.cells
  obtain ⟨g, c, e⟩ := H.shapeL hx
  have hil := (List.getElem?_eq_some_iff.1 hx).1
  have hc := (H.cellL e hx).1
  obtain ⟨A, cA, eP⟩ := own_slice (H.prow _ (List.mem_of_getElem? hx))
  dsimp only at hc eP
  rw [eP] at hc
  rw [e] at c2
  obtain ⟨m, hm⟩ : ∃ m, m = s.fs.length := ⟨_, rfl⟩
  rw [← hm] at c2 hl hil
  clear H hf hi hx e eP hm
  go_enter Tryz.func90, Tryz.ntmps90
  go_wp2_with (go_at_call 89; refine HA.out.mono ?_; rintro e w1 ⟨rfl, hw⟩; obtain rfl := hw.symm; clear hw)
  go_ret2
  exact ⟨by trivial, rfl⟩
theorem xdeed_at (H : Rsk w bx FV LV P Hd R F s) (K : DOk R s) (hd : s.deeds ≤ 1000000000) (hF : F.length ≤ 9223372036854775807) {b : Bool} (hb : F.contains (s.deeds + 1) = b) :
    Calls Tryz.prog 118 #[dp bx] w fun e w' => e = .returned (.bool (!b)) ∧ XDeed w bx FV LV P Hd R F s w' := by
  have := xdeed H (by have := K.acts; omega) hd hF
  rw [hb] at this
  exact this
theorem xread_fault (H : Rsk w bx FV LV P Hd R F s) (K : DOk R s) (hd : s.deeds ≤ 1000000000) (hF : F.length ≤ 9223372036854775807) {n k : Int} {l : List Pg} (hf : s.find n = some l) (hk0 : 0 ≤ k) (hk : k < (l.length : Int)) (hc : F.contains (s.deeds + 1) = true) :
    Calls Tryz.prog 90 #[dp bx, .int .i64 n, .int .i64 k] w fun e w' => e = .returned (.tuple #[.slice none 0 0, .int .i64 50]) ∧ Ch w (XS bx FV LV P Hd s) (XR bx R F s.deed_) w' := by
  have hl := K.len
  have HA := xat H hl n
  obtain ⟨i, hi, hx⟩ := Ds.at_some hf
  rw [hi] at HA
  have HA := Lib.hid HA
  have HD := Lib.hid ((xdeed_at H K hd hF hc).mono fun e w' h => (⟨h.1, h.2.ch⟩ : e = .returned (.bool false) ∧ Ch w (XS bx FV LV P Hd s) (XR bx R F s.deed_) w'))
  obtain ⟨c0, c1, c2, c3, c4, c5, c6, c7, c8, hb⟩ := H.cells
  obtain ⟨g, c, e⟩ := H.shapeL hx
  have hil := (List.getElem?_eq_some_iff.1 hx).1
  have hcl := (H.cellL e hx).1
  obtain ⟨A, cA, eP⟩ := own_slice (H.prow _ (List.mem_of_getElem? hx))
  dsimp only at hcl eP
  rw [eP] at hcl
  rw [e] at c2
  obtain ⟨m, hm⟩ : ∃ m, m = s.fs.length := ⟨_, rfl⟩
  rw [← hm] at c2 hl hil
  clear H hf hi hx e eP hm K hc
  go_enter Tryz.func90, Tryz.ntmps90
  go_wp2_with (first
    | (go_at_call 89; refine HA.out.mono ?_; rintro e w1 ⟨rfl, hw⟩; obtain rfl := hw.symm; clear hw)
    | (go_at_call 118; refine HD.out.mono ?_; rintro e w1 ⟨rfl, hp⟩; have HP := Lib.hid hp; clear hp))
  go_ret2
  exact ⟨by trivial, HP.out⟩
set_option maxHeartbeats 1000000 in
theorem xread_ok (H : Rsk w bx FV LV P Hd R F s) (K : DOk R s) (hd : s.deeds ≤ 1000000000) (hF : F.length ≤ 9223372036854775807) {n : Int} {j : Nat} {l : List Pg} {p : Pg} (hf : s.find n = some l) (hk : l[j]? = some p) (hc : F.contains (s.deeds + 1) = false) :
    Calls Tryz.prog 90 #[dp bx, .int .i64 n, .int .i64 (j : Int)] w fun e w' => ∃ v : Option Addr × Nat, e = .returned (.tuple #[.slice v.1 256 v.2, .int .i64 0]) ∧ Ch w (XS bx FV LV P Hd s) (star (XR bx R F ⟨s.made, s.deeds + 1, s.reads + 1, s.writes, s.used, s.peak, s.fs⟩) (rowR 5 1 (.slice v.1 256 v.2) 256 (b8 p))) w' := by
  have hl := K.len
  have HA := xat H hl n
  obtain ⟨i, hi, hx⟩ := Ds.at_some hf
  rw [hi] at HA
  have HA := Lib.hid HA
  have hjl := (List.getElem?_eq_some_iff.1 hk).1
  have hlp := pagesN_mem (List.mem_of_getElem? hx)
  rw [← K.cnt] at hlp
  have hus := K.used
  have hrm := K.room
  dsimp only at hlp
  have hac := K.acts
  have hpl := (K.pgs _ (List.mem_of_getElem? hx) p (List.mem_of_getElem? hk)).1
  have HD := Lib.hid ((xdeed_at H K hd hF hc).mono fun e w' h => (⟨h.1, h.2⟩ : e = .returned (.bool true) ∧ XDeed w bx FV LV P Hd R F s w'))
  obtain ⟨c0, c1, c2, c3, c4, c5, c6, c7, c8, hb⟩ := H.cells
  obtain ⟨g, c, e⟩ := H.shapeL hx
  have hil := (List.getElem?_eq_some_iff.1 hx).1
  obtain ⟨g2, cA, ad, cB, eP, eH⟩ := H.shapeP (List.mem_of_getElem? hx) hk
  have hcl := (H.cellL e hx).1
  dsimp only at hcl eP eH
  rw [eP] at hcl
  rw [e] at c2
  have HC := Lib.hid (fun W (h : Rsk W bx FV LV P Hd R F ⟨s.made, s.deeds + 1, s.reads + 1, s.writes, s.used, s.peak, s.fs⟩) => show W.cell? ⟨bx, 2, none⟩ = some (.slice (some ⟨g, 0, none⟩) s.fs.length c) ∧ W.cell? ⟨g, i * 2 + 1, none⟩ = some (.slice (some ⟨g2, 0, none⟩) l.length cA) ∧ W.cell? ⟨g2, j, none⟩ = some (.slice (some ad) 256 cB) ∧ At8 W ad p from by
    have h1 := h.cells.2.2.1
    rw [e] at h1
    have h2 := (h.cellL (x := (n, l)) e hx).1
    dsimp only at h2
    rw [eP] at h2
    have h3 := h.cellP (x := (n, l)) (List.mem_of_getElem? hx) hk eP eH
    exact ⟨h1, h2, h3.1, h3.2⟩)
  have HH := Lib.hid H
  obtain ⟨m, hm⟩ : ∃ m, m = s.fs.length := ⟨_, rfl⟩
  obtain ⟨q, hq⟩ : ∃ q, q = l.length := ⟨_, rfl⟩
  rw [← hm] at c2 hl hil HC
  rw [← hq] at hcl HC hjl hlp
  have HPL := Lib.hid hpl
  have hr0 := hac.1
  have hr1 : s.reads ≤ 1000000000 := by omega
  clear H hf hi hx e eP eH hm hq K hc hk hpl hus hrm hac
  go_enter Tryz.func90, Tryz.ntmps90
  go_wp2_with (first
    | (go_at_call 89; refine HA.out.mono ?_; rintro e w1 ⟨rfl, hw⟩; obtain rfl := hw.symm; clear hw)
    | (go_at_call 118; refine HD.out.mono ?_; rintro e w1 ⟨rfl, hp⟩; have HP := Lib.hid hp; clear hp; have k5 := HP.out.1.cells.2.2.2.2.2.1; have f5 := HP.out.1.frees 5; dsimp only [Ds.deed_] at k5; have HT1 : Hid (Turn (fun k => k = bx) w1 (w1.setCell ⟨bx, 5, none⟩ (.int .i64 (s.reads + 1)))) := (Turn.refl (fun k => k = bx) w1).cell bx 5 _ rfl; have H2 : Hid (Rsk (w1.setCell ⟨bx, 5, none⟩ (.int .i64 (s.reads + 1))) bx FV LV P Hd R F ⟨s.made, s.deeds + 1, s.reads + 1, s.writes, s.used, s.peak, s.fs⟩) := HP.out.1.upd HT1.out (blk_set HP.out.1.dsk 5 _) rfl; have H3 := Lib.hid (H2.out.turn ((Turn.refl (fun _ => False) (w1.setCell ⟨bx, 5, none⟩ (.int .i64 (s.reads + 1)))).alloc (.cells #[] 5)) (fun _ _ => id)); obtain ⟨z1, z2, z3, z4⟩ := HC.out _ H3.out; have Z4 := Lib.hid z4; clear z4; have ho := Lib.hid (lit_row (w1.setCell ⟨bx, 5, none⟩ (.int .i64 (s.reads + 1))) 5 (N := w1.heap.size) (by simp [World.setCell])))
    | (at_builtin; refine wp_appendL w1.heap.size rfl (.tmp 43) (.tmp 54) 136 5 (.int .u8 0) 1 1 rfl Tryz.underlying136 inf8 rfl (by omega) (by omega) (.slice (some ⟨w1.heap.size, 0, none⟩) 0 0) 0 [] rfl (some ad) 256 cB (b8 p) rfl (by rw [List.length_map]; exact HPL.out) (fun _ => ⟨ad, rfl, Z4.out.2⟩) (by intro u hu; obtain ⟨x, _, rfl⟩ := List.mem_map.1 hu; rfl) ho.out (by simp) (by omega) ?_; intro v3 w3 h3 t3 _; rw [Nat.zero_add, List.nil_append] at h3; obtain ⟨A3, c3, rfl⟩ := own_slice h3; have HO3 := Lib.hid h3; have HT3 := Lib.hid t3; clear h3 t3))
  go_ret2
  have hz : w.heap.size ≤ w1.heap.size := HP.out.2.size
  have tA : Turn (fun k => (Value.slice (some ⟨w1.heap.size, 0, none⟩) 0 0).ownBlock = some k) ((w1.setCell ⟨bx, 5, none⟩ (.int .i64 (s.reads + 1))).alloc (.cells #[] 5)) w3 := HT3.out
  have hb3 : Below (w1.setCell ⟨bx, 5, none⟩ (.int .i64 (s.reads + 1))).heap.size (w1.setCell ⟨bx, 5, none⟩ (.int .i64 (s.reads + 1))) w3 :=
    below_turn ((Below.refl _ _).alloc (Nat.le_refl _) _) tA (by simp) (fun k hk => by simp [Value.ownBlock] at hk; simp [World.setCell]; omega)
  have H4 : Rsk w3 bx FV LV P Hd R F ⟨s.made, s.deeds + 1, s.reads + 1, s.writes, s.used, s.peak, s.fs⟩ := H2.out.turn (Turn.of_below hb3 (fun _ => False)) (fun _ _ => id)
  have HT := (HP.out.2.then_ HT1.out (fun k hk => .inl hk)).then_ (Turn.of_below hb3 (fun _ => False)) (fun _ h => h.elim)
  refine ⟨(A3, c3), by trivial, fun k => XS bx FV LV P Hd s k ∨ (Value.slice A3 256 c3).ownBlock = some k, ⟨_, _, ⟨FV, LV, P, Hd, H4, rfl⟩, ⟨own_lower HO3.out (Nat.zero_le _), rfl⟩, ?_, fun k => Iff.rfl⟩, HT.mono (fun k hk => .inl hk), ?_⟩
  · intro k hk hk2
    have h1 := HH.out.lt k hk
    have h2 := own_ge HO3.out hk2
    omega
  · rintro k (hk | hk)
    · exact .inl hk
    · have h2 := own_ge HO3.out hk
      exact .inr (by omega)
end
end Go.Proofs.YtkbapoeilcapfaaGreat

/- the document's disk: what an Append makes of it. -/
namespace Go.Proofs.YtkbapoeilcapfaaGreat
open Go.RowKit
set_option linter.unusedVariables false
set_option linter.unusedSimpArgs false
set_option maxRecDepth 6000

theorem xown_set {w : World} {base : Nat} {e : TypeId} {size n c g j : Nat} {xs : List Value} (h : w.ownsRow base e size (.slice (some ⟨g, 0, none⟩) n c) n xs) (u : Value) : (w.setCell ⟨g, j, none⟩ u).ownsRow base e size (.slice (some ⟨g, 0, none⟩) n c) n (xs.set j u) := by
  refine ⟨by rw [List.length_set]; exact h.1, ?_⟩
  rcases h.2 with ⟨e1, e2⟩ | ⟨g', cap, cur, e1, hb, hg, hnc, hm, hs, hx⟩
  · cases e1
  · injection e1 with e1 _ e3
    injection e1 with e1
    injection e1 with e1 _ _
    subst e1
    refine .inr ⟨g, cap, cur.setIfInBounds j u, by rw [e3], hb, blk_set hg j u, hnc, hm, by simpa using hs, ?_⟩
    rw [Array.toList_setIfInBounds, List.take_set, hx]
theorem fcs_addPg {P : Int → Value} {n : Int} {l : List Pg} (p : Pg) (v : Value) : ∀ (fs : List (Int × List Pg)) (i : Nat), fs.Pairwise (fun x y => x.1 < y.1) → fs[i]? = some (n, l) → (fcs P fs).set (i * 2 + 1) v = fcs (updV P n v) (addPg fs n p)
  | [], i, _, h => by simp at h
  | y :: t, 0, ho, h => by
    obtain rfl : y = (n, l) := by simpa using h
    obtain ⟨h1, h2⟩ := List.pairwise_cons.1 ho
    have hne : ∀ x ∈ t, x.1 ≠ n := fun x hx => by have := h1 x hx; dsimp only at this; omega
    have e1 := addPg_none (fs := t) p hne
    unfold addPg at e1 ⊢
    rw [List.map_cons, if_pos rfl, e1]
    simp only [fcs, List.flatMap_cons, updV_same]
    have e2 := fcs_congr (P := P) (P' := updV P n v) (fs := t) (fun x hx => (updV_ne _ _ (hne x hx)).symm)
    simp only [fcs] at e2
    rw [← e2]
    rfl
  | y :: t, i + 1, ho, h => by
    obtain ⟨h1, h2⟩ := List.pairwise_cons.1 ho
    have hm : t[i]? = some (n, l) := by simpa using h
    have hne : y.1 ≠ n := by have := h1 _ (List.mem_of_getElem? hm); dsimp only at this; omega
    have ih := fcs_addPg (P := P) p v t i h2 hm
    unfold addPg at ih ⊢
    rw [List.map_cons, if_neg hne]
    simp only [fcs, List.flatMap_cons] at ih ⊢
    rw [updV_ne _ _ hne, ← ih, show (i + 1) * 2 + 1 = (i * 2 + 1) + 2 by omega]
    rfl
section
variable {w : World} {bx : Nat} {FV LV : Value} {P : Int → Value} {Hd : Int → List Value} {R : Int} {F : List Int} {s : Ds}
theorem Rsk.addPage {w' : World} {s' : Ds} {n : Int} {l : List Pg} {p : Pg} {v1 v0 : Value} {i : Nat} (H : Rsk w bx FV LV P Hd R F s) (ord : s.fs.Pairwise (fun x y => x.1 < y.1)) (hx : s.fs[i]? = some (n, l)) (hl0 : (Hd n).length = l.length)
    (ht : Turn (fun k => k = bx ∨ LV.ownBlock = some k ∨ (P n).ownBlock = some k) w w') (ho : w'.heap[bx]? = some (rskObj FV LV R s')) (hfs : s'.fs = addPg s.fs n p)
    (hl : w'.ownsRow 0 158 2 LV s.fs.length ((fcs P s.fs).set (i * 2 + 1) v1)) (hr : w'.ownsRow 0 136 1 v1 (l.length + 1) (Hd n ++ [v0])) (hp : w'.ownsRow 0 5 1 v0 256 (b8 p)) (hv0 : ∀ k, v0.ownBlock = some k → w.heap.size ≤ k)
    (hor : v1.ownBlock = (P n).ownBlock ∨ ∃ b, v1.ownBlock = some b ∧ w.heap.size ≤ b) :
    Ch w (XS bx FV LV P Hd s) (XR bx R F s') w' := by
  have hmem := List.mem_of_getElem? hx
  have hT : ∀ {e : TypeId}, e ≠ 68 → e ≠ 158 → e ≠ 136 → ∀ k, (k = bx ∨ LV.ownBlock = some k ∨ (P n).ownBlock = some k) → ∃ cs t, w.heap[k]? = some (.cells cs t (0, 0)) ∧ t ≠ e := by
    rintro e h1 h2 h3 k (rfl | hk | hk)
    · exact ⟨_, _, H.dsk, fun e2 => h1 e2.symm⟩
    · obtain ⟨cs, hc⟩ := own_obj H.lst hk
      exact ⟨cs, _, hc, fun e2 => h2 e2.symm⟩
    · obtain ⟨cs, hc⟩ := own_obj (H.prow _ hmem) hk
      exact ⟨cs, _, hc, fun e2 => h3 e2.symm⟩
  have hother : ∀ x ∈ s.fs, x.1 ≠ n → ∀ k, (P x.1).ownBlock = some k → ¬ (k = bx ∨ LV.ownBlock = some k ∨ (P n).ownBlock = some k) := by
    rintro x hx2 hne k hk (e | e | e)
    · exact H.nes.2.2 x hx2 k hk e
    · exact own_ne (H.prow x hx2) H.lst (by decide) hk e
    · exact hne (H.sep x hx2 _ hmem k hk e)
  have hor2 : ∀ x ∈ s.fs, x.1 ≠ n → ∀ k, (P x.1).ownBlock = some k → v1.ownBlock ≠ some k := by
    intro x hx2 hne k hk e
    rcases hor with h | ⟨b, h, hb⟩
    · rw [h] at e
      exact hne (H.sep x hx2 _ hmem k hk e)
    · rw [h] at e
      injection e with e
      have := ((H.prow x hx2).lt k hk).2
      omega
  refine Rsk.ch (FV' := FV) (LV' := LV) (P' := updV P n v1) (Hd' := updH Hd n (Hd n ++ [v0])) ⟨ho, own_turnT H.flt ht (hT (by decide) (by decide) (by decide)), ?_, ?_, ?_, ?_⟩ (ht.mono ?_) ?_
  · rw [hfs, addPg_len, ← fcs_addPg p v1 s.fs i ord hx]
    exact hl
  · intro x hx2
    rw [hfs] at hx2
    rcases addPg_mem hx2 with ⟨hx2, hne⟩ | ⟨l', hl', rfl⟩
    · rw [updV_ne _ _ hne, updH_ne _ _ hne]
      exact own_turn (H.prow x hx2) ht (hother x hx2 hne)
    · rw [updV_same, updH_same]
      have := fs_inj ord hl' hmem rfl
      injection this with _ e2
      rw [e2, List.length_append]
      exact hr
  · intro x hx2 j q hq
    rw [hfs] at hx2
    rcases addPg_mem hx2 with ⟨hx2, hne⟩ | ⟨l', hl', rfl⟩
    · rw [updH_ne _ _ hne]
      obtain ⟨v, hv, ho⟩ := H.page x hx2 j q hq
      exact ⟨v, hv, own_turnT ho ht (hT (by decide) (by decide) (by decide))⟩
    · rw [updH_same]
      have := fs_inj ord hl' hmem rfl
      injection this with _ e2
      subst e2
      dsimp only at hq
      rcases Nat.lt_or_ge j l'.length with hj | hj
      · rw [List.getElem?_append_left hj] at hq
        obtain ⟨v, hv, ho⟩ := H.page _ hmem j q hq
        exact ⟨v, by rw [List.getElem?_append_left (by rw [hl0]; exact hj)]; exact hv, own_turnT ho ht (hT (by decide) (by decide) (by decide))⟩
      · rw [List.getElem?_append_right hj] at hq
        have hj0 : j - l'.length = 0 := by
          have := (List.getElem?_eq_some_iff.1 hq).1
          simpa using this
        rw [hj0] at hq
        have hq' : p = q := by simpa using hq
        rw [← hq']
        refine ⟨v0, ?_, hp⟩
        rw [List.getElem?_append_right (by rw [hl0]; exact hj), hl0, hj0]
        rfl
  · intro x hx2 y hy k hk hl2
    rw [hfs] at hx2 hy
    rcases addPg_mem hx2 with ⟨hx2, hne⟩ | ⟨lx, hlx, rfl⟩ <;> rcases addPg_mem hy with ⟨hy, hne2⟩ | ⟨ly, hly, rfl⟩
    · rw [updV_ne _ _ hne] at hk
      rw [updV_ne _ _ hne2] at hl2
      exact H.sep x hx2 y hy k hk hl2
    · rw [updV_ne _ _ hne] at hk
      rw [updV_same] at hl2
      exact absurd hl2 (hor2 x hx2 hne k hk)
    · rw [updV_same] at hk
      rw [updV_ne _ _ hne2] at hl2
      exact absurd hk (hor2 y hy hne2 k hl2)
    · rfl
  · rintro k (h | h | h)
    · exact .inl h
    · exact .inr (.inr (.inl h))
    · exact .inr (.inr (.inr (.inl ⟨_, hmem, h⟩)))
  · rintro k (rfl | h | h | ⟨x, hx2, h⟩ | ⟨x, hx2, j, q, v, hq, hv, h⟩)
    · exact .inl (.inl rfl)
    · exact .inl (.inr (.inl h))
    · exact .inl (.inr (.inr (.inl h)))
    · rw [hfs] at hx2
      rcases addPg_mem hx2 with ⟨hx2, hne⟩ | ⟨lx, hlx, rfl⟩
      · rw [updV_ne _ _ hne] at h
        exact .inl (.inr (.inr (.inr (.inl ⟨x, hx2, h⟩))))
      · rw [updV_same] at h
        rcases hor with e | ⟨b, e, hb⟩
        · rw [e] at h
          exact .inl (.inr (.inr (.inr (.inl ⟨_, hmem, h⟩))))
        · rw [e] at h
          injection h with h
          exact .inr (by omega)
    · rw [hfs] at hx2
      rcases addPg_mem hx2 with ⟨hx2, hne⟩ | ⟨l', hl', rfl⟩
      · rw [updH_ne _ _ hne] at hv
        exact .inl (.inr (.inr (.inr (.inr ⟨x, hx2, j, q, v, hq, hv, h⟩))))
      · rw [updH_same] at hv
        have := fs_inj ord hl' hmem rfl
        injection this with _ e2
        subst e2
        dsimp only at hq
        rcases Nat.lt_or_ge j l'.length with hj | hj
        · rw [List.getElem?_append_left hj] at hq
          rw [List.getElem?_append_left (by rw [hl0]; exact hj)] at hv
          exact .inl (.inr (.inr (.inr (.inr ⟨_, hmem, j, q, v, hq, hv, h⟩))))
        · rw [List.getElem?_append_right (by rw [hl0]; exact hj)] at hv
          have hj0 : j - (Hd n).length = 0 := by
            have := (List.getElem?_eq_some_iff.1 hv).1
            simpa using this
          rw [hj0] at hv
          have hv' : v0 = v := by simpa using hv
          rw [← hv'] at h
          exact .inr (hv0 k h)
end
end Go.Proofs.YtkbapoeilcapfaaGreat

/- the document's disk: Append, the walk. -/
namespace Go.Proofs.YtkbapoeilcapfaaGreat
open Go.RowKit
set_option linter.unusedVariables false
set_option linter.unusedSimpArgs false
set_option maxRecDepth 6000

theorem infS8 : (Tryz.prog.info? 136).map (fun i => (i.zero, i.size, i.bytes)) = some (some (.slice none 0 0), 1, 24) := by kernel_rfl
section
variable {Pr : Program} {ops : Array Oper} {o : Oper} {a : Act} {K : Act → World → Prop} {Q : Exit → Act → World → Prop}
theorem op_build0 {W : World} (t e : TypeId) (z : Value) (size bytes : Nat) (ho : o.op = .buildSlice t 0 #[]) (ht : Pr.underlying t = some (.slice e)) (hinfo : (Pr.info? e).map (fun i => (i.zero, i.size, i.bytes)) = some (some z, size, bytes))
    (h : K (a.put o.dst (.slice (some ⟨W.heap.size, 0, none⟩) 0 0)) (W.alloc (.cells #[] e))) : o.wp Pr a W K Q := by
  obtain ⟨i0, hi, hz0, hz1, hz2⟩ := info_parts hinfo
  have hrun : (Instr.buildSlice t 0 #[]).run Pr W = .ok (.slice (some ⟨W.heap.size, 0, none⟩) 0 0) (W.alloc (.cells #[] e)) := by
    simp [Instr.buildSlice, run_underlying ht, sizeOf, typeInfo, hi, Instr.fill, newRow]
    rw [Array.eq_empty_of_size_eq_zero (xs := Array.map (fun x => default) (Array.range 0)) (by simp)]
  unfold Oper.wp execOp
  have e0 : ((#[] : Array (Nat × Operand)).map fun (i, x) => (i, a.eval x)) = #[] := by simp
  simp only [ho, e0, Sem.run_bind, hrun, Result.andThen_ok, Sem.run_pure]
  exact h
theorem op_build1 {W : World} (x : Operand) (t e : TypeId) (z : Value) (bytes : Nat) (ho : o.op = .buildSlice t 1 #[(0, x)]) (ht : Pr.underlying t = some (.slice e)) (hinfo : (Pr.info? e).map (fun i => (i.zero, i.size, i.bytes)) = some (some z, 1, bytes))
    (v : Value) (hx : a.eval x = v) (hv : v.cells = #[v])
    (h : K (a.put o.dst (.slice (some ⟨W.heap.size, 0, none⟩) 1 1)) (W.alloc (.cells #[v] e))) : o.wp Pr a W K Q := by
  obtain ⟨i0, hi, hz0, hz1, hz2⟩ := info_parts hinfo
  have hrun : (Instr.buildSlice t 1 #[(0, v)]).run Pr W = .ok (.slice (some ⟨W.heap.size, 0, none⟩) 1 1) (W.alloc (.cells #[v] e)) := by
    refine run_buildSlice W t e 1 _ _ i0 z ht hi hz0 (by rw [hz1]; decide) (by rw [hz1]; decide) ?_
    rw [hz1]
    have := Great.fill_whole (s := 1) (by omega) [v] ((Array.range (1 * 1)).map (fun x => z.cells[x % z.cells.size]!)) (by intro u hu; rw [List.mem_singleton.1 hu, hv]; rfl) (by simp)
    simpa [hv] using this
  unfold Oper.wp execOp
  have e0 : (#[((0 : Nat), x)].map fun (i, x) => (i, a.eval x)) = #[(0, v)] := by simp [hx]
  simp only [ho, e0, Sem.run_bind, hrun, Result.andThen_ok, Sem.run_pure]
  exact h
theorem op_appB {W : World} (base : Nat) (s x : Operand) (t e : TypeId) (z : Value) (size bytes : Nat)
    (ho : o.op = .call { callee := .builtin .append, args := #[s, x], argTypes := #[t, t] })
    (ht : Pr.underlying t = some (.slice e)) (hinfo : (Pr.info? e).map (fun i => (i.zero, i.size, i.bytes)) = some (some z, size, bytes)) (hz : z.cells.size = size) (hs0 : 0 < size) (hb0 : 0 < bytes)
    (v : Value) (n : Nat) (xs : List Value) (hs : a.eval s = v) (ad : Addr) (m c : Nat) (ys : List Value) (hx : a.eval x = .slice (some ad) m c) (hys : ys.length = m * size) (hr : ∀ j u, ys[j]? = some u → W.cell? (ad.add j) = some u) (h1 : ∀ u ∈ ys, u.oneCell' = true)
    (HO : W.ownsRow base e size v n xs) (hbase : base ≤ W.heap.size) (hl : (n + m) * bytes ≤ 140737488355328)
    (h : ∀ v1 w1, w1.ownsRow base e size v1 (n + m) (xs ++ ys) → Turn (fun k => v.ownBlock = some k) W w1 → (v1.ownBlock = v.ownBlock ∨ ∃ b, v1.ownBlock = some b ∧ W.heap.size ≤ b) → K (a.put o.dst v1) w1) :
    o.wp Pr a W K Q := by
  obtain ⟨i0, hi, hz0, hz1, hz2⟩ := info_parts hinfo
  have hlen : n + m ≤ 140737488355328 := Nat.le_trans (Nat.le_mul_of_pos_right _ hb0) hl
  obtain ⟨v1, w1, hrun, hown, hg, _, hat⟩ := run_append_own_at (P := Pr) W base t o.type e i0 z size bytes ht hi hz0 hz1 hz2 hz hs0 v n xs HO ad m c ys hys hr h1 (by simp only [maxLen]; omega) hl hbase
  unfold Oper.wp execOp
  simp only [ho, resolve, invoke, builtin, Sem.run_bind, Sem.run_pure, Result.andThen_ok, List.map_toArray, List.map_cons, List.map_nil, hs, hx, hrun]
  refine h v1 w1 hown ((Turn.refl _ W).grown hg (fun k hk => .inl hk)) ?_
  rcases hat with hat | hat
  · exact .inl hat
  · exact .inr ⟨_, hat, Nat.le_refl _⟩
end
section
variable {w : World} {bx : Nat} {FV LV : Value} {P : Int → Value} {Hd : Int → List Value} {R : Int} {F : List Int} {s : Ds}
theorem xapp_arg (H : Rsk w bx FV LV P Hd R F s) (hl : s.fs.length ≤ 32768) {n : Int} {A : Option Addr} {k c : Nat} (hk : k ≠ 256) :
    Calls Tryz.prog 116 #[dp bx, .int .i64 n, .slice A k c] w fun e w' => e = .returned (.int .i64 1) ∧ w' = w := by
  have HA := Lib.hid (xat H hl n)
  have hk1 : ((k : Int) != 256) = true := by simp; omega
  clear H hk
  go_enter Tryz.func116, Tryz.ntmps116
  go_wp2_with (go_at_call 89; refine HA.out.mono ?_; rintro e w1 ⟨rfl, hw⟩; obtain rfl := hw.symm; clear hw)
  go_ret
  exact ⟨by trivial, rfl⟩
theorem xapp_none (H : Rsk w bx FV LV P Hd R F s) (hl : s.fs.length ≤ 32768) {n : Int} {A : Option Addr} {c : Nat} (hf : s.find n = none) :
    Calls Tryz.prog 116 #[dp bx, .int .i64 n, .slice A 256 c] w fun e w' => e = .returned (.int .i64 4) ∧ w' = w := by
  have HA := xat H hl n
  rw [Ds.at_none hf] at HA
  have HA := Lib.hid HA
  clear H hf
  go_enter Tryz.func116, Tryz.ntmps116
  go_wp2_with (go_at_call 89; refine HA.out.mono ?_; rintro e w1 ⟨rfl, hw⟩; obtain rfl := hw.symm; clear hw)
  go_ret
  exact ⟨by trivial, rfl⟩
theorem xapp_full (H : Rsk w bx FV LV P Hd R F s) (hl : s.fs.length ≤ 32768) {n : Int} {A : Option Addr} {c : Nat} {l : List Pg} (hf : s.find n = some l) (hu : R ≤ s.used) :
    Calls Tryz.prog 116 #[dp bx, .int .i64 n, .slice A 256 c] w fun e w' => e = .returned (.int .i64 2) ∧ Below w.heap.size w w' := by
  have HA := xat H hl n
  obtain ⟨i, hi, hx⟩ := Ds.at_some hf
  rw [hi] at HA
  have HA := Lib.hid HA
  obtain ⟨c0, c1, c2, c3, c4, c5, c6, c7, c8, hb⟩ := H.cells
  have hu1 : decide (s.used ≥ R) = true := by simp; omega
  clear H hf hi hx hu
  go_enter Tryz.func116, Tryz.ntmps116
  go_wp2_with (go_at_call 89; refine HA.out.mono ?_; rintro e w1 ⟨rfl, hw⟩; obtain rfl := hw.symm; clear hw)
  go_quiet (fail)
  go_wp2
  go_ret
  exact ⟨by trivial, rfl, rfl, rfl, Nat.le_refl _, fun _ _ => rfl⟩
theorem xapp_fault (H : Rsk w bx FV LV P Hd R F s) (K : DOk R s) (hd : s.deeds ≤ 1000000000) (hF : F.length ≤ 9223372036854775807) {n : Int} {A : Option Addr} {c : Nat} {l : List Pg} (hf : s.find n = some l) (hu : s.used < R) (hc : F.contains (s.deeds + 1) = true) :
    Calls Tryz.prog 116 #[dp bx, .int .i64 n, .slice A 256 c] w fun e w' => e = .returned (.int .i64 50) ∧ Ch w (XS bx FV LV P Hd s) (XR bx R F s.deed_) w' := by
  have HA := xat H K.len n
  obtain ⟨i, hi, hx⟩ := Ds.at_some hf
  rw [hi] at HA
  have HA := Lib.hid HA
  obtain ⟨c0, c1, c2, c3, c4, c5, c6, c7, c8, hb⟩ := H.cells
  have hu1 : decide (s.used ≥ R) = false := by simp; omega
  have HD := Lib.hid (fun m => (xdeed_at (H.turn ((Turn.refl (fun _ => False) w).drewN m) (fun _ _ => id)) K hd hF hc).mono fun e w' h => (⟨h.1, XDeed.ch (w := w) ⟨h.2.1, ((Turn.refl (fun k => k = bx) w).drewN m).trans h.2.2⟩⟩ : e = .returned (.bool false) ∧ Ch w (XS bx FV LV P Hd s) (XR bx R F s.deed_) w'))
  clear H hf hi hx hu hc K
  go_enter Tryz.func116, Tryz.ntmps116
  go_wp2_with (go_at_call 89; refine HA.out.mono ?_; rintro e w1 ⟨rfl, hw⟩; obtain rfl := hw.symm; clear hw)
  go_quiet (fail)
  go_wp2_with (go_at_call 118; refine (HD.out _).mono ?_; rintro e w1 ⟨rfl, hp⟩; have HP := Lib.hid hp; clear hp)
  go_ret
  exact ⟨by trivial, HP.out⟩
theorem row_file {W : World} {g m c i : Nat} {P : Int → Value} {fs : List (Int × List Pg)} {x : Int × List Pg} (h : W.ownsRow 0 158 2 (.slice (some ⟨g, 0, none⟩) m c) m (fcs P fs)) (hx : fs[i]? = some x) : W.cell? ⟨g, i * 2 + 1, none⟩ = some (P x.1) ∧ W.frozen? ⟨g, i * 2 + 1, none⟩ = false ∧ g < W.heap.size := by
  have hc := h.cells (g := g) rfl _ _ (fcs_get P hx).2
  rw [Addr.add_mid, Nat.zero_add] at hc
  obtain ⟨cs, ho⟩ := own_obj h (k := g) rfl
  exact ⟨hc, free_of_blk ho _, lt_of_heap ho⟩
theorem blk_ne {w : World} {base : Nat} {e t : TypeId} {size n bx : Nat} {v : Value} {xs : List Value} {cs : Array Value} (h : w.ownsRow base e size v n xs) (ho : w.heap[bx]? = some (.cells cs t (0, 0))) (hne : e ≠ t) {k : Nat} (hk : v.ownBlock = some k) : k ≠ bx := by
  obtain ⟨cs', hc⟩ := own_obj h hk
  intro e2
  rw [e2, ho] at hc
  injection hc with hc
  injection hc with _ h2
  exact hne h2.symm
theorem xapp_end {i m k g c d c2 c3 : Nat} {A2 A3 B : Option Addr} {n : Int} {p : Pg} {w1 w2 w3 : World} {s' : Ds}
    (HX : ∀ (w' : World) (s' : Ds) (v1 v0 : Value), Turn (fun j => j = bx ∨ (Value.slice (some ⟨g, 0, none⟩) m c).ownBlock = some j ∨ (P n).ownBlock = some j) w w' → w'.heap[bx]? = some (rskObj FV (.slice (some ⟨g, 0, none⟩) m c) R s') → s'.fs = addPg s.fs n p →
      w'.ownsRow 0 158 2 (.slice (some ⟨g, 0, none⟩) m c) m ((fcs P s.fs).set (i * 2 + 1) v1) → w'.ownsRow 0 136 1 v1 (k + 1) (Hd n ++ [v0]) → w'.ownsRow 0 5 1 v0 256 (b8 p) → (∀ j, v0.ownBlock = some j → w.heap.size ≤ j) →
      (v1.ownBlock = (P n).ownBlock ∨ ∃ b, v1.ownBlock = some b ∧ w.heap.size ≤ b) → Ch w (XS bx FV (.slice (some ⟨g, 0, none⟩) m c) P Hd s) (XR bx R F s') w')
    (HP : XDeed w bx FV (.slice (some ⟨g, 0, none⟩) m c) P Hd R F s w1) (HB2 : Below w1.heap.size w1 w2)
    (hL2 : w2.ownsRow 0 158 2 (.slice (some ⟨g, 0, none⟩) m c) m (fcs P s.fs)) (hP2 : w2.ownsRow 0 136 1 (.slice B k d) k (Hd n)) (HO2 : w2.ownsRow w1.heap.size 5 1 (.slice A2 256 c2) 256 (b8 p))
    (HO3 : w3.heap[bx]? = some (rskObj FV (.slice (some ⟨g, 0, none⟩) m c) R s.deed_)) (h3 : w3.ownsRow 0 136 1 (.slice A3 (k + 1) c3) (k + 1) (Hd n ++ [.slice A2 256 c2])) (t3 : Turn (fun j => (Value.slice B k d).ownBlock = some j) w2 w3)
    (hor3 : (Value.slice A3 (k + 1) c3).ownBlock = (Value.slice B k d).ownBlock ∨ ∃ b, (Value.slice A3 (k + 1) c3).ownBlock = some b ∧ w2.heap.size ≤ b) (HL3 : w3.ownsRow 0 158 2 (.slice (some ⟨g, 0, none⟩) m c) m (fcs P s.fs)) (HEP : P n = .slice B k d) (HNg : bx ≠ (⟨g, i * 2 + 1, none⟩ : Addr).block)
    (hfs : s'.fs = addPg s.fs n p) (W' : World) (ht : Turn (fun j => j = bx) (w3.setCell ⟨g, i * 2 + 1, none⟩ (.slice A3 (k + 1) c3)) W') (ho : W'.heap[bx]? = some (rskObj FV (.slice (some ⟨g, 0, none⟩) m c) R s')) :
    Ch w (XS bx FV (.slice (some ⟨g, 0, none⟩) m c) P Hd s) (XR bx R F s') W' := by
  have hz := HP.2.size
  have tg : Turn (fun j => j = g) w3 (w3.setCell ⟨g, i * 2 + 1, none⟩ (.slice A3 (k + 1) c3)) := (Turn.refl (fun j => j = g) w3).cell g (i * 2 + 1) _ rfl
  have h4 := xown_set (j := i * 2 + 1) HL3 (.slice A3 (k + 1) c3)
  have go : (Value.slice (some ⟨g, 0, none⟩) m c).ownBlock = some g := rfl
  have h34 : (w3.setCell ⟨g, i * 2 + 1, none⟩ (.slice A3 (k + 1) c3)).ownsRow 0 136 1 (.slice A3 (k + 1) c3) (k + 1) (Hd n ++ [.slice A2 256 c2]) := own_turn h3 tg (fun j hj e => own_ne h3 HL3 (by decide) hj (by rw [go, e]))
  have h23 := own_turn HO2 t3 (fun j hj e => own_ne HO2 hP2 (by decide) hj e)
  have h24 : (w3.setCell ⟨g, i * 2 + 1, none⟩ (.slice A3 (k + 1) c3)).ownsRow w1.heap.size 5 1 (.slice A2 256 c2) 256 (b8 p) := own_turn h23 tg (fun j hj e => own_ne h23 HL3 (by decide) hj (by rw [go, e]))
  have HO4 := blk_far HO3 (p := ⟨g, i * 2 + 1, none⟩) HNg (.slice A3 (k + 1) c3)
  refine HX W' s' (.slice A3 (k + 1) c3) (.slice A2 256 c2) ?_ ho hfs ?_ ?_ ?_ ?_ ?_
  · have t1 : Turn (fun j => j = bx ∨ (Value.slice (some ⟨g, 0, none⟩) m c).ownBlock = some j ∨ (P n).ownBlock = some j) w w1 := HP.2.mono (fun j hj => .inl hj)
    have t2 := t1.then_ (Turn.of_below HB2 (fun _ => False)) (fun _ h => h.elim)
    have t3' := t2.then_ t3 (fun j hj => .inl (.inr (.inr (by rw [HEP]; exact hj))))
    have t4 := t3'.then_ tg (fun j hj => .inl (.inr (.inl (by rw [go, hj]))))
    exact t4.then_ ht (fun j hj => .inl (.inl hj))
  · exact own_turn h4 ht (fun j hj => blk_ne h4 HO4 (by decide) hj)
  · exact own_turn h34 ht (fun j hj => blk_ne h34 HO4 (by decide) hj)
  · exact own_lower (own_turn h24 ht (fun j hj => blk_ne h24 HO4 (by decide) hj)) (Nat.zero_le _)
  · intro j hj
    exact Nat.le_trans hz (own_ge HO2 hj)
  · rcases hor3 with e | ⟨b, e, hb⟩
    · exact .inl (by rw [e, HEP])
    · exact .inr ⟨b, e, Nat.le_trans (Nat.le_trans hz HB2.size) hb⟩
set_option maxHeartbeats 4000000 in
theorem xapp_ok (H : Rsk w bx FV LV P Hd R F s) (K : DOk R s) (hd : s.deeds ≤ 1000000000) (hF : F.length ≤ 9223372036854775807) {n : Int} {ad : Addr} {cp : Nat} {l : List Pg} {p : Pg} (hf : s.find n = some l) (hu : s.used < R) (hc : F.contains (s.deeds + 1) = false)
    (hp : At8 w ad p) (hpl : p.length = 256) (hne : ad.block ≠ bx) :
    Calls Tryz.prog 116 #[dp bx, .int .i64 n, .slice (some ad) 256 cp] w fun e w' => e = .returned (.int .i64 0) ∧ Ch w (XS bx FV LV P Hd s) (XR bx R F ⟨s.made, s.deeds + 1, s.reads, s.writes + 1, s.used + 1, max s.peak (s.used + 1), addPg s.fs n p⟩) w' := by
  have hl := K.len
  have HA := xat H hl n
  obtain ⟨i, hi, hx⟩ := Ds.at_some hf
  rw [hi] at HA
  have HA := Lib.hid HA
  obtain ⟨c0, c1, c2, c3, c4, c5, c6, c7, c8, hb⟩ := H.cells
  have hu1 : decide (s.used ≥ R) = false := by simp; omega
  have ha := K.acts
  have hus := K.used
  have hrm := K.room
  have hmem := Ds.find_mem hf
  have hpg := pagesN_mem hmem
  rw [← K.cnt] at hpg
  have hm2 : 0 ≤ s.used := by have := pagesN_nonneg s.fs; rw [← K.cnt] at this; exact this
  have hw0 : s.writes ≤ 1000000000 := by omega
  have hw1 := ha.2.1
  have hu2 : s.used ≤ 1000000000 := by omega
  have HD := Lib.hid (fun m => (xdeed_at (H.turn ((Turn.refl (fun _ => False) w).drewN m) (fun _ _ => id)) K hd hF hc).mono fun e w' h => (⟨h.1, h.2.1, ((Turn.refl (fun k => k = bx) w).drewN m).trans h.2.2⟩ : e = .returned (.bool true) ∧ XDeed w bx FV LV P Hd R F s w'))
  obtain ⟨g, c, e⟩ := H.shapeL hx
  subst e
  obtain ⟨B, d, eP⟩ := own_slice (H.prow _ hmem)
  have hHl : (Hd n).length = l.length := by have := (H.prow _ hmem).1; simpa using this
  have HX := Lib.hid (fun (w' : World) (s' : Ds) (v1 v0 : Value) ht ho hfs hl hr hp hv0 hor => H.addPage (w' := w') (s' := s') (v1 := v1) (v0 := v0) (p := p) K.ord hx hHl ht ho hfs hl hr hp hv0 hor)
  have HN := Lib.hid H.nes
  have HP0 := Lib.hid hp
  have HPL := Lib.hid hpl
  have HM := Lib.hid hmem
  have HI := Lib.hid hx
  have hil := (List.getElem?_eq_some_iff.1 hx).1
  dsimp only at eP hpg
  have HEP := Lib.hid eP
  obtain ⟨m, hm⟩ : ∃ m, m = s.fs.length := ⟨_, rfl⟩
  obtain ⟨k, hk⟩ : ∃ k, k = l.length := ⟨_, rfl⟩
  have hk2 : k ≤ 16384 := by omega
  rw [← hm] at c2 hl hil HX HD HN ⊢
  rw [← hk] at HX HEP
  have HMl := Lib.hid hm
  have HKl := Lib.hid hk
  have HH : Hid (Rsk w bx FV (.slice (some ⟨g, 0, none⟩) m c) P Hd R F s) := by rw [hm]; exact H
  clear H hu hc K ha hp hpl hmem hpg hf hi hx eP hHl hm hk hus hrm
  go_enter Tryz.func116, Tryz.ntmps116
  go_wp2_with (go_at_call 89; refine HA.out.mono ?_; rintro e w1 ⟨rfl, hw⟩; obtain rfl := hw.symm; clear hw)
  go_quiet (fail)
  go_wp2_with (go_at_call 118; refine (HD.out _).mono ?_; rintro e w1 ⟨rfl, hp⟩; have HP := Lib.hid hp; clear hp)
  clear c0 c1 c2 c3 c4 c5 c6 c7 c8 hb
  have q2 : w1.cell? ⟨bx, 2, none⟩ = some (.slice (some ⟨g, 0, none⟩) m c) := HP.out.1.cells.2.2.1
  have L1 : w1.ownsRow 0 158 2 (.slice (some ⟨g, 0, none⟩) m c) m (fcs P s.fs) := by have := HP.out.1.lst; rw [HMl.out]; rw [HMl.out] at this; exact this
  obtain ⟨qp, _, _⟩ := row_file L1 HI.out
  dsimp only at qp
  rw [HEP.out] at qp
  clear L1
  have A1 := Lib.hid (HP0.out.turn HP.out.2 hne)
  refine wp_region_held (S := fun W => W.cell? ⟨bx, 2, none⟩ = some (.slice (some ⟨g, 0, none⟩) m c)) (by kernel_rfl) ?_
  change wpAnyH _ _ _ _ _ _ _ _ (World.drew w1)
  refine wpAnyH_take (i := 0) (v := dp bx) rfl (by kernel_rfl) (by kernel_rfl) (by kernel_rfl) (fun _ _ _ h => h) (Or.inl ⟨by rfl, fun w hS => by go_simp⟩) q2 ?_
  refine wpAnyH_take (i := 1) (v := dp bx) rfl (by kernel_rfl) (by kernel_rfl) (by kernel_rfl) (fun _ _ _ h => h) (Or.inl ⟨by rfl, fun w hS => by go_simp⟩) q2 ?_
  refine wpAnyH_take (i := 2) (v := .pointer (some ⟨bx, 2, none⟩)) rfl (by kernel_rfl) (by kernel_rfl) (by kernel_rfl) (fun _ _ _ h => h) (Or.inl ⟨by rfl, fun w hS => by go_simp⟩) q2 ?_
  refine wpAnyH_take (i := 3) (v := .slice (some ⟨g, 0, none⟩) m c) rfl (by kernel_rfl) (by kernel_rfl) (by kernel_rfl) (fun _ _ _ h => h) (Or.inl ⟨by rfl, fun w hS => by go_simp⟩) q2 ?_
  refine wpAnyH_take (i := 4) (v := .int .i64 (i : Int)) rfl (by kernel_rfl) (by kernel_rfl) (by kernel_rfl) (fun _ _ _ h => h) (Or.inl ⟨by rfl, fun w hS => by go_simp⟩) q2 ?_
  refine wpAnyH_take (i := 5) (v := dp bx) rfl (by kernel_rfl) (by kernel_rfl) (by kernel_rfl) (fun _ _ _ h => h) (Or.inl ⟨by rfl, fun w hS => by go_simp⟩) q2 ?_
  refine wpAnyH_take (i := 6) (v := dp bx) rfl (by kernel_rfl) (by kernel_rfl) (by kernel_rfl) (fun _ _ _ h => h) (Or.inl ⟨by rfl, fun w hS => by go_simp⟩) q2 ?_
  refine wpAnyH_take (i := 7) (v := .pointer (some ⟨bx, 2, none⟩)) rfl (by kernel_rfl) (by kernel_rfl) (by kernel_rfl) (fun _ _ _ h => h) (Or.inl ⟨by rfl, fun w hS => by go_simp⟩) q2 ?_
  refine wpAnyH_take (i := 8) (v := .slice (some ⟨g, 0, none⟩) m c) rfl (by kernel_rfl) (by kernel_rfl) (by kernel_rfl) (fun _ _ _ h => h) (Or.inl ⟨by rfl, fun w hS => by go_simp⟩) q2 ?_
  refine wpAnyH_take (i := 9) (v := .int .i64 (i : Int)) rfl (by kernel_rfl) (by kernel_rfl) (by kernel_rfl) (fun _ _ _ h => h) (Or.inl ⟨by rfl, fun w hS => by go_simp⟩) q2 ?_
  refine wpAnyH_take (i := 10) (v := .pointer (some ⟨g, i * 2, none⟩)) rfl (by kernel_rfl) (by kernel_rfl) (by kernel_rfl) (fun _ _ _ h => h) (Or.inl ⟨by rfl, fun w hS => by go_simp⟩) q2 ?_
  refine wpAnyH_take (i := 11) (v := .pointer (some ⟨g, i * 2 + 1, none⟩)) rfl (by kernel_rfl) (by kernel_rfl) (by kernel_rfl) (fun _ _ _ h => h) (Or.inl ⟨by rfl, fun w hS => by go_simp⟩) q2 ?_
  refine wpAnyH_take (i := 14) (v := .slice (some ad) 256 cp) rfl (by kernel_rfl) (by kernel_rfl) (by kernel_rfl) (fun _ _ _ h => h) (Or.inl ⟨by rfl, fun w hS => by go_simp⟩) q2 ?_
  -- TAIL
  go_simp
  have below_drew0 : Below w1.heap.size w1 w1.drew := ⟨rfl, rfl, rfl, Nat.le_refl _, fun _ _ => rfl⟩
  have q2a : (w1.drew.alloc (.cells #[] 5)).cell? ⟨bx, 2, none⟩ = some (.slice (some ⟨g, 0, none⟩) m c) := (World.cell?_alloc_lt _ _ _ (World.block_lt_of_cell? w1 _ q2)).trans q2
  have qpa : (w1.alloc (.cells #[] 5)).cell? ⟨g, i * 2 + 1, none⟩ = some (.slice B k d) := (World.cell?_alloc_lt _ _ _ (World.block_lt_of_cell? w1 _ qp)).trans qp
  have A1a : Hid (At8 (w1.drew.alloc (.cells #[] 5)) ad p) := (A1.out.turn ((Turn.refl (fun _ => False) w1).drew.alloc _) id)
  have HMlst := fun W (h : Rsk W bx FV (.slice (some ⟨g, 0, none⟩) m c) P Hd R F s.deed_) => show W.ownsRow 0 158 2 (.slice (some ⟨g, 0, none⟩) m c) m (fcs P s.fs) from by have := h.lst; rw [HMl.out]; rw [HMl.out] at this; exact this
  have HPrw := fun W (h : Rsk W bx FV (.slice (some ⟨g, 0, none⟩) m c) P Hd R F s.deed_) => show W.ownsRow 0 136 1 (.slice B k d) k (Hd n) from by have := h.prow (n, l) HM.out; dsimp only at this; rw [HEP.out, ← HKl.out] at this; exact this
  have HNb : Hid (∀ j, (Value.slice B k d).ownBlock = some j → j ≠ bx) := fun j hj => HN.out.2.2 (n, l) HM.out j (by dsimp only; rw [HEP.out]; exact hj)
  have HNg : Hid (bx ≠ (⟨g, i * 2 + 1, none⟩ : Addr).block) := fun e => HN.out.2.1 g rfl e.symm
  refine wpAnyH_all (rs := [12, 13]) (by kernel_rfl) (by simp) (fun j hj => ?_)
  rcases (by simpa using hj : j = 12 ∨ j = 13) with rfl | rfl
  · refine wpOp_step (o := { dst := some 45, op := .load 156 (.tmp 44), type := _, pos := _, after := _, guard := none }) (by simp; exact ⟨rfl, rfl, rfl⟩) (fun K hK => ?_)
    go_simp
    refine hK _ _ ⟨q2, ?_⟩
    clear hK K
    go_simp
    refine wpAnyH_all (rs := [13]) (by kernel_rfl) (by simp) (fun j hj => ?_)
    obtain rfl := List.mem_singleton.1 hj
    clear hj
    refine wpOp_step (o := { dst := some 46, op := .buildSlice 136 0 #[], type := _, pos := _, after := _, guard := none }) (by simp; exact ⟨rfl, rfl, rfl⟩) (fun K hK => step_wp rfl (op_build0 136 5 (.int .u8 0) 1 1 rfl Tryz.underlying136 inf8 (hK _ _ ⟨q2a, ?_⟩)))
    clear hK K
    go_simp
    refine wpAnyH_all (rs := [15]) (by kernel_rfl) (by simp) (fun j hj => ?_)
    obtain rfl := List.mem_singleton.1 hj
    clear hj
    refine wpOp_step (o := { dst := some 48, op := .call { callee := .builtin .append, args := #[.tmp 46, .tmp 47], argTypes := #[136, 136 ] }, type := _, pos := _, after := _, guard := none }) (by simp; exact ⟨rfl, rfl, rfl⟩) (fun K hK => step_wp rfl ?_)
    refine (show Oper.wp _ _ _ (w1.drew.alloc (.cells #[] 5)) _ _ from op_appB (W := (w1.drew.alloc (.cells #[] 5))) w1.heap.size (.tmp 46) (.tmp 47) 136 5 (.int .u8 0) 1 1 rfl Tryz.underlying136 inf8 rfl (by omega) (by omega) (.slice (some ⟨w1.heap.size, 0, none⟩) 0 0) 0 [] (by go_simp) ad 256 cp (b8 p) (by go_simp) (by rw [List.length_map]; exact HPL.out) A1a.out.2 (by intro u hu; obtain ⟨x, _, rfl⟩ := List.mem_map.1 hu; rfl) (lit_row w1.drew 5 rfl) (by simp) (by omega) ?_)
    intro v2 w2 h2 t2 _
    rw [Nat.zero_add, List.nil_append] at h2
    obtain ⟨A2, c2, rfl⟩ := own_slice h2
    have HB2 : Hid (Below w1.heap.size w1 w2) := below_turn (a := w1) (b := (w1.drew.alloc (.cells #[] 5))) (below_drew0.alloc (Nat.le_refl _) _) t2 (by simp) (fun k hk => by simp [Value.ownBlock] at hk; omega)
    have HR2 := Lib.hid (HP.out.1.turn (Turn.of_below HB2.out (fun _ => False)) (fun _ _ => id))
    have HO2 := Lib.hid h2
    clear h2 t2
    have q2c : w2.cell? ⟨bx, 2, none⟩ = some (.slice (some ⟨g, 0, none⟩) m c) := HR2.out.cells.2.2.1
    have qpc : w2.cell? ⟨g, i * 2 + 1, none⟩ = some (.slice B k d) := by have := (row_file (HMlst _ HR2.out) HI.out).1; dsimp only at this; rw [HEP.out] at this; exact this
    have q2d : (w2.alloc (.cells #[.slice A2 256 c2] 136)).cell? ⟨bx, 2, none⟩ = some (.slice (some ⟨g, 0, none⟩) m c) := (World.cell?_alloc_lt _ _ _ (World.block_lt_of_cell? w2 _ q2c)).trans q2c
    have qpd : (w2.alloc (.cells #[.slice A2 256 c2] 136)).cell? ⟨g, i * 2 + 1, none⟩ = some (.slice B k d) := (World.cell?_alloc_lt _ _ _ (World.block_lt_of_cell? w2 _ qpc)).trans qpc
    refine hK _ _ ⟨q2c, ?_⟩
    clear hK K
    go_simp
    refine wpAnyH_all (rs := [16]) (by kernel_rfl) (by simp) (fun j hj => ?_)
    obtain rfl := List.mem_singleton.1 hj
    clear hj
    refine wpOp_step (o := { dst := some 49, op := .buildSlice 156 1 #[(0, .tmp 48)], type := _, pos := _, after := _, guard := none }) (by simp; exact ⟨rfl, rfl, rfl⟩) (fun K hK => step_wp rfl (op_build1 (.tmp 48) 156 136 (.slice none 0 0) 24 rfl Tryz.underlying156 infS8 (.slice A2 256 c2) (by go_simp) rfl (hK _ _ ⟨q2d, ?_⟩)))
    clear hK K
    go_simp
    refine wpAnyH_all (rs := [17]) (by kernel_rfl) (by simp) (fun j hj => ?_)
    obtain rfl := List.mem_singleton.1 hj
    clear hj
    refine wpOp_step (o := { dst := some 50, op := .call { callee := .builtin .append, args := #[.tmp 45, .tmp 49], argTypes := #[156, 156 ] }, type := _, pos := _, after := _, guard := none }) (by simp; exact ⟨rfl, rfl, rfl⟩) (fun K hK => step_wp rfl ?_)
    refine (show Oper.wp _ _ _ (w2.alloc (.cells [Value.slice A2 256 c2].toArray 136)) _ _ from op_app1 (W := w2) 0 (.tmp 45) (.tmp 49) 156 136 (.slice none 0 0) 1 24 rfl Tryz.underlying156 infS8 rfl (by omega) (by omega) (.slice B k d) k (Hd n) [.slice A2 256 c2] (by go_simp) (by go_simp) rfl rfl (by simp [Value.oneCell']) (HPrw _ HR2.out) (Nat.zero_le _) (by omega) ?_)
    intro v3 w3 h3 t3 hor3
    obtain ⟨A3, c3, rfl⟩ := own_slice h3
    have HL3 := Lib.hid (own_turn (HMlst _ HR2.out) t3 (fun j hj e => own_ne (HMlst _ HR2.out) (HPrw _ HR2.out) (by decide) hj e))
    have HO3 := Lib.hid (t3.heap HR2.out.dsk (fun e => HNb.out _ e rfl))
    have q2e : w3.cell? ⟨bx, 2, none⟩ = some (.slice (some ⟨g, 0, none⟩) m c) := cell_of_blk HO3.out 2
    have HF3 := Lib.hid (row_file HL3.out HI.out)
    refine hK _ _ ⟨q2e, ?_⟩
    clear hK K
    go_simp
    refine wpAnyH_take (i := 18) (v := .pointer (some ⟨g, i * 2, none⟩)) rfl (by kernel_rfl) (by kernel_rfl) (by kernel_rfl) (fun _ _ _ h => h) (Or.inl ⟨by rfl, fun w hS => by go_simp⟩) q2e ?_
    refine wpAnyH_take (i := 19) (v := .pointer (some ⟨g, i * 2 + 1, none⟩)) rfl (by kernel_rfl) (by kernel_rfl) (by kernel_rfl) (fun _ _ _ h => h) (Or.inl ⟨by rfl, fun w hS => by go_simp⟩) q2e ?_
    go_simp
    have qp3 := HF3.out.1
    have fp3 := HF3.out.2.1
    dsimp only at qp3
    refine wpAnyH_all (rs := [20]) (by kernel_rfl) (by simp) (fun j hj => ?_)
    obtain rfl := List.mem_singleton.1 hj
    clear hj
    refine wpOp_step (o := { dst := none, op := .store 156 (.tmp 52) (.tmp 50), type := _, pos := _, after := _, guard := none }) (by simp; exact ⟨rfl, rfl, rfl⟩) (fun K hK => ?_)
    go_simp
    have HO4 := Lib.hid (blk_far HO3.out (p := ⟨g, i * 2 + 1, none⟩) HNg.out (.slice A3 (k + 1) c3))
    refine hK _ _ ⟨cell_of_blk HO4.out 2, ?_⟩
    clear hK K
    refine wpAnyH_done (by kernel_rfl) ?_ _
    have HP5 : Hid (∀ W', Turn (fun j => j = bx) (w3.setCell ⟨g, i * 2 + 1, none⟩ (.slice A3 (k + 1) c3)) W' → W'.heap[bx]? = some (rskObj FV (.slice (some ⟨g, 0, none⟩) m c) R ⟨s.made, s.deeds + 1, s.reads, s.writes + 1, s.used + 1, max s.peak (s.used + 1), addPg s.fs n p⟩) → Ch w (XS bx FV (.slice (some ⟨g, 0, none⟩) m c) P Hd s) (XR bx R F ⟨s.made, s.deeds + 1, s.reads, s.writes + 1, s.used + 1, max s.peak (s.used + 1), addPg s.fs n p⟩) W') :=
      xapp_end HX.out HP.out HB2.out (HMlst _ HR2.out) (HPrw _ HR2.out) HO2.out HO3.out h3 t3 hor3 HL3.out HEP.out HNg.out rfl
    clear h3 t3 hor3 qp3 fp3 q2 q2a q2c q2d q2e qp qpa qpc qpd HMlst HPrw below_drew0
    have g6 := cell_of_blk HO4.out 6
    have g7 := cell_of_blk HO4.out 7
    have g8 := cell_of_blk HO4.out 8
    have r6 := free_of_blk HO4.out 6
    have r7 := free_of_blk HO4.out 7
    have r8 := free_of_blk HO4.out 8
    dsimp only [Ds.deed_] at g6 g7 g8
    generalize (w3.setCell ⟨g, i * 2 + 1, none⟩ (.slice A3 (k + 1) c3)) = w4 at HO4 HP5 g6 g7 g8 r6 r7 r8 ⊢
    go_wp2
    go_quiet (fail)
    go_wp2
    all_goals
      go_ret
      refine ⟨by trivial, HP5.out _ ?_ ?_⟩
      · first
          | exact ((((Turn.refl (fun k => k = bx) w4).cell bx 6 _ rfl).cell bx 7 _ rfl).drewN _).cell bx 8 _ rfl
          | exact ((((Turn.refl (fun k => k = bx) w4).cell bx 6 _ rfl).cell bx 7 _ rfl).drewN _)
          | exact ((((Turn.refl (fun k => k = bx) w4).cell bx 6 _ rfl).cell bx 7 _ rfl).cell bx 8 _ rfl).drewN _
      · have h1 := blk_set (blk_set HO4.out 6 (.int .i64 (s.writes + 1))) 7 (.int .i64 (s.used + 1))
        have h2 := blk_set h1 8 (.int .i64 (s.used + 1))
        first
          | (rw [show max s.peak (s.used + 1) = s.used + 1 by omega]; exact h2)
          | (rw [show max s.peak (s.used + 1) = s.peak by omega]; exact h1)
  · refine wpOp_step (o := { dst := some 46, op := .buildSlice 136 0 #[], type := _, pos := _, after := _, guard := none }) (by simp; exact ⟨rfl, rfl, rfl⟩) (fun K hK => step_wp rfl (op_build0 136 5 (.int .u8 0) 1 1 rfl Tryz.underlying136 inf8 (hK _ _ ⟨q2a, ?_⟩)))
    clear hK K
    go_simp
    refine wpAnyH_all (rs := [12, 15]) (by kernel_rfl) (by simp) (fun j hj => ?_)
    rcases (by simpa using hj : j = 12 ∨ j = 15) with rfl | rfl
    · refine wpOp_step (o := { dst := some 45, op := .load 156 (.tmp 44), type := _, pos := _, after := _, guard := none }) (by simp; exact ⟨rfl, rfl, rfl⟩) (fun K hK => ?_)
      go_simp
      refine hK _ _ ⟨q2a, ?_⟩
      clear hK K
      go_simp
      refine wpAnyH_all (rs := [15]) (by kernel_rfl) (by simp) (fun j hj => ?_)
      obtain rfl := List.mem_singleton.1 hj
      clear hj
      refine wpOp_step (o := { dst := some 48, op := .call { callee := .builtin .append, args := #[.tmp 46, .tmp 47], argTypes := #[136, 136 ] }, type := _, pos := _, after := _, guard := none }) (by simp; exact ⟨rfl, rfl, rfl⟩) (fun K hK => step_wp rfl ?_)
      refine (show Oper.wp _ _ _ (w1.drew.alloc (.cells #[] 5)) _ _ from op_appB (W := (w1.drew.alloc (.cells #[] 5))) w1.heap.size (.tmp 46) (.tmp 47) 136 5 (.int .u8 0) 1 1 rfl Tryz.underlying136 inf8 rfl (by omega) (by omega) (.slice (some ⟨w1.heap.size, 0, none⟩) 0 0) 0 [] (by go_simp) ad 256 cp (b8 p) (by go_simp) (by rw [List.length_map]; exact HPL.out) A1a.out.2 (by intro u hu; obtain ⟨x, _, rfl⟩ := List.mem_map.1 hu; rfl) (lit_row w1.drew 5 rfl) (by simp) (by omega) ?_)
      intro v2 w2 h2 t2 _
      rw [Nat.zero_add, List.nil_append] at h2
      obtain ⟨A2, c2, rfl⟩ := own_slice h2
      have HB2 : Hid (Below w1.heap.size w1 w2) := below_turn (a := w1) (b := (w1.drew.alloc (.cells #[] 5))) (below_drew0.alloc (Nat.le_refl _) _) t2 (by simp) (fun k hk => by simp [Value.ownBlock] at hk; omega)
      have HR2 := Lib.hid (HP.out.1.turn (Turn.of_below HB2.out (fun _ => False)) (fun _ _ => id))
      have HO2 := Lib.hid h2
      clear h2 t2
      have q2c : w2.cell? ⟨bx, 2, none⟩ = some (.slice (some ⟨g, 0, none⟩) m c) := HR2.out.cells.2.2.1
      have qpc : w2.cell? ⟨g, i * 2 + 1, none⟩ = some (.slice B k d) := by have := (row_file (HMlst _ HR2.out) HI.out).1; dsimp only at this; rw [HEP.out] at this; exact this
      have q2d : (w2.alloc (.cells #[.slice A2 256 c2] 136)).cell? ⟨bx, 2, none⟩ = some (.slice (some ⟨g, 0, none⟩) m c) := (World.cell?_alloc_lt _ _ _ (World.block_lt_of_cell? w2 _ q2c)).trans q2c
      have qpd : (w2.alloc (.cells #[.slice A2 256 c2] 136)).cell? ⟨g, i * 2 + 1, none⟩ = some (.slice B k d) := (World.cell?_alloc_lt _ _ _ (World.block_lt_of_cell? w2 _ qpc)).trans qpc
      refine hK _ _ ⟨q2c, ?_⟩
      clear hK K
      go_simp
      refine wpAnyH_all (rs := [16]) (by kernel_rfl) (by simp) (fun j hj => ?_)
      obtain rfl := List.mem_singleton.1 hj
      clear hj
      refine wpOp_step (o := { dst := some 49, op := .buildSlice 156 1 #[(0, .tmp 48)], type := _, pos := _, after := _, guard := none }) (by simp; exact ⟨rfl, rfl, rfl⟩) (fun K hK => step_wp rfl (op_build1 (.tmp 48) 156 136 (.slice none 0 0) 24 rfl Tryz.underlying156 infS8 (.slice A2 256 c2) (by go_simp) rfl (hK _ _ ⟨q2d, ?_⟩)))
      clear hK K
      go_simp
      refine wpAnyH_all (rs := [17]) (by kernel_rfl) (by simp) (fun j hj => ?_)
      obtain rfl := List.mem_singleton.1 hj
      clear hj
      refine wpOp_step (o := { dst := some 50, op := .call { callee := .builtin .append, args := #[.tmp 45, .tmp 49], argTypes := #[156, 156 ] }, type := _, pos := _, after := _, guard := none }) (by simp; exact ⟨rfl, rfl, rfl⟩) (fun K hK => step_wp rfl ?_)
      refine (show Oper.wp _ _ _ (w2.alloc (.cells [Value.slice A2 256 c2].toArray 136)) _ _ from op_app1 (W := w2) 0 (.tmp 45) (.tmp 49) 156 136 (.slice none 0 0) 1 24 rfl Tryz.underlying156 infS8 rfl (by omega) (by omega) (.slice B k d) k (Hd n) [.slice A2 256 c2] (by go_simp) (by go_simp) rfl rfl (by simp [Value.oneCell']) (HPrw _ HR2.out) (Nat.zero_le _) (by omega) ?_)
      intro v3 w3 h3 t3 hor3
      obtain ⟨A3, c3, rfl⟩ := own_slice h3
      have HL3 := Lib.hid (own_turn (HMlst _ HR2.out) t3 (fun j hj e => own_ne (HMlst _ HR2.out) (HPrw _ HR2.out) (by decide) hj e))
      have HO3 := Lib.hid (t3.heap HR2.out.dsk (fun e => HNb.out _ e rfl))
      have q2e : w3.cell? ⟨bx, 2, none⟩ = some (.slice (some ⟨g, 0, none⟩) m c) := cell_of_blk HO3.out 2
      have HF3 := Lib.hid (row_file HL3.out HI.out)
      refine hK _ _ ⟨q2e, ?_⟩
      clear hK K
      go_simp
      refine wpAnyH_take (i := 18) (v := .pointer (some ⟨g, i * 2, none⟩)) rfl (by kernel_rfl) (by kernel_rfl) (by kernel_rfl) (fun _ _ _ h => h) (Or.inl ⟨by rfl, fun w hS => by go_simp⟩) q2e ?_
      refine wpAnyH_take (i := 19) (v := .pointer (some ⟨g, i * 2 + 1, none⟩)) rfl (by kernel_rfl) (by kernel_rfl) (by kernel_rfl) (fun _ _ _ h => h) (Or.inl ⟨by rfl, fun w hS => by go_simp⟩) q2e ?_
      go_simp
      have qp3 := HF3.out.1
      have fp3 := HF3.out.2.1
      dsimp only at qp3
      refine wpAnyH_all (rs := [20]) (by kernel_rfl) (by simp) (fun j hj => ?_)
      obtain rfl := List.mem_singleton.1 hj
      clear hj
      refine wpOp_step (o := { dst := none, op := .store 156 (.tmp 52) (.tmp 50), type := _, pos := _, after := _, guard := none }) (by simp; exact ⟨rfl, rfl, rfl⟩) (fun K hK => ?_)
      go_simp
      have HO4 := Lib.hid (blk_far HO3.out (p := ⟨g, i * 2 + 1, none⟩) HNg.out (.slice A3 (k + 1) c3))
      refine hK _ _ ⟨cell_of_blk HO4.out 2, ?_⟩
      clear hK K
      refine wpAnyH_done (by kernel_rfl) ?_ _
      have HP5 : Hid (∀ W', Turn (fun j => j = bx) (w3.setCell ⟨g, i * 2 + 1, none⟩ (.slice A3 (k + 1) c3)) W' → W'.heap[bx]? = some (rskObj FV (.slice (some ⟨g, 0, none⟩) m c) R ⟨s.made, s.deeds + 1, s.reads, s.writes + 1, s.used + 1, max s.peak (s.used + 1), addPg s.fs n p⟩) → Ch w (XS bx FV (.slice (some ⟨g, 0, none⟩) m c) P Hd s) (XR bx R F ⟨s.made, s.deeds + 1, s.reads, s.writes + 1, s.used + 1, max s.peak (s.used + 1), addPg s.fs n p⟩) W') :=
        xapp_end HX.out HP.out HB2.out (HMlst _ HR2.out) (HPrw _ HR2.out) HO2.out HO3.out h3 t3 hor3 HL3.out HEP.out HNg.out rfl
      clear h3 t3 hor3 qp3 fp3 q2 q2a q2c q2d q2e qp qpa qpc qpd HMlst HPrw below_drew0
      have g6 := cell_of_blk HO4.out 6
      have g7 := cell_of_blk HO4.out 7
      have g8 := cell_of_blk HO4.out 8
      have r6 := free_of_blk HO4.out 6
      have r7 := free_of_blk HO4.out 7
      have r8 := free_of_blk HO4.out 8
      dsimp only [Ds.deed_] at g6 g7 g8
      generalize (w3.setCell ⟨g, i * 2 + 1, none⟩ (.slice A3 (k + 1) c3)) = w4 at HO4 HP5 g6 g7 g8 r6 r7 r8 ⊢
      go_wp2
      go_quiet (fail)
      go_wp2
      all_goals
        go_ret
        refine ⟨by trivial, HP5.out _ ?_ ?_⟩
        · first
            | exact ((((Turn.refl (fun k => k = bx) w4).cell bx 6 _ rfl).cell bx 7 _ rfl).drewN _).cell bx 8 _ rfl
            | exact ((((Turn.refl (fun k => k = bx) w4).cell bx 6 _ rfl).cell bx 7 _ rfl).drewN _)
            | exact ((((Turn.refl (fun k => k = bx) w4).cell bx 6 _ rfl).cell bx 7 _ rfl).cell bx 8 _ rfl).drewN _
        · have h1 := blk_set (blk_set HO4.out 6 (.int .i64 (s.writes + 1))) 7 (.int .i64 (s.used + 1))
          have h2 := blk_set h1 8 (.int .i64 (s.used + 1))
          first
            | (rw [show max s.peak (s.used + 1) = s.used + 1 by omega]; exact h2)
            | (rw [show max s.peak (s.used + 1) = s.peak by omega]; exact h1)
    · refine wpOp_step (o := { dst := some 48, op := .call { callee := .builtin .append, args := #[.tmp 46, .tmp 47], argTypes := #[136, 136 ] }, type := _, pos := _, after := _, guard := none }) (by simp; exact ⟨rfl, rfl, rfl⟩) (fun K hK => step_wp rfl ?_)
      refine (show Oper.wp _ _ _ (w1.drew.alloc (.cells #[] 5)) _ _ from op_appB (W := (w1.drew.alloc (.cells #[] 5))) w1.heap.size (.tmp 46) (.tmp 47) 136 5 (.int .u8 0) 1 1 rfl Tryz.underlying136 inf8 rfl (by omega) (by omega) (.slice (some ⟨w1.heap.size, 0, none⟩) 0 0) 0 [] (by go_simp) ad 256 cp (b8 p) (by go_simp) (by rw [List.length_map]; exact HPL.out) A1a.out.2 (by intro u hu; obtain ⟨x, _, rfl⟩ := List.mem_map.1 hu; rfl) (lit_row w1.drew 5 rfl) (by simp) (by omega) ?_)
      intro v2 w2 h2 t2 _
      rw [Nat.zero_add, List.nil_append] at h2
      obtain ⟨A2, c2, rfl⟩ := own_slice h2
      have HB2 : Hid (Below w1.heap.size w1 w2) := below_turn (a := w1) (b := (w1.drew.alloc (.cells #[] 5))) (below_drew0.alloc (Nat.le_refl _) _) t2 (by simp) (fun k hk => by simp [Value.ownBlock] at hk; omega)
      have HR2 := Lib.hid (HP.out.1.turn (Turn.of_below HB2.out (fun _ => False)) (fun _ _ => id))
      have HO2 := Lib.hid h2
      clear h2 t2
      have q2c : w2.cell? ⟨bx, 2, none⟩ = some (.slice (some ⟨g, 0, none⟩) m c) := HR2.out.cells.2.2.1
      have qpc : w2.cell? ⟨g, i * 2 + 1, none⟩ = some (.slice B k d) := by have := (row_file (HMlst _ HR2.out) HI.out).1; dsimp only at this; rw [HEP.out] at this; exact this
      have q2d : (w2.alloc (.cells #[.slice A2 256 c2] 136)).cell? ⟨bx, 2, none⟩ = some (.slice (some ⟨g, 0, none⟩) m c) := (World.cell?_alloc_lt _ _ _ (World.block_lt_of_cell? w2 _ q2c)).trans q2c
      have qpd : (w2.alloc (.cells #[.slice A2 256 c2] 136)).cell? ⟨g, i * 2 + 1, none⟩ = some (.slice B k d) := (World.cell?_alloc_lt _ _ _ (World.block_lt_of_cell? w2 _ qpc)).trans qpc
      refine hK _ _ ⟨q2c, ?_⟩
      clear hK K
      go_simp
      refine wpAnyH_all (rs := [12, 16]) (by kernel_rfl) (by simp) (fun j hj => ?_)
      rcases (by simpa using hj : j = 12 ∨ j = 16) with rfl | rfl
      · refine wpOp_step (o := { dst := some 45, op := .load 156 (.tmp 44), type := _, pos := _, after := _, guard := none }) (by simp; exact ⟨rfl, rfl, rfl⟩) (fun K hK => ?_)
        go_simp
        refine hK _ _ ⟨q2c, ?_⟩
        clear hK K
        go_simp
        refine wpAnyH_all (rs := [16]) (by kernel_rfl) (by simp) (fun j hj => ?_)
        obtain rfl := List.mem_singleton.1 hj
        clear hj
        refine wpOp_step (o := { dst := some 49, op := .buildSlice 156 1 #[(0, .tmp 48)], type := _, pos := _, after := _, guard := none }) (by simp; exact ⟨rfl, rfl, rfl⟩) (fun K hK => step_wp rfl (op_build1 (.tmp 48) 156 136 (.slice none 0 0) 24 rfl Tryz.underlying156 infS8 (.slice A2 256 c2) (by go_simp) rfl (hK _ _ ⟨q2d, ?_⟩)))
        clear hK K
        go_simp
        refine wpAnyH_all (rs := [17]) (by kernel_rfl) (by simp) (fun j hj => ?_)
        obtain rfl := List.mem_singleton.1 hj
        clear hj
        refine wpOp_step (o := { dst := some 50, op := .call { callee := .builtin .append, args := #[.tmp 45, .tmp 49], argTypes := #[156, 156 ] }, type := _, pos := _, after := _, guard := none }) (by simp; exact ⟨rfl, rfl, rfl⟩) (fun K hK => step_wp rfl ?_)
        refine (show Oper.wp _ _ _ (w2.alloc (.cells [Value.slice A2 256 c2].toArray 136)) _ _ from op_app1 (W := w2) 0 (.tmp 45) (.tmp 49) 156 136 (.slice none 0 0) 1 24 rfl Tryz.underlying156 infS8 rfl (by omega) (by omega) (.slice B k d) k (Hd n) [.slice A2 256 c2] (by go_simp) (by go_simp) rfl rfl (by simp [Value.oneCell']) (HPrw _ HR2.out) (Nat.zero_le _) (by omega) ?_)
        intro v3 w3 h3 t3 hor3
        obtain ⟨A3, c3, rfl⟩ := own_slice h3
        have HL3 := Lib.hid (own_turn (HMlst _ HR2.out) t3 (fun j hj e => own_ne (HMlst _ HR2.out) (HPrw _ HR2.out) (by decide) hj e))
        have HO3 := Lib.hid (t3.heap HR2.out.dsk (fun e => HNb.out _ e rfl))
        have q2e : w3.cell? ⟨bx, 2, none⟩ = some (.slice (some ⟨g, 0, none⟩) m c) := cell_of_blk HO3.out 2
        have HF3 := Lib.hid (row_file HL3.out HI.out)
        refine hK _ _ ⟨q2e, ?_⟩
        clear hK K
        go_simp
        refine wpAnyH_take (i := 18) (v := .pointer (some ⟨g, i * 2, none⟩)) rfl (by kernel_rfl) (by kernel_rfl) (by kernel_rfl) (fun _ _ _ h => h) (Or.inl ⟨by rfl, fun w hS => by go_simp⟩) q2e ?_
        refine wpAnyH_take (i := 19) (v := .pointer (some ⟨g, i * 2 + 1, none⟩)) rfl (by kernel_rfl) (by kernel_rfl) (by kernel_rfl) (fun _ _ _ h => h) (Or.inl ⟨by rfl, fun w hS => by go_simp⟩) q2e ?_
        go_simp
        have qp3 := HF3.out.1
        have fp3 := HF3.out.2.1
        dsimp only at qp3
        refine wpAnyH_all (rs := [20]) (by kernel_rfl) (by simp) (fun j hj => ?_)
        obtain rfl := List.mem_singleton.1 hj
        clear hj
        refine wpOp_step (o := { dst := none, op := .store 156 (.tmp 52) (.tmp 50), type := _, pos := _, after := _, guard := none }) (by simp; exact ⟨rfl, rfl, rfl⟩) (fun K hK => ?_)
        go_simp
        have HO4 := Lib.hid (blk_far HO3.out (p := ⟨g, i * 2 + 1, none⟩) HNg.out (.slice A3 (k + 1) c3))
        refine hK _ _ ⟨cell_of_blk HO4.out 2, ?_⟩
        clear hK K
        refine wpAnyH_done (by kernel_rfl) ?_ _
        have HP5 : Hid (∀ W', Turn (fun j => j = bx) (w3.setCell ⟨g, i * 2 + 1, none⟩ (.slice A3 (k + 1) c3)) W' → W'.heap[bx]? = some (rskObj FV (.slice (some ⟨g, 0, none⟩) m c) R ⟨s.made, s.deeds + 1, s.reads, s.writes + 1, s.used + 1, max s.peak (s.used + 1), addPg s.fs n p⟩) → Ch w (XS bx FV (.slice (some ⟨g, 0, none⟩) m c) P Hd s) (XR bx R F ⟨s.made, s.deeds + 1, s.reads, s.writes + 1, s.used + 1, max s.peak (s.used + 1), addPg s.fs n p⟩) W') :=
          xapp_end HX.out HP.out HB2.out (HMlst _ HR2.out) (HPrw _ HR2.out) HO2.out HO3.out h3 t3 hor3 HL3.out HEP.out HNg.out rfl
        clear h3 t3 hor3 qp3 fp3 q2 q2a q2c q2d q2e qp qpa qpc qpd HMlst HPrw below_drew0
        have g6 := cell_of_blk HO4.out 6
        have g7 := cell_of_blk HO4.out 7
        have g8 := cell_of_blk HO4.out 8
        have r6 := free_of_blk HO4.out 6
        have r7 := free_of_blk HO4.out 7
        have r8 := free_of_blk HO4.out 8
        dsimp only [Ds.deed_] at g6 g7 g8
        generalize (w3.setCell ⟨g, i * 2 + 1, none⟩ (.slice A3 (k + 1) c3)) = w4 at HO4 HP5 g6 g7 g8 r6 r7 r8 ⊢
        go_wp2
        go_quiet (fail)
        go_wp2
        all_goals
          go_ret
          refine ⟨by trivial, HP5.out _ ?_ ?_⟩
          · first
              | exact ((((Turn.refl (fun k => k = bx) w4).cell bx 6 _ rfl).cell bx 7 _ rfl).drewN _).cell bx 8 _ rfl
              | exact ((((Turn.refl (fun k => k = bx) w4).cell bx 6 _ rfl).cell bx 7 _ rfl).drewN _)
              | exact ((((Turn.refl (fun k => k = bx) w4).cell bx 6 _ rfl).cell bx 7 _ rfl).cell bx 8 _ rfl).drewN _
          · have h1 := blk_set (blk_set HO4.out 6 (.int .i64 (s.writes + 1))) 7 (.int .i64 (s.used + 1))
            have h2 := blk_set h1 8 (.int .i64 (s.used + 1))
            first
              | (rw [show max s.peak (s.used + 1) = s.used + 1 by omega]; exact h2)
              | (rw [show max s.peak (s.used + 1) = s.peak by omega]; exact h1)
      · refine wpOp_step (o := { dst := some 49, op := .buildSlice 156 1 #[(0, .tmp 48)], type := _, pos := _, after := _, guard := none }) (by simp; exact ⟨rfl, rfl, rfl⟩) (fun K hK => step_wp rfl (op_build1 (.tmp 48) 156 136 (.slice none 0 0) 24 rfl Tryz.underlying156 infS8 (.slice A2 256 c2) (by go_simp) rfl (hK _ _ ⟨q2d, ?_⟩)))
        clear hK K
        go_simp
        refine wpAnyH_all (rs := [12]) (by kernel_rfl) (by simp) (fun j hj => ?_)
        obtain rfl := List.mem_singleton.1 hj
        clear hj
        refine wpOp_step (o := { dst := some 45, op := .load 156 (.tmp 44), type := _, pos := _, after := _, guard := none }) (by simp; exact ⟨rfl, rfl, rfl⟩) (fun K hK => ?_)
        go_simp
        refine hK _ _ ⟨q2d, ?_⟩
        clear hK K
        go_simp
        refine wpAnyH_all (rs := [17]) (by kernel_rfl) (by simp) (fun j hj => ?_)
        obtain rfl := List.mem_singleton.1 hj
        clear hj
        refine wpOp_step (o := { dst := some 50, op := .call { callee := .builtin .append, args := #[.tmp 45, .tmp 49], argTypes := #[156, 156 ] }, type := _, pos := _, after := _, guard := none }) (by simp; exact ⟨rfl, rfl, rfl⟩) (fun K hK => step_wp rfl ?_)
        refine (show Oper.wp _ _ _ (w2.alloc (.cells [Value.slice A2 256 c2].toArray 136)) _ _ from op_app1 (W := w2) 0 (.tmp 45) (.tmp 49) 156 136 (.slice none 0 0) 1 24 rfl Tryz.underlying156 infS8 rfl (by omega) (by omega) (.slice B k d) k (Hd n) [.slice A2 256 c2] (by go_simp) (by go_simp) rfl rfl (by simp [Value.oneCell']) (HPrw _ HR2.out) (Nat.zero_le _) (by omega) ?_)
        intro v3 w3 h3 t3 hor3
        obtain ⟨A3, c3, rfl⟩ := own_slice h3
        have HL3 := Lib.hid (own_turn (HMlst _ HR2.out) t3 (fun j hj e => own_ne (HMlst _ HR2.out) (HPrw _ HR2.out) (by decide) hj e))
        have HO3 := Lib.hid (t3.heap HR2.out.dsk (fun e => HNb.out _ e rfl))
        have q2e : w3.cell? ⟨bx, 2, none⟩ = some (.slice (some ⟨g, 0, none⟩) m c) := cell_of_blk HO3.out 2
        have HF3 := Lib.hid (row_file HL3.out HI.out)
        refine hK _ _ ⟨q2e, ?_⟩
        clear hK K
        go_simp
        refine wpAnyH_take (i := 18) (v := .pointer (some ⟨g, i * 2, none⟩)) rfl (by kernel_rfl) (by kernel_rfl) (by kernel_rfl) (fun _ _ _ h => h) (Or.inl ⟨by rfl, fun w hS => by go_simp⟩) q2e ?_
        refine wpAnyH_take (i := 19) (v := .pointer (some ⟨g, i * 2 + 1, none⟩)) rfl (by kernel_rfl) (by kernel_rfl) (by kernel_rfl) (fun _ _ _ h => h) (Or.inl ⟨by rfl, fun w hS => by go_simp⟩) q2e ?_
        go_simp
        have qp3 := HF3.out.1
        have fp3 := HF3.out.2.1
        dsimp only at qp3
        refine wpAnyH_all (rs := [20]) (by kernel_rfl) (by simp) (fun j hj => ?_)
        obtain rfl := List.mem_singleton.1 hj
        clear hj
        refine wpOp_step (o := { dst := none, op := .store 156 (.tmp 52) (.tmp 50), type := _, pos := _, after := _, guard := none }) (by simp; exact ⟨rfl, rfl, rfl⟩) (fun K hK => ?_)
        go_simp
        have HO4 := Lib.hid (blk_far HO3.out (p := ⟨g, i * 2 + 1, none⟩) HNg.out (.slice A3 (k + 1) c3))
        refine hK _ _ ⟨cell_of_blk HO4.out 2, ?_⟩
        clear hK K
        refine wpAnyH_done (by kernel_rfl) ?_ _
        have HP5 : Hid (∀ W', Turn (fun j => j = bx) (w3.setCell ⟨g, i * 2 + 1, none⟩ (.slice A3 (k + 1) c3)) W' → W'.heap[bx]? = some (rskObj FV (.slice (some ⟨g, 0, none⟩) m c) R ⟨s.made, s.deeds + 1, s.reads, s.writes + 1, s.used + 1, max s.peak (s.used + 1), addPg s.fs n p⟩) → Ch w (XS bx FV (.slice (some ⟨g, 0, none⟩) m c) P Hd s) (XR bx R F ⟨s.made, s.deeds + 1, s.reads, s.writes + 1, s.used + 1, max s.peak (s.used + 1), addPg s.fs n p⟩) W') :=
          xapp_end HX.out HP.out HB2.out (HMlst _ HR2.out) (HPrw _ HR2.out) HO2.out HO3.out h3 t3 hor3 HL3.out HEP.out HNg.out rfl
        clear h3 t3 hor3 qp3 fp3 q2 q2a q2c q2d q2e qp qpa qpc qpd HMlst HPrw below_drew0
        have g6 := cell_of_blk HO4.out 6
        have g7 := cell_of_blk HO4.out 7
        have g8 := cell_of_blk HO4.out 8
        have r6 := free_of_blk HO4.out 6
        have r7 := free_of_blk HO4.out 7
        have r8 := free_of_blk HO4.out 8
        dsimp only [Ds.deed_] at g6 g7 g8
        generalize (w3.setCell ⟨g, i * 2 + 1, none⟩ (.slice A3 (k + 1) c3)) = w4 at HO4 HP5 g6 g7 g8 r6 r7 r8 ⊢
        go_wp2
        go_quiet (fail)
        go_wp2
        all_goals
          go_ret
          refine ⟨by trivial, HP5.out _ ?_ ?_⟩
          · first
              | exact ((((Turn.refl (fun k => k = bx) w4).cell bx 6 _ rfl).cell bx 7 _ rfl).drewN _).cell bx 8 _ rfl
              | exact ((((Turn.refl (fun k => k = bx) w4).cell bx 6 _ rfl).cell bx 7 _ rfl).drewN _)
              | exact ((((Turn.refl (fun k => k = bx) w4).cell bx 6 _ rfl).cell bx 7 _ rfl).cell bx 8 _ rfl).drewN _
          · have h1 := blk_set (blk_set HO4.out 6 (.int .i64 (s.writes + 1))) 7 (.int .i64 (s.used + 1))
            have h2 := blk_set h1 8 (.int .i64 (s.used + 1))
            first
              | (rw [show max s.peak (s.used + 1) = s.used + 1 by omega]; exact h2)
              | (rw [show max s.peak (s.used + 1) = s.peak by omega]; exact h1)
end
end Go.Proofs.YtkbapoeilcapfaaGreat

/- the document's disk: Delete. -/
namespace Go.Proofs.YtkbapoeilcapfaaGreat
open Go.RowKit
set_option linter.unusedVariables false
set_option linter.unusedSimpArgs false
set_option maxRecDepth 6000

theorem lit_rowS (W : World) (e : TypeId) (size : Nat) {N : Nat} (h : N = W.heap.size) : (W.alloc (.cells #[] e)).ownsRow N e size (.slice (some ⟨N, 0, none⟩) 0 0) 0 [] := by
  subst h
  exact World.ownsRow_lit (base := W.heap.size) (e := e) (size := size) W #[] 0 (Nat.le_refl _) (by simp [maxLen]) (by simp)
theorem fcs_len (P : Int → Value) (fs : List (Int × List Pg)) : (fcs P fs).length = 2 * fs.length := by
  induction fs with
  | nil => rfl
  | cons y t ih =>
    simp only [fcs, List.flatMap_cons, List.length_append] at ih ⊢
    rw [ih]
    simp
    omega
theorem fcs_del {P : Int → Value} {n : Int} {l : List Pg} : ∀ (fs : List (Int × List Pg)) (i : Nat), fs.Pairwise (fun x y => x.1 < y.1) → fs[i]? = some (n, l) → (fcs P fs).take (i * 2) ++ (fcs P fs).drop ((i + 1) * 2) = fcs P (fs.filter fun x => !(x.1 == n))
  | [], i, _, h => by simp at h
  | y :: t, 0, ho, h => by
    obtain rfl : y = (n, l) := by simpa using h
    obtain ⟨h1, h2⟩ := List.pairwise_cons.1 ho
    have e : t.filter (fun x => !(x.1 == n)) = t := by
      rw [List.filter_eq_self]
      intro x hx
      have := h1 x hx
      dsimp only at this
      simp
      omega
    rw [List.filter_cons_of_neg (by simp), e]
    simp [fcs]
  | y :: t, i + 1, ho, h => by
    obtain ⟨h1, h2⟩ := List.pairwise_cons.1 ho
    have hm : t[i]? = some (n, l) := by simpa using h
    have hlt := h1 _ (List.mem_of_getElem? hm)
    dsimp only at hlt
    have ih := fcs_del (P := P) t i h2 hm
    rw [List.filter_cons_of_pos (by simp; omega)]
    simp only [fcs, List.flatMap_cons] at ih ⊢
    rw [show (i + 1) * 2 = i * 2 + 2 by omega] at ih
    rw [← ih, show (i + 1 + 1) * 2 = (i * 2 + 2) + 2 by omega, show (i + 1) * 2 = i * 2 + 2 by omega]
    rfl
theorem fcs_one {w : World} {P : Int → Value} {Hd : Int → List Value} {fs : List (Int × List Pg)} (h : ∀ x ∈ fs, w.ownsRow 0 136 1 (P x.1) x.2.length (Hd x.1)) : ∀ u ∈ fcs P fs, u.oneCell' = true := by
  intro u hu
  obtain ⟨x, hx, hu⟩ := List.mem_flatMap.1 hu
  obtain ⟨A, c, e⟩ := own_slice (h x hx)
  simp only [List.mem_cons, List.not_mem_nil, or_false] at hu
  rcases hu with rfl | rfl
  · rfl
  · rw [e]; rfl
section
variable {w : World} {bx : Nat} {FV LV : Value} {P : Int → Value} {Hd : Int → List Value} {R : Int} {F : List Int} {s : Ds}
theorem Rsk.delFile {w' : World} {n : Int} {l : List Pg} {LV' : Value} {k : Nat} (H : Rsk w bx FV LV P Hd R F s) (hf : s.find n = some l) (ht : Turn (fun k => k = bx) w w')
    (ho : w'.heap[bx]? = some (rskObj FV LV' R (s.del n))) (hl : w'.ownsRow w.heap.size 158 2 LV' k (fcs P (s.del n).fs)) : Ch w (XS bx FV LV P Hd s) (XR bx R F (s.del n)) w' := by
  have hfs : (s.del n).fs = s.fs.filter fun x => !(x.1 == n) := by unfold Ds.del; rw [hf]
  have hmem : ∀ x ∈ (s.del n).fs, x ∈ s.fs := fun x hx => by rw [hfs] at hx; exact (List.mem_filter.1 hx).1
  have hT : ∀ {e : TypeId}, e ≠ 68 → ∀ k, k = bx → ∃ cs t, w.heap[k]? = some (.cells cs t (0, 0)) ∧ t ≠ e := by
    rintro e he k rfl
    exact ⟨_, _, H.dsk, fun e2 => he e2.symm⟩
  have hk : k = (s.del n).fs.length := by
    have := hl.1
    rw [fcs_len] at this
    omega
  subst hk
  refine Rsk.ch (FV' := FV) (LV' := LV') (P' := P) (Hd' := Hd) ⟨ho, own_turnT H.flt ht (hT (by decide)), own_lower hl (Nat.zero_le _), ?_, ?_, ?_⟩ (ht.mono fun k hk => .inl hk) ?_
  · exact fun x hx => own_turnT (H.prow x (hmem x hx)) ht (hT (by decide))
  · intro x hx j p hp
    obtain ⟨v, hv, ho⟩ := H.page x (hmem x hx) j p hp
    exact ⟨v, hv, own_turnT ho ht (hT (by decide))⟩
  · exact fun x hx y hy => H.sep x (hmem x hx) y (hmem y hy)
  · rintro k (rfl | h | h | ⟨x, hx, h⟩ | ⟨x, hx, j, p, v, hp, hv, h⟩)
    · exact .inl (.inl rfl)
    · exact .inl (.inr (.inl h))
    · exact .inr (own_ge hl h)
    · exact .inl (.inr (.inr (.inr (.inl ⟨x, hmem x hx, h⟩))))
    · exact .inl (.inr (.inr (.inr (.inr ⟨x, hmem x hx, j, p, v, hp, hv, h⟩))))
theorem xdel_no (H : Rsk w bx FV LV P Hd R F s) (hl : s.fs.length ≤ 32768) {n : Int} (hf : s.find n = none) :
    Calls Tryz.prog 117 #[dp bx, .int .i64 n] w fun e w' => e = .returned (.int .i64 4) ∧ w' = w := by
  have HA := xat H hl n
  rw [Ds.at_none hf] at HA
  have HA := Lib.hid HA
  clear H hf
  go_enter Tryz.func117, Tryz.ntmps117
  go_wp2_with (go_at_call 89; refine HA.out.mono ?_; rintro e w1 ⟨rfl, hw⟩; obtain rfl := hw.symm; clear hw)
  go_ret
  exact ⟨by trivial, rfl⟩
set_option maxHeartbeats 4000000 in
theorem xdel_yes (H : Rsk w bx FV LV P Hd R F s) (K : DOk R s) {n : Int} {l : List Pg} (hf : s.find n = some l) :
    Calls Tryz.prog 117 #[dp bx, .int .i64 n] w fun e w' => e = .returned (.int .i64 0) ∧ Ch w (XS bx FV LV P Hd s) (XR bx R F (s.del n)) w' := by
  have hl := K.len
  have HA := xat H hl n
  obtain ⟨i, hi, hx⟩ := Ds.at_some hf
  rw [hi] at HA
  have HA := Lib.hid HA
  obtain ⟨c0, c1, c2, c3, c4, c5, c6, c7, c8, hb⟩ := H.cells
  have f7 := H.frees 7
  have hus := K.used
  have hrm := K.room
  have hmem := Ds.find_mem hf
  have hpg := pagesN_mem hmem
  rw [← K.cnt] at hpg
  obtain ⟨g, c, e⟩ := H.shapeL hx
  subst e
  obtain ⟨B, d, eP⟩ := own_slice (H.prow _ hmem)
  have hil := (List.getElem?_eq_some_iff.1 hx).1
  dsimp only at eP hpg
  obtain ⟨qp, _, _⟩ := row_file H.lst hx
  dsimp only at qp
  rw [eP] at qp
  have hcap : s.fs.length ≤ c := by
    rcases H.lst.2 with ⟨e, _⟩ | ⟨g', cap, cur, e, _, _, hnc, _⟩
    · cases e
    · injection e with _ _ e3
      omega
  have HX := Lib.hid (fun (w' : World) (LV' : Value) (q : Nat) ht ho hl2 => H.delFile (w' := w') (LV' := LV') (k := q) hf ht ho hl2)
  have hT : Turn (fun k => k = bx) w (w.setCell ⟨bx, 7, none⟩ (.int .i64 (s.used - l.length))) := (Turn.refl (fun k => k = bx) w).cell bx 7 _ rfl
  have hO : (w.setCell ⟨bx, 7, none⟩ (.int .i64 (s.used - l.length))).heap[bx]? = some (rskObj FV (.slice (some ⟨g, 0, none⟩) s.fs.length c) R (⟨s.made, s.deeds, s.reads, s.writes, s.used - l.length, s.peak, (s.del n).fs⟩ : Ds)) := blk_set H.dsk 7 _
  have hL := own_turn H.lst hT (fun k hk => H.nes.2.1 k hk)
  have hD : (⟨s.made, s.deeds, s.reads, s.writes, s.used - l.length, s.peak, (s.del n).fs⟩ : Ds) = s.del n := by unfold Ds.del; rw [hf]
  rw [hD] at hO
  have HO := Lib.hid hO
  have HL := Lib.hid hL
  have HT := Lib.hid hT
  have HS := Lib.hid (fcs_del (P := P) s.fs i K.ord hx)
  have HFs := Lib.hid (show (s.del n).fs = s.fs.filter fun x => !(x.1 == n) by unfold Ds.del; rw [hf])
  have HFL := Lib.hid (fcs_len P s.fs)
  obtain ⟨m, hm⟩ : ∃ m, m = s.fs.length := ⟨_, rfl⟩
  obtain ⟨k, hk⟩ : ∃ k, k = l.length := ⟨_, rfl⟩
  rw [← hm] at c2 hl hil HX HO HL hcap HFL ⊢
  rw [← hk] at qp hpg HO HT HL
  have hu0 : 0 ≤ s.used := by omega
  have HOc : ∀ u ∈ fcs P s.fs, u.oneCell' = true := fcs_one (fun x hx => H.prow x hx)
  clear H K hf hx hi hmem eP hm hk hT hO hL hD c0 c1 c3 c4 c5 c6 c8
  go_enter Tryz.func117, Tryz.ntmps117
  go_wp2_with (go_at_call 89; refine HA.out.mono ?_; rintro e w1 ⟨rfl, hw⟩; obtain rfl := hw.symm; clear hw)
  go_region
  generalize (w.setCell ⟨bx, 7, none⟩ (.int .i64 (s.used - k))) = w1 at HO HL HT ⊢
  clear c2 c7 f7 qp hb
  have d2 : w1.cell? ⟨bx, 2, none⟩ = some (.slice (some ⟨g, 0, none⟩) m c) := cell_of_blk HO.out 2
  have HLT := Lib.hid (lt_of_heap HO.out)
  have d2a : (w1.alloc (.cells #[] 158)).cell? ⟨bx, 2, none⟩ = some (.slice (some ⟨g, 0, none⟩) m c) := (World.cell?_alloc_lt _ _ _ (World.block_lt_of_cell? w1 _ d2)).trans d2
  have below_drew1 : Below w1.heap.size w1 w1.drew.drew := ⟨rfl, rfl, rfl, Nat.le_refl _, fun _ _ => rfl⟩
  have hcl := HL.out.cells (g := g) rfl
  have HG := Lib.hid (show g < w1.heap.size from (HL.out.lt g rfl).2)
  have HONE : Hid ((∀ u ∈ (fcs P s.fs).take (i * 2), u.oneCell' = true) ∧ ∀ u ∈ (fcs P s.fs).drop ((i + 1) * 2), u.oneCell' = true) := ⟨fun u hu => HOc u (List.mem_of_mem_take hu), fun u hu => HOc u (List.mem_of_mem_drop hu)⟩
  have HY1 : Hid (((fcs P s.fs).take (i * 2)).length = i * 2 ∧ ∀ j u, ((fcs P s.fs).take (i * 2))[j]? = some u → (w1.drew.drew.alloc (.cells #[] 158)).cell? ((⟨g, 0, none⟩ : Addr).add j) = some u) := by
    refine ⟨by rw [List.length_take, HFL.out]; omega, fun j u hu => ?_⟩
    have h1 : (fcs P s.fs)[j]? = some u := by
      rw [List.getElem?_take] at hu
      split at hu
      · exact hu
      · cases hu
    have h2 := hcl j u h1
    exact (World.cell?_alloc_lt _ _ _ (World.block_lt_of_cell? w1 _ h2)).trans h2
  have HDr : Hid (∀ (W : World), Below w1.heap.size w1 W → ∀ j u, ((fcs P s.fs).drop ((i + 1) * 2))[j]? = some u → W.cell? ⟨g, (i + 1) * 2 + j, none⟩ = some u) := by
    intro W b j u hu
    rw [List.getElem?_drop] at hu
    have h2 := hcl _ u hu
    rw [Addr.add_mid, Nat.zero_add] at h2
    exact (b.cell (p := ⟨g, (i + 1) * 2 + j, none⟩) HG.out).trans h2
  have HDl := Lib.hid (show ((fcs P s.fs).drop ((i + 1) * 2)).length = (m - (i + 1)) * 2 from by rw [List.length_drop, HFL.out]; omega)
  have hc0 : c ≠ 0 := by omega
  clear hcl HOc
  have hwr : IntKind.i64.wrap ((i : Int) + 1) = (i : Int) + 1 := IntWalk.i64_in _ ⟨by omega, by omega⟩
  have hnn : 0 ≤ (i : Int) + 1 := by omega
  have htn : ((i : Int) + 1).toNat = i + 1 := by omega
  have him : (i : Int) + 1 ≤ (m : Int) := by omega
  by_cases hcc : c = i + 1
  · subst hcc
    obtain rfl : m = i + 1 := by omega
    have hic : (i : Int) ≤ (i : Int) + 1 := by omega
    have HE : Hid ((fcs P s.fs).drop ((i + 1) * 2) = []) := List.eq_nil_of_length_eq_zero (by rw [HDl.out]; omega)
    have HY2 : Hid (((fcs P s.fs).drop ((i + 1) * 2)).length = 0 * 2 ∧ ∀ (W : World), Below w1.heap.size w1 W → ∀ j u, ((fcs P s.fs).drop ((i + 1) * 2))[j]? = some u → W.cell? ((⟨g, 0, none⟩ : Addr).add j) = some u) := ⟨by rw [HE.out]; rfl, fun W b j u hu => by rw [HE.out] at hu; simp at hu⟩
    go_wp2
    go_region_law (first | (refine step_wp rfl (show Oper.wp _ _ _ (w1.drew.drew.alloc (.cells #[] 158)) _ _ from op_appB (W := (w1.drew.drew.alloc (.cells #[] 158))) w1.heap.size (.tmp 31) (.tmp 37) 66 158 (.agg #[.int .i64 0, .slice none 0 0]) 2 32 rfl Tryz.underlying66 infFile rfl (by omega) (by omega) (.slice (some ⟨w1.heap.size, 0, none⟩) 0 0) 0 [] rfl ⟨g, 0, none⟩ i _ ((fcs P s.fs).take (i * 2)) rfl HY1.out.1 HY1.out.2 HONE.out.1 (lit_rowS w1.drew.drew 158 2 rfl) (by simp) (by omega) ?_); intro v2 w2 h2 t2 _; rw [Nat.zero_add, List.nil_append] at h2; obtain ⟨A2, c2', rfl⟩ := own_slice h2; have HB2 : Hid (Below w1.heap.size w1 w2) := below_turn (a := w1) (b := (w1.drew.drew.alloc (.cells #[] 158))) (below_drew1.alloc (Nat.le_refl _) _) t2 (by simp) (fun k hk => by simp [Value.ownBlock] at hk; omega); have HO2 := Lib.hid h2; have d2c : w2.cell? ⟨bx, 2, none⟩ = some (.slice (some ⟨g, 0, none⟩) (i + 1) (i + 1)) := (HB2.out.cell (p := ⟨bx, 2, none⟩) HLT.out).trans d2; clear h2 t2) | (refine step_wp rfl (op_appB (W := w2) w1.heap.size (.tmp 38) (.tmp 45) 66 158 (.agg #[.int .i64 0, .slice none 0 0]) 2 32 rfl Tryz.underlying66 infFile rfl (by omega) (by omega) (.slice A2 i c2') i ((fcs P s.fs).take (i * 2)) rfl ⟨g, 0, none⟩ 0 _ ((fcs P s.fs).drop ((i + 1) * 2)) rfl HY2.out.1 (HY2.out.2 _ HB2.out) HONE.out.2 HO2.out HB2.out.size (by omega) ?_); intro v3 w3 h3 t3 _; obtain ⟨A3, c3, rfl⟩ := own_slice h3; have HB3 : Hid (Below w1.heap.size w1 w3) := below_turn HB2.out t3 HB2.out.size (fun k hk => own_ge HO2.out hk); have HO3 := Lib.hid h3; have HD3 := Lib.hid (blk_below HO.out HB3.out HLT.out); have r3 := free_of_blk HD3.out 2; have d2d : w3.cell? ⟨bx, 2, none⟩ = some (.slice (some ⟨g, 0, none⟩) (i + 1) (i + 1)) := cell_of_blk HD3.out 2; clear h3 t3))
    all_goals
      go_wp2
      go_ret
      have hz := HT.out.size
      refine ⟨by trivial, HX.out _ (.slice A3 (i + 0) c3) (i + 0) ?_ ?_ ?_⟩
      · exact ((HT.out.then_ (Turn.of_below HB3.out (fun _ => False)) (fun _ h => h.elim)).cell bx 2 _ rfl).drewN 0
      · exact blk_set HD3.out 2 (.slice A3 (i + 0) c3)
      · rw [HFs.out, ← HS.out]
        exact own_lower (own_turn HO3.out ((Turn.refl (fun k => k = bx) w3).cell bx 2 _ rfl) (fun k hk => blk_ne HO3.out HD3.out (by decide) hk)) hz
  · have hic : (i : Int) ≤ (c : Int) := by omega
    have HY2 : Hid (((fcs P s.fs).drop ((i + 1) * 2)).length = (m - (i + 1)) * 2 ∧ ∀ (W : World), Below w1.heap.size w1 W → ∀ j u, ((fcs P s.fs).drop ((i + 1) * 2))[j]? = some u → W.cell? ((⟨g, (i + 1) * 2, none⟩ : Addr).add j) = some u) := ⟨HDl.out, fun W b j u hu => by rw [Addr.add_mid]; exact HDr.out W b j u hu⟩
    go_wp2
    go_region_law (first | (refine step_wp rfl (show Oper.wp _ _ _ (w1.drew.drew.alloc (.cells #[] 158)) _ _ from op_appB (W := (w1.drew.drew.alloc (.cells #[] 158))) w1.heap.size (.tmp 31) (.tmp 37) 66 158 (.agg #[.int .i64 0, .slice none 0 0]) 2 32 rfl Tryz.underlying66 infFile rfl (by omega) (by omega) (.slice (some ⟨w1.heap.size, 0, none⟩) 0 0) 0 [] rfl ⟨g, 0, none⟩ i _ ((fcs P s.fs).take (i * 2)) rfl HY1.out.1 HY1.out.2 HONE.out.1 (lit_rowS w1.drew.drew 158 2 rfl) (by simp) (by omega) ?_); intro v2 w2 h2 t2 _; rw [Nat.zero_add, List.nil_append] at h2; obtain ⟨A2, c2', rfl⟩ := own_slice h2; have HB2 : Hid (Below w1.heap.size w1 w2) := below_turn (a := w1) (b := (w1.drew.drew.alloc (.cells #[] 158))) (below_drew1.alloc (Nat.le_refl _) _) t2 (by simp) (fun k hk => by simp [Value.ownBlock] at hk; omega); have HO2 := Lib.hid h2; have d2c : w2.cell? ⟨bx, 2, none⟩ = some (.slice (some ⟨g, 0, none⟩) m c) := (HB2.out.cell (p := ⟨bx, 2, none⟩) HLT.out).trans d2; clear h2 t2) | (refine step_wp rfl (op_appB (W := w2) w1.heap.size (.tmp 38) (.tmp 45) 66 158 (.agg #[.int .i64 0, .slice none 0 0]) 2 32 rfl Tryz.underlying66 infFile rfl (by omega) (by omega) (.slice A2 i c2') i ((fcs P s.fs).take (i * 2)) rfl ⟨g, (i + 1) * 2, none⟩ (m - (i + 1)) _ ((fcs P s.fs).drop ((i + 1) * 2)) rfl HY2.out.1 (HY2.out.2 _ HB2.out) HONE.out.2 HO2.out HB2.out.size (by omega) ?_); intro v3 w3 h3 t3 _; obtain ⟨A3, c3, rfl⟩ := own_slice h3; have HB3 : Hid (Below w1.heap.size w1 w3) := below_turn HB2.out t3 HB2.out.size (fun k hk => own_ge HO2.out hk); have HO3 := Lib.hid h3; have HD3 := Lib.hid (blk_below HO.out HB3.out HLT.out); have r3 := free_of_blk HD3.out 2; have d2d : w3.cell? ⟨bx, 2, none⟩ = some (.slice (some ⟨g, 0, none⟩) m c) := cell_of_blk HD3.out 2; clear h3 t3))
    all_goals
      go_wp2
      go_ret
      have hz := HT.out.size
      refine ⟨by trivial, HX.out _ (.slice A3 (i + (m - (i + 1))) c3) (i + (m - (i + 1))) ?_ ?_ ?_⟩
      · exact ((HT.out.then_ (Turn.of_below HB3.out (fun _ => False)) (fun _ h => h.elim)).cell bx 2 _ rfl).drewN 0
      · exact blk_set HD3.out 2 (.slice A3 (i + (m - (i + 1))) c3)
      · rw [HFs.out, ← HS.out]
        exact own_lower (own_turn HO3.out ((Turn.refl (fun k => k = bx) w3).cell bx 2 _ rfl) (fun k hk => blk_ne HO3.out HD3.out (by decide) hk)) hz
end
end Go.Proofs.YtkbapoeilcapfaaGreat

/- the document's disk: its calls beside a frame. -/
namespace Go.Proofs.YtkbapoeilcapfaaGreat
open Go.RowKit
set_option linter.unusedVariables false
set_option linter.unusedSimpArgs false
set_option maxRecDepth 6000

section
variable {w : World} {S : Nat → Prop} {bx : Nat} {R : Int} {F : List Int} {s : Ds}
theorem x_create (H : XR bx R F s w S) (K : DOk R s) (hm : s.made ≤ 1000000000) :
    Calls Tryz.prog 84 #[dp bx] w fun e w' => e = .returned (.tuple #[.int .i64 (if s.createE = 0 then s.made + 1 else 0), .int .i64 s.createE]) ∧ Ch w S (XR bx R F s.create) w' := by
  obtain ⟨FV, LV, P, Hd, h, rfl⟩ := H
  by_cases hl : 32768 ≤ s.fs.length
  · have e : s.createE = 2 := if_pos hl
    unfold Ds.create
    rw [e]
    refine (xcreate_full h hl).mono ?_
    rintro e w' ⟨rfl, rfl⟩
    exact ⟨rfl, Ch.same (XR_good _ _ _ _) ⟨_, _, _, _, h, rfl⟩ (Below.refl _ _)⟩
  · have e : s.createE = 0 := if_neg hl
    unfold Ds.create
    rw [e]
    exact xcreate_ok h (by omega) K.made hm (fun x hx => (K.num x hx).2)
theorem x_del (H : XR bx R F s w S) (K : DOk R s) {n : Int} :
    Calls Tryz.prog 117 #[dp bx, .int .i64 n] w fun e w' => e = .returned (.int .i64 (s.delE n)) ∧ Ch w S (XR bx R F (s.del n)) w' := by
  obtain ⟨FV, LV, P, Hd, h, rfl⟩ := H
  cases hf : s.find n with
  | none =>
    have e : s.delE n = 4 := by unfold Ds.delE; rw [hf]
    have e2 : s.del n = s := by unfold Ds.del; rw [hf]
    rw [e, e2]
    refine (xdel_no h K.len hf).mono ?_
    rintro e w' ⟨rfl, rfl⟩
    exact ⟨rfl, Ch.same (XR_good _ _ _ _) ⟨_, _, _, _, h, rfl⟩ (Below.refl _ _)⟩
  | some l =>
    have e : s.delE n = 0 := by unfold Ds.delE; rw [hf]
    rw [e]
    exact xdel_yes h K hf
theorem x_app (H : XR bx R F s w S) (K : DOk R s) (hd : s.deeds ≤ 1000000000) (hF : F.length ≤ 9223372036854775807) {n : Int} {A : Option Addr} {k c : Nat} {p : Pg} (hp : RdBy w A k p) (hne : ∀ ad, A = some ad → ¬ S ad.block) :
    Calls Tryz.prog 116 #[dp bx, .int .i64 n, .slice A k c] w fun e w' => e = .returned (.int .i64 (s.appE R F n p)) ∧ Ch w S (XR bx R F (s.app R F n p)) w' := by
  obtain ⟨FV, LV, P, Hd, h, rfl⟩ := H
  have same : Ch w (XS bx FV LV P Hd s) (XR bx R F s) w := Ch.same (XR_good _ _ _ _) ⟨_, _, _, _, h, rfl⟩ (Below.refl _ _)
  have hkeep : ∀ {E : Int}, s.appE R F n p = E → E ≠ 0 → E ≠ 50 → s.app R F n p = s := fun e h1 h2 => by unfold Ds.app; rw [e, if_neg h1, if_neg h2]
  by_cases hk : k = 256
  · subst hk
    have hl : p.length = 256 := hp.1
    cases hf : s.find n with
    | none =>
      have e : s.appE R F n p = 4 := by unfold Ds.appE; rw [if_neg (by omega), hf]
      rw [hkeep e (by decide) (by decide), e]
      refine (xapp_none h K.len hf).mono ?_
      rintro e w' ⟨rfl, rfl⟩
      exact ⟨rfl, same⟩
    | some l =>
      by_cases hu : R ≤ s.used
      · have e : s.appE R F n p = 2 := by unfold Ds.appE; rw [if_neg (by omega), hf]; exact if_pos hu
        rw [hkeep e (by decide) (by decide), e]
        refine (xapp_full h K.len hf hu).mono ?_
        rintro e w' ⟨rfl, b⟩
        exact ⟨rfl, Ch.same (XR_good _ _ _ _) ⟨_, _, _, _, h, rfl⟩ b⟩
      · cases hc : F.contains (s.deeds + 1) with
        | true =>
          have e : s.appE R F n p = 50 := by unfold Ds.appE; rw [if_neg (by omega), hf]; dsimp only; rw [if_neg hu, hc]; rfl
          have e2 : s.app R F n p = s.deed_ := by unfold Ds.app; rw [e, if_neg (by decide), if_pos rfl]
          rw [e, e2]
          exact xapp_fault h K hd hF hf (by omega) hc
        | false =>
          have e : s.appE R F n p = 0 := by unfold Ds.appE; rw [if_neg (by omega), hf]; dsimp only; rw [if_neg hu, hc]; rfl
          have e2 : s.app R F n p = ⟨s.made, s.deeds + 1, s.reads, s.writes + 1, s.used + 1, max s.peak (s.used + 1), addPg s.fs n p⟩ := by unfold Ds.app; rw [if_pos e]
          rw [e, e2]
          obtain ⟨ad, rfl, ha⟩ := hp.2 (by omega)
          exact xapp_ok h K hd hF hf (by omega) hc ha hl (fun e => hne ad rfl (.inl e))
  · have e : s.appE R F n p = 1 := by unfold Ds.appE; exact if_pos (by rw [hp.1]; exact hk)
    rw [hkeep e (by decide) (by decide), e]
    refine (xapp_arg h K.len hk).mono ?_
    rintro e w' ⟨rfl, rfl⟩
    exact ⟨rfl, same⟩
theorem x_read (H : XR bx R F s w S) (K : DOk R s) (hd : s.deeds ≤ 1000000000) (hF : F.length ≤ 9223372036854775807) {n i : Int} :
    Calls Tryz.prog 90 #[dp bx, .int .i64 n, .int .i64 i] w fun e w' => ∃ v : Option Addr × Nat × Nat, e = .returned (.tuple #[.slice v.1 v.2.1 v.2.2, .int .i64 (s.readE F n i)]) ∧ Ch w S (star (XR bx R F (s.read F n i)) (rowR 5 1 (.slice v.1 v.2.1 v.2.2) v.2.1 (b8 (s.readQ F n i)))) w' := by
  obtain ⟨FV, LV, P, Hd, h, rfl⟩ := H
  have same : Ch w (XS bx FV LV P Hd s) (XR bx R F s) w := Ch.same (XR_good _ _ _ _) ⟨_, _, _, _, h, rfl⟩ (Below.refl _ _)
  have none4 : s.readE F n i = 4 → (Calls Tryz.prog 90 #[dp bx, .int .i64 n, .int .i64 i] w fun e w' => e = .returned (.tuple #[.slice none 0 0, .int .i64 4]) ∧ w' = w) → Calls Tryz.prog 90 #[dp bx, .int .i64 n, .int .i64 i] w fun e w' => ∃ v : Option Addr × Nat × Nat, e = .returned (.tuple #[.slice v.1 v.2.1 v.2.2, .int .i64 (s.readE F n i)]) ∧ Ch w (XS bx FV LV P Hd s) (star (XR bx R F (s.read F n i)) (rowR 5 1 (.slice v.1 v.2.1 v.2.2) v.2.1 (b8 (s.readQ F n i)))) w' := by
    intro e hc
    have e2 : s.read F n i = s := by unfold Ds.read; rw [e, if_neg (by decide), if_neg (by decide)]
    have e3 : s.readQ F n i = [] := by unfold Ds.readQ; rw [e, if_neg (by decide)]
    rw [e, e2, e3]
    refine hc.mono ?_
    rintro e w' ⟨rfl, rfl⟩
    exact ⟨(none, 0, 0), rfl, same.plus_nil _⟩
  cases hf : s.find n with
  | none => exact none4 (by unfold Ds.readE; rw [hf]) (xread_no h K.len (.inl hf))
  | some l =>
    by_cases hi : i < 0
    · exact none4 (by unfold Ds.readE; rw [hf]; exact if_pos (.inl hi)) (xread_no h K.len (.inr hi))
    · by_cases hl : (l.length : Int) ≤ i
      · exact none4 (by unfold Ds.readE; rw [hf]; exact if_pos (.inr hl)) (xread_long h K.len hf (by omega) hl)
      · cases hc : F.contains (s.deeds + 1) with
        | true =>
          have e : s.readE F n i = 50 := by unfold Ds.readE; rw [hf]; dsimp only; rw [if_neg (by omega), hc]; rfl
          have e2 : s.read F n i = s.deed_ := by unfold Ds.read; rw [e, if_neg (by decide), if_pos rfl]
          have e3 : s.readQ F n i = [] := by unfold Ds.readQ; rw [e, if_neg (by decide)]
          rw [e, e2, e3]
          refine (xread_fault h K hd hF hf (by omega) (by omega) hc).mono ?_
          rintro e w' ⟨rfl, hc⟩
          exact ⟨(none, 0, 0), rfl, hc.plus_nil _⟩
        | false =>
          have e : s.readE F n i = 0 := by unfold Ds.readE; rw [hf]; dsimp only; rw [if_neg (by omega), hc]; rfl
          obtain ⟨j, rfl⟩ : ∃ j : Nat, i = (j : Int) := ⟨i.toNat, by omega⟩
          obtain ⟨p, hp⟩ : ∃ p, l[j]? = some p := ⟨_, List.getElem?_eq_getElem (by omega)⟩
          have e2 : s.read F n (j : Int) = ⟨s.made, s.deeds + 1, s.reads + 1, s.writes, s.used, s.peak, s.fs⟩ := by unfold Ds.read; rw [if_pos e]
          have e3 : s.readQ F n (j : Int) = p := by
            unfold Ds.readQ Ds.readP
            rw [if_pos e, hf, Option.getD_some, List.getD_eq_getElem?_getD, Int.toNat_natCast, hp]
            rfl
          rw [e, e2, e3]
          refine (xread_ok h K hd hF hf hp hc).mono ?_
          rintro e w' ⟨v, rfl, hc⟩
          exact ⟨(v.1, 256, v.2), rfl, hc⟩
theorem x_at (H : XR bx R F s w S) (K : DOk R s) (n : Int) : Calls Tryz.prog 89 #[dp bx, .int .i64 n] w fun e w' => e = .returned (.int .i64 (s.at_ n)) ∧ w' = w := by
  obtain ⟨FV, LV, P, Hd, h, rfl⟩ := H
  exact xat h K.len n
end
section
variable {w0 w : World} {Fr : Res} {bx : Nat} {R : Int} {F : List Int} {s : Ds}
theorem y_create (g : Good Fr) (H : In w0 w (star (XR bx R F s) Fr)) (K : DOk R s) (hm : s.made ≤ 1000000000) :
    Calls Tryz.prog 84 #[dp bx] w fun e w' => e = .returned (.tuple #[.int .i64 (if s.createE = 0 then s.made + 1 else 0), .int .i64 s.createE]) ∧ In w0 w' (star (XR bx R F s.create) Fr) :=
  H.call1 g fun S hS => x_create hS K hm
theorem y_del (g : Good Fr) (H : In w0 w (star (XR bx R F s) Fr)) (K : DOk R s) {n : Int} :
    Calls Tryz.prog 117 #[dp bx, .int .i64 n] w fun e w' => e = .returned (.int .i64 (s.delE n)) ∧ In w0 w' (star (XR bx R F (s.del n)) Fr) :=
  H.call1 g fun S hS => x_del hS K
/-- The bytes stand in the frame. -/
theorem y_app {A : Option Addr} {k c : Nat} {p : Pg} {n : Int} (g : Good Fr) (H : In w0 w (star (XR bx R F s) (star (rowR 5 1 (.slice A k c) k (b8 p)) Fr))) (K : DOk R s) (hd : s.deeds ≤ 1000000000) (hF : F.length ≤ 9223372036854775807) :
    Calls Tryz.prog 116 #[dp bx, .int .i64 n, .slice A k c] w fun e w' => e = .returned (.int .i64 (s.appE R F n p)) ∧ In w0 w' (star (XR bx R F (s.app R F n p)) (star (rowR 5 1 (.slice A k c) k (b8 p)) Fr)) := by
  refine H.callF1 (star_good (rowR_good _ _ _ _ _) g) fun S1 S2 h1 h2 hd2 _ => ?_
  obtain ⟨T1, T2, ⟨ho, rfl⟩, h4, hd3, hs⟩ := h2
  exact x_app h1 K hd hF (RdBy.of_own ho) (fun ad e hS => hd2 _ hS ((hs _).2 (.inl (by rw [e]; rfl))))
/-- The bytes lie below. -/
theorem y_app0 {A : Option Addr} {k c : Nat} {p : Pg} {n : Int} (g : Good Fr) (H : In w0 w (star (XR bx R F s) Fr)) (K : DOk R s) (hd : s.deeds ≤ 1000000000) (hF : F.length ≤ 9223372036854775807) (hp : RdBy w0 A k p) :
    Calls Tryz.prog 116 #[dp bx, .int .i64 n, .slice A k c] w fun e w' => e = .returned (.int .i64 (s.appE R F n p)) ∧ In w0 w' (star (XR bx R F (s.app R F n p)) Fr) := by
  refine H.callF1 g fun S1 S2 h1 h2 hd2 hge => ?_
  by_cases hk : 0 < k
  · obtain ⟨ad, rfl, ha⟩ := hp.2 hk
    refine x_app h1 K hd hF (hp.below H.bel) (fun ad' e hS => ?_)
    injection e with e
    subst e
    have := hge _ hS
    have := ha.1
    omega
  · obtain ⟨FV, LV, P, Hd, h, rfl⟩ := h1
    have e : s.appE R F n p = 1 := by unfold Ds.appE; exact if_pos (by rw [hp.1]; omega)
    have e2 : s.app R F n p = s := by unfold Ds.app; rw [e, if_neg (by decide), if_neg (by decide)]
    rw [e, e2]
    refine (xapp_arg h K.len (by omega)).mono ?_
    rintro e w' ⟨rfl, rfl⟩
    exact ⟨rfl, Ch.same (XR_good _ _ _ _) ⟨_, _, _, _, h, rfl⟩ (Below.refl _ _)⟩
theorem y_read {n i : Int} (g : Good Fr) (H : In w0 w (star (XR bx R F s) Fr)) (K : DOk R s) (hd : s.deeds ≤ 1000000000) (hF : F.length ≤ 9223372036854775807) :
    Calls Tryz.prog 90 #[dp bx, .int .i64 n, .int .i64 i] w fun e w' => ∃ v : Option Addr × Nat × Nat, e = .returned (.tuple #[.slice v.1 v.2.1 v.2.2, .int .i64 (s.readE F n i)]) ∧ In w0 w' (star (XR bx R F (s.read F n i)) (star (rowR 5 1 (.slice v.1 v.2.1 v.2.2) v.2.1 (b8 (s.readQ F n i))) Fr)) := by
  refine (H.call g (Q := fun (v : Option Addr × Nat × Nat) e => e = .returned (.tuple #[.slice v.1 v.2.1 v.2.2, .int .i64 (s.readE F n i)])) fun S hS => x_read hS K hd hF).mono ?_
  rintro e w' ⟨v, h1, h2⟩
  exact ⟨v, h1, h2.assoc⟩
theorem y_at (H : In w0 w (star (XR bx R F s) Fr)) (K : DOk R s) (n : Int) : Calls Tryz.prog 89 #[dp bx, .int .i64 n] w fun e w' => e = .returned (.int .i64 (s.at_ n)) ∧ w' = w :=
  H.left.get fun S h1 => x_at h1 K n
end
end Go.Proofs.YtkbapoeilcapfaaGreat
