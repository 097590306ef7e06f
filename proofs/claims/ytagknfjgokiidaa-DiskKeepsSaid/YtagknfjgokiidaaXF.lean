/- the document's disk: what an Append makes of it. -/
import Derived.Test.YtagknfjgokiidaaXE
namespace Go.Proofs.Ytagknfjgokiidaa
open Go.RowKit
set_option linter.unusedVariables false
set_option linter.unusedSimpArgs false
set_option maxRecDepth 6000

theorem own_set {w : World} {base : Nat} {e : TypeId} {size n c g j : Nat} {xs : List Value} (h : w.ownsRow base e size (.slice (some ⟨g, 0, none⟩) n c) n xs) (u : Value) : (w.setCell ⟨g, j, none⟩ u).ownsRow base e size (.slice (some ⟨g, 0, none⟩) n c) n (xs.set j u) := by
  refine ⟨by rw [List.length_set]; exact h.1, ?_⟩
  rcases h.2 with ⟨e1, e2⟩ | ⟨g', cap, cur, e1, hb, hg, hnc, hm, hs, hx⟩
  · cases e1
  · injection e1 with e1 _ e3
    injection e1 with e1
    injection e1 with e1 _ _
    subst e1
    refine .inr ⟨g, cap, cur.setIfInBounds j u, by rw [e3], hb, blk_set hg j u, hnc, hm, by simpa using hs, ?_⟩
    rw [Array.toList_setIfInBounds, List.take_set, hx]
theorem fcs_addPg {P : Int → Value} {n : Int} {l : List Pg} (p : Pg) (v : Value) : ∀ (fs : List (Int × List Pg)) (i : Nat), fs.Pairwise (fun x y => x.1 < y.1) → fs[i]? = some (n, l) → (fcs P fs).set (i * 2 + 1) v = fcs (updV P n v) (addPg fs n p)
  | [], i, _, h => by simp at h
  | y :: t, 0, ho, h => by
    obtain rfl : y = (n, l) := by simpa using h
    obtain ⟨h1, h2⟩ := List.pairwise_cons.1 ho
    have hne : ∀ x ∈ t, x.1 ≠ n := fun x hx => by have := h1 x hx; dsimp only at this; omega
    have e1 := addPg_none (fs := t) p hne
    unfold addPg at e1 ⊢
    rw [List.map_cons, if_pos rfl, e1]
    simp only [fcs, List.flatMap_cons, updV_same]
    have e2 := fcs_congr (P := P) (P' := updV P n v) (fs := t) (fun x hx => (updV_ne _ _ (hne x hx)).symm)
    simp only [fcs] at e2
    rw [← e2]
    rfl
  | y :: t, i + 1, ho, h => by
    obtain ⟨h1, h2⟩ := List.pairwise_cons.1 ho
    have hm : t[i]? = some (n, l) := by simpa using h
    have hne : y.1 ≠ n := by have := h1 _ (List.mem_of_getElem? hm); dsimp only at this; omega
    have ih := fcs_addPg (P := P) p v t i h2 hm
    unfold addPg at ih ⊢
    rw [List.map_cons, if_neg hne]
    simp only [fcs, List.flatMap_cons] at ih ⊢
    rw [updV_ne _ _ hne, ← ih, show (i + 1) * 2 + 1 = (i * 2 + 1) + 2 by omega]
    rfl
section
variable {w : World} {bx : Nat} {FV LV : Value} {P : Int → Value} {Hd : Int → List Value} {R : Int} {F : List Int} {s : Ds}
theorem Rsk.addPage {w' : World} {s' : Ds} {n : Int} {l : List Pg} {p : Pg} {v1 v0 : Value} {i : Nat} (H : Rsk w bx FV LV P Hd R F s) (ord : s.fs.Pairwise (fun x y => x.1 < y.1)) (hx : s.fs[i]? = some (n, l)) (hl0 : (Hd n).length = l.length)
    (ht : Turn (fun k => k = bx ∨ LV.ownBlock = some k ∨ (P n).ownBlock = some k) w w') (ho : w'.heap[bx]? = some (rskObj FV LV R s')) (hfs : s'.fs = addPg s.fs n p)
    (hl : w'.ownsRow 0 74 2 LV s.fs.length ((fcs P s.fs).set (i * 2 + 1) v1)) (hr : w'.ownsRow 0 31 1 v1 (l.length + 1) (Hd n ++ [v0])) (hp : w'.ownsRow 0 5 1 v0 256 (b8 p)) (hv0 : ∀ k, v0.ownBlock = some k → w.heap.size ≤ k)
    (hor : v1.ownBlock = (P n).ownBlock ∨ ∃ b, v1.ownBlock = some b ∧ w.heap.size ≤ b) :
    Ch w (XS bx FV LV P Hd s) (XR bx R F s') w' := by
  have hmem := List.mem_of_getElem? hx
  have hT : ∀ {e : TypeId}, e ≠ 71 → e ≠ 74 → e ≠ 31 → ∀ k, (k = bx ∨ LV.ownBlock = some k ∨ (P n).ownBlock = some k) → ∃ cs t, w.heap[k]? = some (.cells cs t (0, 0)) ∧ t ≠ e := by
    rintro e h1 h2 h3 k (rfl | hk | hk)
    · exact ⟨_, _, H.dsk, fun e2 => h1 e2.symm⟩
    · obtain ⟨cs, hc⟩ := own_obj H.lst hk
      exact ⟨cs, _, hc, fun e2 => h2 e2.symm⟩
    · obtain ⟨cs, hc⟩ := own_obj (H.prow _ hmem) hk
      exact ⟨cs, _, hc, fun e2 => h3 e2.symm⟩
  have hother : ∀ x ∈ s.fs, x.1 ≠ n → ∀ k, (P x.1).ownBlock = some k → ¬ (k = bx ∨ LV.ownBlock = some k ∨ (P n).ownBlock = some k) := by
    rintro x hx2 hne k hk (e | e | e)
    · exact H.nes.2.2 x hx2 k hk e
    · exact own_ne (H.prow x hx2) H.lst (by decide) hk e
    · exact hne (H.sep x hx2 _ hmem k hk e)
  have hor2 : ∀ x ∈ s.fs, x.1 ≠ n → ∀ k, (P x.1).ownBlock = some k → v1.ownBlock ≠ some k := by
    intro x hx2 hne k hk e
    rcases hor with h | ⟨b, h, hb⟩
    · rw [h] at e
      exact hne (H.sep x hx2 _ hmem k hk e)
    · rw [h] at e
      injection e with e
      have := ((H.prow x hx2).lt k hk).2
      omega
  refine Rsk.ch (FV' := FV) (LV' := LV) (P' := updV P n v1) (Hd' := updH Hd n (Hd n ++ [v0])) ⟨ho, own_turnT H.flt ht (hT (by decide) (by decide) (by decide)), ?_, ?_, ?_, ?_⟩ (ht.mono ?_) ?_
  · rw [hfs, addPg_len, ← fcs_addPg p v1 s.fs i ord hx]
    exact hl
  · intro x hx2
    rw [hfs] at hx2
    rcases addPg_mem hx2 with ⟨hx2, hne⟩ | ⟨l', hl', rfl⟩
    · rw [updV_ne _ _ hne, updH_ne _ _ hne]
      exact own_turn (H.prow x hx2) ht (hother x hx2 hne)
    · rw [updV_same, updH_same]
      have := fs_inj ord hl' hmem rfl
      injection this with _ e2
      rw [e2, List.length_append]
      exact hr
  · intro x hx2 j q hq
    rw [hfs] at hx2
    rcases addPg_mem hx2 with ⟨hx2, hne⟩ | ⟨l', hl', rfl⟩
    · rw [updH_ne _ _ hne]
      obtain ⟨v, hv, ho⟩ := H.page x hx2 j q hq
      exact ⟨v, hv, own_turnT ho ht (hT (by decide) (by decide) (by decide))⟩
    · rw [updH_same]
      have := fs_inj ord hl' hmem rfl
      injection this with _ e2
      subst e2
      dsimp only at hq
      rcases Nat.lt_or_ge j l'.length with hj | hj
      · rw [List.getElem?_append_left hj] at hq
        obtain ⟨v, hv, ho⟩ := H.page _ hmem j q hq
        exact ⟨v, by rw [List.getElem?_append_left (by rw [hl0]; exact hj)]; exact hv, own_turnT ho ht (hT (by decide) (by decide) (by decide))⟩
      · rw [List.getElem?_append_right hj] at hq
        have hj0 : j - l'.length = 0 := by
          have := (List.getElem?_eq_some_iff.1 hq).1
          simpa using this
        rw [hj0] at hq
        have hq' : p = q := by simpa using hq
        rw [← hq']
        refine ⟨v0, ?_, hp⟩
        rw [List.getElem?_append_right (by rw [hl0]; exact hj), hl0, hj0]
        rfl
  · intro x hx2 y hy k hk hl2
    rw [hfs] at hx2 hy
    rcases addPg_mem hx2 with ⟨hx2, hne⟩ | ⟨lx, hlx, rfl⟩ <;> rcases addPg_mem hy with ⟨hy, hne2⟩ | ⟨ly, hly, rfl⟩
    · rw [updV_ne _ _ hne] at hk
      rw [updV_ne _ _ hne2] at hl2
      exact H.sep x hx2 y hy k hk hl2
    · rw [updV_ne _ _ hne] at hk
      rw [updV_same] at hl2
      exact absurd hl2 (hor2 x hx2 hne k hk)
    · rw [updV_same] at hk
      rw [updV_ne _ _ hne2] at hl2
      exact absurd hk (hor2 y hy hne2 k hl2)
    · rfl
  · rintro k (h | h | h)
    · exact .inl h
    · exact .inr (.inr (.inl h))
    · exact .inr (.inr (.inr (.inl ⟨_, hmem, h⟩)))
  · rintro k (rfl | h | h | ⟨x, hx2, h⟩ | ⟨x, hx2, j, q, v, hq, hv, h⟩)
    · exact .inl (.inl rfl)
    · exact .inl (.inr (.inl h))
    · exact .inl (.inr (.inr (.inl h)))
    · rw [hfs] at hx2
      rcases addPg_mem hx2 with ⟨hx2, hne⟩ | ⟨lx, hlx, rfl⟩
      · rw [updV_ne _ _ hne] at h
        exact .inl (.inr (.inr (.inr (.inl ⟨x, hx2, h⟩))))
      · rw [updV_same] at h
        rcases hor with e | ⟨b, e, hb⟩
        · rw [e] at h
          exact .inl (.inr (.inr (.inr (.inl ⟨_, hmem, h⟩))))
        · rw [e] at h
          injection h with h
          exact .inr (by omega)
    · rw [hfs] at hx2
      rcases addPg_mem hx2 with ⟨hx2, hne⟩ | ⟨l', hl', rfl⟩
      · rw [updH_ne _ _ hne] at hv
        exact .inl (.inr (.inr (.inr (.inr ⟨x, hx2, j, q, v, hq, hv, h⟩))))
      · rw [updH_same] at hv
        have := fs_inj ord hl' hmem rfl
        injection this with _ e2
        subst e2
        dsimp only at hq
        rcases Nat.lt_or_ge j l'.length with hj | hj
        · rw [List.getElem?_append_left hj] at hq
          rw [List.getElem?_append_left (by rw [hl0]; exact hj)] at hv
          exact .inl (.inr (.inr (.inr (.inr ⟨_, hmem, j, q, v, hq, hv, h⟩))))
        · rw [List.getElem?_append_right (by rw [hl0]; exact hj)] at hv
          have hj0 : j - (Hd n).length = 0 := by
            have := (List.getElem?_eq_some_iff.1 hv).1
            simpa using this
          rw [hj0] at hv
          have hv' : v0 = v := by simpa using hv
          rw [← hv'] at h
          exact .inr (hv0 k h)
end
end Go.Proofs.Ytagknfjgokiidaa
