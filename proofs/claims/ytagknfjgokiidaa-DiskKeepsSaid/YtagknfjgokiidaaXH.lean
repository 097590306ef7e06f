/- the document's disk: Delete. -/
import Derived.Test.YtagknfjgokiidaaXG
import Derived.IntWalk
namespace Go.Proofs.Ytagknfjgokiidaa
open Go.RowKit
set_option linter.unusedVariables false
set_option linter.unusedSimpArgs false
set_option maxRecDepth 6000

theorem lit_rowS (W : World) (e : TypeId) (size : Nat) {N : Nat} (h : N = W.heap.size) : (W.alloc (.cells #[] e)).ownsRow N e size (.slice (some ⟨N, 0, none⟩) 0 0) 0 [] := by
  subst h
  exact World.ownsRow_lit (base := W.heap.size) (e := e) (size := size) W #[] 0 (Nat.le_refl _) (by simp [maxLen]) (by simp)
theorem fcs_len (P : Int → Value) (fs : List (Int × List Pg)) : (fcs P fs).length = 2 * fs.length := by
  induction fs with
  | nil => rfl
  | cons y t ih =>
    simp only [fcs, List.flatMap_cons, List.length_append] at ih ⊢
    rw [ih]
    simp
    omega
theorem fcs_del {P : Int → Value} {n : Int} {l : List Pg} : ∀ (fs : List (Int × List Pg)) (i : Nat), fs.Pairwise (fun x y => x.1 < y.1) → fs[i]? = some (n, l) → (fcs P fs).take (i * 2) ++ (fcs P fs).drop ((i + 1) * 2) = fcs P (fs.filter fun x => !(x.1 == n))
  | [], i, _, h => by simp at h
  | y :: t, 0, ho, h => by
    obtain rfl : y = (n, l) := by simpa using h
    obtain ⟨h1, h2⟩ := List.pairwise_cons.1 ho
    have e : t.filter (fun x => !(x.1 == n)) = t := by
      rw [List.filter_eq_self]
      intro x hx
      have := h1 x hx
      dsimp only at this
      simp
      omega
    rw [List.filter_cons_of_neg (by simp), e]
    simp [fcs]
  | y :: t, i + 1, ho, h => by
    obtain ⟨h1, h2⟩ := List.pairwise_cons.1 ho
    have hm : t[i]? = some (n, l) := by simpa using h
    have hlt := h1 _ (List.mem_of_getElem? hm)
    dsimp only at hlt
    have ih := fcs_del (P := P) t i h2 hm
    rw [List.filter_cons_of_pos (by simp; omega)]
    simp only [fcs, List.flatMap_cons] at ih ⊢
    rw [show (i + 1) * 2 = i * 2 + 2 by omega] at ih
    rw [← ih, show (i + 1 + 1) * 2 = (i * 2 + 2) + 2 by omega, show (i + 1) * 2 = i * 2 + 2 by omega]
    rfl
theorem fcs_one {w : World} {P : Int → Value} {Hd : Int → List Value} {fs : List (Int × List Pg)} (h : ∀ x ∈ fs, w.ownsRow 0 31 1 (P x.1) x.2.length (Hd x.1)) : ∀ u ∈ fcs P fs, u.oneCell' = true := by
  intro u hu
  obtain ⟨x, hx, hu⟩ := List.mem_flatMap.1 hu
  obtain ⟨A, c, e⟩ := own_slice (h x hx)
  simp only [List.mem_cons, List.not_mem_nil, or_false] at hu
  rcases hu with rfl | rfl
  · rfl
  · rw [e]; rfl
section
variable {w : World} {bx : Nat} {FV LV : Value} {P : Int → Value} {Hd : Int → List Value} {R : Int} {F : List Int} {s : Ds}
theorem Rsk.delFile {w' : World} {n : Int} {l : List Pg} {LV' : Value} {k : Nat} (H : Rsk w bx FV LV P Hd R F s) (hf : s.find n = some l) (ht : Turn (fun k => k = bx) w w')
    (ho : w'.heap[bx]? = some (rskObj FV LV' R (s.del n))) (hl : w'.ownsRow w.heap.size 74 2 LV' k (fcs P (s.del n).fs)) : Ch w (XS bx FV LV P Hd s) (XR bx R F (s.del n)) w' := by
  have hfs : (s.del n).fs = s.fs.filter fun x => !(x.1 == n) := by unfold Ds.del; rw [hf]
  have hmem : ∀ x ∈ (s.del n).fs, x ∈ s.fs := fun x hx => by rw [hfs] at hx; exact (List.mem_filter.1 hx).1
  have hT : ∀ {e : TypeId}, e ≠ 71 → ∀ k, k = bx → ∃ cs t, w.heap[k]? = some (.cells cs t (0, 0)) ∧ t ≠ e := by
    rintro e he k rfl
    exact ⟨_, _, H.dsk, fun e2 => he e2.symm⟩
  have hk : k = (s.del n).fs.length := by
    have := hl.1
    rw [fcs_len] at this
    omega
  subst hk
  refine Rsk.ch (FV' := FV) (LV' := LV') (P' := P) (Hd' := Hd) ⟨ho, own_turnT H.flt ht (hT (by decide)), own_lower hl (Nat.zero_le _), ?_, ?_, ?_⟩ (ht.mono fun k hk => .inl hk) ?_
  · exact fun x hx => own_turnT (H.prow x (hmem x hx)) ht (hT (by decide))
  · intro x hx j p hp
    obtain ⟨v, hv, ho⟩ := H.page x (hmem x hx) j p hp
    exact ⟨v, hv, own_turnT ho ht (hT (by decide))⟩
  · exact fun x hx y hy => H.sep x (hmem x hx) y (hmem y hy)
  · rintro k (rfl | h | h | ⟨x, hx, h⟩ | ⟨x, hx, j, p, v, hp, hv, h⟩)
    · exact .inl (.inl rfl)
    · exact .inl (.inr (.inl h))
    · exact .inr (own_ge hl h)
    · exact .inl (.inr (.inr (.inr (.inl ⟨x, hmem x hx, h⟩))))
    · exact .inl (.inr (.inr (.inr (.inr ⟨x, hmem x hx, j, p, v, hp, hv, h⟩))))
theorem xdel_no (H : Rsk w bx FV LV P Hd R F s) (hl : s.fs.length ≤ 32768) {n : Int} (hf : s.find n = none) :
    Calls Try.prog 40 #[dp bx, .int .i64 n] w fun e w' => e = .returned (.int .i64 4) ∧ w' = w := by
  have HA := xat H hl n
  rw [Ds.at_none hf] at HA
  have HA := Lib.hid HA
  clear H hf
  go_enter Try.func40, Try.ntmps40
  go_wp2_with (go_at_call 41; refine HA.out.mono ?_; rintro e w1 ⟨rfl, hw⟩; obtain rfl := hw.symm; clear hw)
  go_ret
  exact ⟨by trivial, rfl⟩
set_option maxHeartbeats 4000000 in
theorem xdel_yes (H : Rsk w bx FV LV P Hd R F s) (K : DOk R s) {n : Int} {l : List Pg} (hf : s.find n = some l) :
    Calls Try.prog 40 #[dp bx, .int .i64 n] w fun e w' => e = .returned (.int .i64 0) ∧ Ch w (XS bx FV LV P Hd s) (XR bx R F (s.del n)) w' := by
  have hl := K.len
  have HA := xat H hl n
  obtain ⟨i, hi, hx⟩ := Ds.at_some hf
  rw [hi] at HA
  have HA := Lib.hid HA
  obtain ⟨c0, c1, c2, c3, c4, c5, c6, c7, c8, hb⟩ := H.cells
  have f7 := H.frees 7
  have hus := K.used
  have hrm := K.room
  have hmem := Ds.find_mem hf
  have hpg := pagesN_mem hmem
  rw [← K.cnt] at hpg
  obtain ⟨g, c, e⟩ := H.shapeL hx
  subst e
  obtain ⟨B, d, eP⟩ := own_slice (H.prow _ hmem)
  have hil := (List.getElem?_eq_some_iff.1 hx).1
  dsimp only at eP hpg
  obtain ⟨qp, _, _⟩ := row_file H.lst hx
  dsimp only at qp
  rw [eP] at qp
  have hcap : s.fs.length ≤ c := by
    rcases H.lst.2 with ⟨e, _⟩ | ⟨g', cap, cur, e, _, _, hnc, _⟩
    · cases e
    · injection e with _ _ e3
      omega
  have HX := Lib.hid (fun (w' : World) (LV' : Value) (q : Nat) ht ho hl2 => H.delFile (w' := w') (LV' := LV') (k := q) hf ht ho hl2)
  have hT : Turn (fun k => k = bx) w (w.setCell ⟨bx, 7, none⟩ (.int .i64 (s.used - l.length))) := (Turn.refl (fun k => k = bx) w).cell bx 7 _ rfl
  have hO : (w.setCell ⟨bx, 7, none⟩ (.int .i64 (s.used - l.length))).heap[bx]? = some (rskObj FV (.slice (some ⟨g, 0, none⟩) s.fs.length c) R (⟨s.made, s.deeds, s.reads, s.writes, s.used - l.length, s.peak, (s.del n).fs⟩ : Ds)) := blk_set H.dsk 7 _
  have hL := own_turn H.lst hT (fun k hk => H.nes.2.1 k hk)
  have hD : (⟨s.made, s.deeds, s.reads, s.writes, s.used - l.length, s.peak, (s.del n).fs⟩ : Ds) = s.del n := by unfold Ds.del; rw [hf]
  rw [hD] at hO
  have HO := Lib.hid hO
  have HL := Lib.hid hL
  have HT := Lib.hid hT
  have HS := Lib.hid (fcs_del (P := P) s.fs i K.ord hx)
  have HFs := Lib.hid (show (s.del n).fs = s.fs.filter fun x => !(x.1 == n) by unfold Ds.del; rw [hf])
  have HFL := Lib.hid (fcs_len P s.fs)
  obtain ⟨m, hm⟩ : ∃ m, m = s.fs.length := ⟨_, rfl⟩
  obtain ⟨k, hk⟩ : ∃ k, k = l.length := ⟨_, rfl⟩
  rw [← hm] at c2 hl hil HX HO HL hcap HFL ⊢
  rw [← hk] at qp hpg HO HT HL
  have hu0 : 0 ≤ s.used := by omega
  have HOc : ∀ u ∈ fcs P s.fs, u.oneCell' = true := fcs_one (fun x hx => H.prow x hx)
  clear H K hf hx hi hmem eP hm hk hT hO hL hD c0 c1 c3 c4 c5 c6 c8
  go_enter Try.func40, Try.ntmps40
  go_wp2_with (go_at_call 41; refine HA.out.mono ?_; rintro e w1 ⟨rfl, hw⟩; obtain rfl := hw.symm; clear hw)
  go_region
  generalize (w.setCell ⟨bx, 7, none⟩ (.int .i64 (s.used - k))) = w1 at HO HL HT ⊢
  clear c2 c7 f7 qp hb
  have d2 : w1.cell? ⟨bx, 2, none⟩ = some (.slice (some ⟨g, 0, none⟩) m c) := cell_of_blk HO.out 2
  have HLT := Lib.hid (lt_of_heap HO.out)
  have d2a : (w1.alloc (.cells #[] 74)).cell? ⟨bx, 2, none⟩ = some (.slice (some ⟨g, 0, none⟩) m c) := (World.cell?_alloc_lt _ _ _ (World.block_lt_of_cell? w1 _ d2)).trans d2
  have below_drew1 : Below w1.heap.size w1 w1.drew.drew := ⟨rfl, rfl, rfl, Nat.le_refl _, fun _ _ => rfl⟩
  have hcl := HL.out.cells (g := g) rfl
  have HG := Lib.hid (show g < w1.heap.size from (HL.out.lt g rfl).2)
  have HONE : Hid ((∀ u ∈ (fcs P s.fs).take (i * 2), u.oneCell' = true) ∧ ∀ u ∈ (fcs P s.fs).drop ((i + 1) * 2), u.oneCell' = true) := ⟨fun u hu => HOc u (List.mem_of_mem_take hu), fun u hu => HOc u (List.mem_of_mem_drop hu)⟩
  have HY1 : Hid (((fcs P s.fs).take (i * 2)).length = i * 2 ∧ ∀ j u, ((fcs P s.fs).take (i * 2))[j]? = some u → (w1.drew.drew.alloc (.cells #[] 74)).cell? ((⟨g, 0, none⟩ : Addr).add j) = some u) := by
    refine ⟨by rw [List.length_take, HFL.out]; omega, fun j u hu => ?_⟩
    have h1 : (fcs P s.fs)[j]? = some u := by
      rw [List.getElem?_take] at hu
      split at hu
      · exact hu
      · cases hu
    have h2 := hcl j u h1
    exact (World.cell?_alloc_lt _ _ _ (World.block_lt_of_cell? w1 _ h2)).trans h2
  have HDr : Hid (∀ (W : World), Below w1.heap.size w1 W → ∀ j u, ((fcs P s.fs).drop ((i + 1) * 2))[j]? = some u → W.cell? ⟨g, (i + 1) * 2 + j, none⟩ = some u) := by
    intro W b j u hu
    rw [List.getElem?_drop] at hu
    have h2 := hcl _ u hu
    rw [Addr.add_mid, Nat.zero_add] at h2
    exact (b.cell (p := ⟨g, (i + 1) * 2 + j, none⟩) HG.out).trans h2
  have HDl := Lib.hid (show ((fcs P s.fs).drop ((i + 1) * 2)).length = (m - (i + 1)) * 2 from by rw [List.length_drop, HFL.out]; omega)
  have hc0 : c ≠ 0 := by omega
  clear hcl HOc
  have hwr : IntKind.i64.wrap ((i : Int) + 1) = (i : Int) + 1 := IntWalk.i64_in _ ⟨by omega, by omega⟩
  have hnn : 0 ≤ (i : Int) + 1 := by omega
  have htn : ((i : Int) + 1).toNat = i + 1 := by omega
  have him : (i : Int) + 1 ≤ (m : Int) := by omega
  by_cases hcc : c = i + 1
  · subst hcc
    obtain rfl : m = i + 1 := by omega
    have hic : (i : Int) ≤ (i : Int) + 1 := by omega
    have HE : Hid ((fcs P s.fs).drop ((i + 1) * 2) = []) := List.eq_nil_of_length_eq_zero (by rw [HDl.out]; omega)
    have HY2 : Hid (((fcs P s.fs).drop ((i + 1) * 2)).length = 0 * 2 ∧ ∀ (W : World), Below w1.heap.size w1 W → ∀ j u, ((fcs P s.fs).drop ((i + 1) * 2))[j]? = some u → W.cell? ((⟨g, 0, none⟩ : Addr).add j) = some u) := ⟨by rw [HE.out]; rfl, fun W b j u hu => by rw [HE.out] at hu; simp at hu⟩
    go_wp2
    go_region_law (first | (refine step_wp rfl (show Oper.wp _ _ _ (w1.drew.drew.alloc (.cells #[] 74)) _ _ from op_appB (W := (w1.drew.drew.alloc (.cells #[] 74))) w1.heap.size (.tmp 31) (.tmp 37) 69 74 (.agg #[.int .i64 0, .slice none 0 0]) 2 32 rfl Try.underlying69 infFile rfl (by omega) (by omega) (.slice (some ⟨w1.heap.size, 0, none⟩) 0 0) 0 [] rfl ⟨g, 0, none⟩ i _ ((fcs P s.fs).take (i * 2)) rfl HY1.out.1 HY1.out.2 HONE.out.1 (lit_rowS w1.drew.drew 74 2 rfl) (by simp) (by omega) ?_); intro v2 w2 h2 t2 _; rw [Nat.zero_add, List.nil_append] at h2; obtain ⟨A2, c2', rfl⟩ := own_slice h2; have HB2 : Hid (Below w1.heap.size w1 w2) := below_turn (a := w1) (b := (w1.drew.drew.alloc (.cells #[] 74))) (below_drew1.alloc (Nat.le_refl _) _) t2 (by simp) (fun k hk => by simp [Value.ownBlock] at hk; omega); have HO2 := Lib.hid h2; have d2c : w2.cell? ⟨bx, 2, none⟩ = some (.slice (some ⟨g, 0, none⟩) (i + 1) (i + 1)) := (HB2.out.cell (p := ⟨bx, 2, none⟩) HLT.out).trans d2; clear h2 t2) | (refine step_wp rfl (op_appB (W := w2) w1.heap.size (.tmp 38) (.tmp 45) 69 74 (.agg #[.int .i64 0, .slice none 0 0]) 2 32 rfl Try.underlying69 infFile rfl (by omega) (by omega) (.slice A2 i c2') i ((fcs P s.fs).take (i * 2)) rfl ⟨g, 0, none⟩ 0 _ ((fcs P s.fs).drop ((i + 1) * 2)) rfl HY2.out.1 (HY2.out.2 _ HB2.out) HONE.out.2 HO2.out HB2.out.size (by omega) ?_); intro v3 w3 h3 t3 _; obtain ⟨A3, c3, rfl⟩ := own_slice h3; have HB3 : Hid (Below w1.heap.size w1 w3) := below_turn HB2.out t3 HB2.out.size (fun k hk => own_ge HO2.out hk); have HO3 := Lib.hid h3; have HD3 := Lib.hid (blk_below HO.out HB3.out HLT.out); have r3 := free_of_blk HD3.out 2; have d2d : w3.cell? ⟨bx, 2, none⟩ = some (.slice (some ⟨g, 0, none⟩) (i + 1) (i + 1)) := cell_of_blk HD3.out 2; clear h3 t3))
    all_goals
      go_wp2
      go_ret
      have hz := HT.out.size
      refine ⟨by trivial, HX.out _ (.slice A3 (i + 0) c3) (i + 0) ?_ ?_ ?_⟩
      · exact ((HT.out.then_ (Turn.of_below HB3.out (fun _ => False)) (fun _ h => h.elim)).cell bx 2 _ rfl).drewN 0
      · exact blk_set HD3.out 2 (.slice A3 (i + 0) c3)
      · rw [HFs.out, ← HS.out]
        exact own_lower (own_turn HO3.out ((Turn.refl (fun k => k = bx) w3).cell bx 2 _ rfl) (fun k hk => blk_ne HO3.out HD3.out (by decide) hk)) hz
  · have hic : (i : Int) ≤ (c : Int) := by omega
    have HY2 : Hid (((fcs P s.fs).drop ((i + 1) * 2)).length = (m - (i + 1)) * 2 ∧ ∀ (W : World), Below w1.heap.size w1 W → ∀ j u, ((fcs P s.fs).drop ((i + 1) * 2))[j]? = some u → W.cell? ((⟨g, (i + 1) * 2, none⟩ : Addr).add j) = some u) := ⟨HDl.out, fun W b j u hu => by rw [Addr.add_mid]; exact HDr.out W b j u hu⟩
    go_wp2
    go_region_law (first | (refine step_wp rfl (show Oper.wp _ _ _ (w1.drew.drew.alloc (.cells #[] 74)) _ _ from op_appB (W := (w1.drew.drew.alloc (.cells #[] 74))) w1.heap.size (.tmp 31) (.tmp 37) 69 74 (.agg #[.int .i64 0, .slice none 0 0]) 2 32 rfl Try.underlying69 infFile rfl (by omega) (by omega) (.slice (some ⟨w1.heap.size, 0, none⟩) 0 0) 0 [] rfl ⟨g, 0, none⟩ i _ ((fcs P s.fs).take (i * 2)) rfl HY1.out.1 HY1.out.2 HONE.out.1 (lit_rowS w1.drew.drew 74 2 rfl) (by simp) (by omega) ?_); intro v2 w2 h2 t2 _; rw [Nat.zero_add, List.nil_append] at h2; obtain ⟨A2, c2', rfl⟩ := own_slice h2; have HB2 : Hid (Below w1.heap.size w1 w2) := below_turn (a := w1) (b := (w1.drew.drew.alloc (.cells #[] 74))) (below_drew1.alloc (Nat.le_refl _) _) t2 (by simp) (fun k hk => by simp [Value.ownBlock] at hk; omega); have HO2 := Lib.hid h2; have d2c : w2.cell? ⟨bx, 2, none⟩ = some (.slice (some ⟨g, 0, none⟩) m c) := (HB2.out.cell (p := ⟨bx, 2, none⟩) HLT.out).trans d2; clear h2 t2) | (refine step_wp rfl (op_appB (W := w2) w1.heap.size (.tmp 38) (.tmp 45) 69 74 (.agg #[.int .i64 0, .slice none 0 0]) 2 32 rfl Try.underlying69 infFile rfl (by omega) (by omega) (.slice A2 i c2') i ((fcs P s.fs).take (i * 2)) rfl ⟨g, (i + 1) * 2, none⟩ (m - (i + 1)) _ ((fcs P s.fs).drop ((i + 1) * 2)) rfl HY2.out.1 (HY2.out.2 _ HB2.out) HONE.out.2 HO2.out HB2.out.size (by omega) ?_); intro v3 w3 h3 t3 _; obtain ⟨A3, c3, rfl⟩ := own_slice h3; have HB3 : Hid (Below w1.heap.size w1 w3) := below_turn HB2.out t3 HB2.out.size (fun k hk => own_ge HO2.out hk); have HO3 := Lib.hid h3; have HD3 := Lib.hid (blk_below HO.out HB3.out HLT.out); have r3 := free_of_blk HD3.out 2; have d2d : w3.cell? ⟨bx, 2, none⟩ = some (.slice (some ⟨g, 0, none⟩) m c) := cell_of_blk HD3.out 2; clear h3 t3))
    all_goals
      go_wp2
      go_ret
      have hz := HT.out.size
      refine ⟨by trivial, HX.out _ (.slice A3 (i + (m - (i + 1))) c3) (i + (m - (i + 1))) ?_ ?_ ?_⟩
      · exact ((HT.out.then_ (Turn.of_below HB3.out (fun _ => False)) (fun _ h => h.elim)).cell bx 2 _ rfl).drewN 0
      · exact blk_set HD3.out 2 (.slice A3 (i + (m - (i + 1))) c3)
      · rw [HFs.out, ← HS.out]
        exact own_lower (own_turn HO3.out ((Turn.refl (fun k => k = bx) w3).cell bx 2 _ rfl) (fun k hk => blk_ne HO3.out HD3.out (by decide) hk)) hz
end
end Go.Proofs.Ytagknfjgokiidaa
