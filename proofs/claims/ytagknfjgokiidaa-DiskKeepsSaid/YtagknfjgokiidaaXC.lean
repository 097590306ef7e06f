/- the document's disk: Create. -/
import Derived.Test.YtagknfjgokiidaaXB
import Derived.BigRegion
namespace Go.Proofs.Ytagknfjgokiidaa
open Go.RowKit
set_option linter.unusedVariables false
set_option linter.unusedSimpArgs false
set_option maxRecDepth 6000

/-- The document's disk as a thing. -/
def XR (bx : Nat) (R : Int) (F : List Int) (s : Ds) : Res := fun w S => ∃ FV LV P Hd, Rsk w bx FV LV P Hd R F s ∧ S = XS bx FV LV P Hd s
theorem XR_good (bx : Nat) (R : Int) (F : List Int) (s : Ds) : Good (XR bx R F s) := by
  refine ⟨?_, ?_⟩
  · rintro w S ⟨FV, LV, P, Hd, h, rfl⟩ k hk
    exact h.lt k hk
  · rintro w w' S T ⟨FV, LV, P, Hd, h, rfl⟩ ht hn
    exact ⟨FV, LV, P, Hd, h.turn ht hn, rfl⟩
theorem infFile : (Try.prog.info? 74).map (fun i => (i.zero, i.size, i.bytes)) = some (some (.agg #[.int .i64 0, .slice none 0 0]), 2, 32) := by kernel_rfl
def updH (V : Int → List Value) (n : Int) (v : List Value) : Int → List Value := fun m => if m = n then v else V m
theorem updH_same (V : Int → List Value) (n : Int) (v : List Value) : updH V n v n = v := if_pos rfl
theorem updH_ne (V : Int → List Value) {n m : Int} (v : List Value) (h : m ≠ n) : updH V n v m = V m := if_neg h
section
variable {w : World} {bx : Nat} {FV LV : Value} {P : Int → Value} {Hd : Int → List Value} {R : Int} {F : List Int} {s : Ds}
theorem Rsk.ch {w' : World} {FV' LV' : Value} {P' : Int → Value} {Hd' : Int → List Value} {s' : Ds} (H : Rsk w' bx FV' LV' P' Hd' R F s') (ht : Turn (XS bx FV LV P Hd s) w w') (hs : ∀ k, XS bx FV' LV' P' Hd' s' k → XS bx FV LV P Hd s k ∨ w.heap.size ≤ k) : Ch w (XS bx FV LV P Hd s) (XR bx R F s') w' :=
  ⟨_, ⟨FV', LV', P', Hd', H, rfl⟩, ht, hs⟩
theorem XDeed.ch {w' : World} (h : XDeed w bx FV LV P Hd R F s w') : Ch w (XS bx FV LV P Hd s) (XR bx R F s.deed_) w' :=
  Rsk.ch h.1 (h.2.mono fun k hk => .inl hk) (fun k hk => .inl hk)
theorem fcs_congr {P P' : Int → Value} {fs : List (Int × List Pg)} (h : ∀ x ∈ fs, P x.1 = P' x.1) : fcs P fs = fcs P' fs := by
  unfold fcs
  induction fs with
  | nil => rfl
  | cons y t ih =>
    rw [List.flatMap_cons, List.flatMap_cons, ih (fun x hx => h x (by simp [hx])), h y (by simp)]
/-- The list has a new row perhaps, and a file more. -/
theorem Rsk.newFile {w' : World} {v1 : Value} (H : Rsk w bx FV LV P Hd R F s) (hnum : ∀ x ∈ s.fs, x.1 ≤ s.made) (ht : Turn (fun k => k = bx ∨ LV.ownBlock = some k) w w')
    (ho : w'.heap[bx]? = some (rskObj FV v1 R ⟨s.made + 1, s.deeds, s.reads, s.writes, s.used, s.peak, s.fs ++ [(s.made + 1, [])]⟩)) (hl : w'.ownsRow 0 74 2 v1 (s.fs.length + 1) (fcs P s.fs ++ [.int .i64 (s.made + 1), .slice none 0 0]))
    (hor : v1.ownBlock = LV.ownBlock ∨ ∃ b, v1.ownBlock = some b ∧ w.heap.size ≤ b) :
    Ch w (XS bx FV LV P Hd s) (XR bx R F ⟨s.made + 1, s.deeds, s.reads, s.writes, s.used, s.peak, s.fs ++ [(s.made + 1, [])]⟩) w' := by
  have hne : ∀ x ∈ s.fs, x.1 ≠ s.made + 1 := fun x hx => by have := hnum x hx; omega
  have hT : ∀ {e : TypeId}, e ≠ 71 → e ≠ 74 → ∀ k, (k = bx ∨ LV.ownBlock = some k) → ∃ cs t, w.heap[k]? = some (.cells cs t (0, 0)) ∧ t ≠ e := by
    rintro e h1 h2 k (rfl | hk)
    · exact ⟨_, _, H.dsk, fun e2 => h1 e2.symm⟩
    · obtain ⟨cs, hc⟩ := own_obj H.lst hk
      exact ⟨cs, _, hc, fun e2 => h2 e2.symm⟩
  refine Rsk.ch (P' := updV P (s.made + 1) (.slice none 0 0)) (Hd' := updH Hd (s.made + 1) []) ⟨ho, own_turnT H.flt ht (hT (by decide) (by decide)), ?_, ?_, ?_, ?_⟩ (ht.mono fun k hk => hk.elim .inl (fun h => .inr (.inr (.inl h)))) ?_
  · dsimp only
    have e : fcs (updV P (s.made + 1) (.slice none 0 0)) (s.fs ++ [(s.made + 1, [])]) = fcs P s.fs ++ [.int .i64 (s.made + 1), .slice none 0 0] := by
      rw [fcs, List.flatMap_append]
      congr 1
      · exact fcs_congr fun x hx => updV_ne _ _ (hne x hx)
      · simp [updV_same]
    rw [e, List.length_append]
    exact hl
  · intro x hx
    rcases List.mem_append.1 hx with hx | hx
    · rw [updV_ne _ _ (hne x hx), updH_ne _ _ (hne x hx)]
      exact own_turnT (H.prow x hx) ht (hT (by decide) (by decide))
    · obtain rfl := List.mem_singleton.1 hx
      rw [updV_same, updH_same]
      exact ⟨rfl, .inl ⟨rfl, rfl⟩⟩
  · intro x hx j p hp
    rcases List.mem_append.1 hx with hx | hx
    · rw [updH_ne _ _ (hne x hx)]
      obtain ⟨v, hv, ho⟩ := H.page x hx j p hp
      exact ⟨v, hv, own_turnT ho ht (hT (by decide) (by decide))⟩
    · obtain rfl := List.mem_singleton.1 hx
      simp at hp
  · intro x hx y hy k hk hl
    rcases List.mem_append.1 hx with hx | hx
    · rcases List.mem_append.1 hy with hy | hy
      · rw [updV_ne _ _ (hne x hx)] at hk
        rw [updV_ne _ _ (hne y hy)] at hl
        exact H.sep x hx y hy k hk hl
      · obtain rfl := List.mem_singleton.1 hy
        rw [updV_same] at hl
        simp [Value.ownBlock] at hl
    · obtain rfl := List.mem_singleton.1 hx
      rw [updV_same] at hk
      simp [Value.ownBlock] at hk
  · rintro k (rfl | h | h | ⟨x, hx, h⟩ | ⟨x, hx, j, p, v, hp, hv, h⟩)
    · exact .inl (.inl rfl)
    · exact .inl (.inr (.inl h))
    · rcases hor with e | ⟨b, e, hb⟩
      · rw [e] at h
        exact .inl (.inr (.inr (.inl h)))
      · rw [e] at h
        injection h with h
        exact .inr (by omega)
    · rcases List.mem_append.1 hx with hx | hx
      · rw [updV_ne _ _ (hne x hx)] at h
        exact .inl (.inr (.inr (.inr (.inl ⟨x, hx, h⟩))))
      · obtain rfl := List.mem_singleton.1 hx
        rw [updV_same] at h
        simp [Value.ownBlock] at h
    · rcases List.mem_append.1 hx with hx | hx
      · rw [updH_ne _ _ (hne x hx)] at hv
        exact .inl (.inr (.inr (.inr (.inr ⟨x, hx, j, p, v, hp, hv, h⟩))))
      · obtain rfl := List.mem_singleton.1 hx
        simp at hp
theorem xcreate_full (H : Rsk w bx FV LV P Hd R F s) (h : 32768 ≤ s.fs.length) : Calls Try.prog 37 #[dp bx] w fun e w' => e = .returned (.tuple #[.int .i64 0, .int .i64 2]) ∧ w' = w := by
  obtain ⟨c0, c1, c2, c3, c4, c5, c6, c7, c8, hb⟩ := H.cells
  obtain ⟨A, c, rfl⟩ := own_slice H.lst
  obtain ⟨m, hm⟩ : ∃ m, m = s.fs.length := ⟨_, rfl⟩
  rw [← hm] at c2 h
  have h' : decide ((m : Int) ≥ 32768) = true := by simp; omega
  clear H hm h
  go_enter Try.func37, Try.ntmps37
  go_wp2
  go_ret2
  exact ⟨by trivial, rfl⟩
set_option maxHeartbeats 1000000 in
theorem xcreate_ok (H : Rsk w bx FV LV P Hd R F s) (h : s.fs.length < 32768) (h0 : 0 ≤ s.made) (h1 : s.made ≤ 1000000000) (hnum : ∀ x ∈ s.fs, x.1 ≤ s.made) :
    Calls Try.prog 37 #[dp bx] w fun e w' => e = .returned (.tuple #[.int .i64 (s.made + 1), .int .i64 0]) ∧ Ch w (XS bx FV LV P Hd s) (XR bx R F ⟨s.made + 1, s.deeds, s.reads, s.writes, s.used, s.peak, s.fs ++ [(s.made + 1, [])]⟩) w' := by
  obtain ⟨c0, c1, c2, c3, c4, c5, c6, c7, c8, hb⟩ := H.cells
  have f2 := H.frees 2
  have f3 := H.frees 3
  obtain ⟨A, c, rfl⟩ := own_slice H.lst
  obtain ⟨n1, n2, n3⟩ := H.nes
  have HN := Lib.hid n2
  have HX := Lib.hid (fun (w' : World) (v1 : Value) ht ho hl hor => H.newFile (w' := w') (v1 := v1) hnum ht ho hl hor)
  have HT : Hid (Turn (fun k => k = bx) w (w.setCell ⟨bx, 3, none⟩ (.int .i64 (s.made + 1)))) := (Turn.refl (fun k => k = bx) w).cell bx 3 _ rfl
  have HO : Hid ((w.setCell ⟨bx, 3, none⟩ (.int .i64 (s.made + 1))).heap[bx]? = some (rskObj FV (.slice A s.fs.length c) R ⟨s.made + 1, s.deeds, s.reads, s.writes, s.used, s.peak, s.fs⟩)) := blk_set H.dsk 3 _
  have HL : Hid ((w.setCell ⟨bx, 3, none⟩ (.int .i64 (s.made + 1))).ownsRow 0 74 2 (.slice A s.fs.length c) s.fs.length (fcs P s.fs)) := own_turn H.lst HT.out (fun k hk => n2 k hk)
  obtain ⟨m, hm⟩ : ∃ m, m = s.fs.length := ⟨_, rfl⟩
  rw [← hm] at c2 h HX HN HO HL ⊢
  have h' : decide ((m : Int) ≥ 32768) = false := by simp; omega
  have hm2 : m ≤ 40000 := by omega
  obtain ⟨xs, hxs⟩ : ∃ xs, xs = fcs P s.fs := ⟨_, rfl⟩
  rw [← hxs] at HL HX
  clear H hm h n1 n2 n3 hnum hxs
  go_enter Try.func37, Try.ntmps37
  go_wp2
  clear c0 c1 c2 c3 c4 c5 c6 c7 c8 f2 f3
  generalize (w.setCell ⟨bx, 3, none⟩ (.int .i64 (s.made + 1))) = w1 at HT HO HL ⊢
  have d2 : w1.cell? ⟨bx, 2, none⟩ = some (.slice A m c) := cell_of_blk HO.out 2
  have d3 : w1.cell? ⟨bx, 3, none⟩ = some (.int .i64 (s.made + 1)) := cell_of_blk HO.out 3
  have e2 : (w1.alloc (.cells #[.int .i64 (s.made + 1), .slice none 0 0] 74)).cell? ⟨bx, 2, none⟩ = some (.slice A m c) := (World.cell?_alloc_lt _ _ _ (World.block_lt_of_cell? w1 _ d2)).trans d2
  go_region_law (refine step_wp rfl (show Oper.wp _ _ _ (w1.drew.alloc (.cells #[.int .i64 (s.made + 1), .slice none 0 0] 74)) _ _ from op_app1 (W := w1.drew) 0 (.tmp 21) (.tmp 27) 69 74 (.agg #[.int .i64 0, .slice none 0 0]) 2 32 rfl Try.underlying69 infFile rfl (by omega) (by omega) (.slice A m c) m xs [.int .i64 (s.made + 1), .slice none 0 0] rfl rfl (by simp) rfl (by simp [Value.oneCell']) HL.out (Nat.zero_le _) (by omega) ?_); intro v2 w2 h2 t2 hor2; obtain ⟨A2, k2, rfl⟩ := own_slice h2; have HO2 := Lib.hid (t2.heap (w := w1.drew) (k := bx) HO.out (fun e => HN.out _ e rfl)); have g2 : w2.cell? ⟨bx, 2, none⟩ = some (.slice A m c) := cell_of_blk HO2.out 2; have g3 : w2.cell? ⟨bx, 3, none⟩ = some (.int .i64 (s.made + 1)) := cell_of_blk HO2.out 3; have r2 := free_of_blk HO2.out 2; have HH2 := Lib.hid (And.intro h2 (And.intro t2 hor2)); clear h2 t2 hor2)
  all_goals
    go_wp2
    go_ret2
    obtain ⟨h2, t2, hor2⟩ := HH2.out
    have hz := HT.out.size
    have t1 : Turn (fun k => k = bx ∨ (Value.slice A m c).ownBlock = some k) w w1.drew := HT.out.drew.mono (fun k hk => .inl hk)
    have nb : ∀ k, (Value.slice A2 (m + 1) k2).ownBlock = some k → k ≠ bx := by
      intro k hk
      obtain ⟨cs, hc⟩ := own_obj h2 hk
      intro e
      rw [e, HO2.out] at hc
      injection hc with hc
      injection hc with _ e2
      exact absurd e2 (by decide)
    refine ⟨by trivial, HX.out _ (.slice A2 (m + 1) k2) ?_ ?_ ?_ ?_⟩
    · exact (t1.then_ t2 (fun k hk => .inl (.inr hk))).cell bx 2 _ (.inl rfl)
    · exact blk_set HO2.out 2 (.slice A2 (m + 1) k2)
    · exact own_turn h2 ((Turn.refl (fun k => k = bx) w2).cell bx 2 _ rfl) nb
    · rcases hor2 with e | ⟨b, e, hb⟩
      · exact .inl e
      · exact .inr ⟨b, e, Nat.le_trans hz hb⟩
end
end Go.Proofs.Ytagknfjgokiidaa
