/- the disk: Create, Delete, New. -/
import Derived.Test.YtagknfjgokiidaaDG
namespace Go.Proofs.Ytagknfjgokiidaa
open Go.RowKit Go.Maps
set_option linter.unusedVariables false
set_option linter.unusedSimpArgs false
set_option maxRecDepth 6000

section
variable {w : World} {bd bm bf : Nat} {V : Int → Value} {R : Int} {F : List Int} {s : Ds}
theorem Dsk.ch {w' : World} {V' : Int → Value} {s' : Ds} (H : Dsk w' bd bm bf V' R F s') (ht : Turn (DS bd bm bf V s) w w') (hs : ∀ k, DS bd bm bf V' s' k → DS bd bm bf V s k ∨ w.heap.size ≤ k) : Ch w (DS bd bm bf V s) (DR bd R F s') w' :=
  ⟨DS bd bm bf V' s', ⟨bm, bf, V', H, rfl⟩, ht, hs⟩
theorem Dsk.ch_same {w' : World} (H : Dsk w bd bm bf V R F s) (b : Below w.heap.size w w') : Ch w (DS bd bm bf V s) (DR bd R F s) w' := Ch.same (DR_good bd R F s) ⟨bm, bf, V, H, rfl⟩ b
/-- A file more. -/
theorem Dsk.newFile {w' : World} (H : Dsk w bd bm bf V R F s) (hnum : ∀ x ∈ s.fs, x.1 ≤ s.made) (ht : Turn (fun k => k = bd ∨ k = bm) w w')
    (ho : w'.heap[bd]? = some (dskObj bm bf R ⟨s.made + 1, s.deeds, s.reads, s.writes, s.used, s.peak, s.fs ++ [(s.made + 1, [])]⟩)) (hm : OwnM w' bm (s.fs.length + 1) (mOf ((s.fs.map fun x => (x.1, V x.1)) ++ [(s.made + 1, nilS)]))) :
    Ch w (DS bd bm bf V s) (DR bd R F ⟨s.made + 1, s.deeds, s.reads, s.writes, s.used, s.peak, s.fs ++ [(s.made + 1, [])]⟩) w' := by
  obtain ⟨n1, n2, n3⟩ := H.nes
  have hV : ∀ x ∈ s.fs, (if x.1 = s.made + 1 then nilS else V x.1) = V x.1 := fun x hx => if_neg (by have := hnum x hx; omega)
  refine Dsk.ch (V' := fun n => if n = s.made + 1 then nilS else V n) ⟨ho, ?_, H.flt.turn ht (fun e => e.elim (fun e => n2 e.symm) (fun e => H.ne e.symm)), H.ne, ?_, ?_⟩ (ht.mono fun k hk => hk.elim .inl (fun h => .inr (.inl h))) ?_
  · have e : ((s.fs ++ [(s.made + 1, ([] : List Pg))]).map fun x => (x.1, if x.1 = s.made + 1 then nilS else V x.1)) = (s.fs.map fun x => (x.1, V x.1)) ++ [(s.made + 1, nilS)] := by
      rw [List.map_append]
      congr 1
      · exact List.map_congr_left fun x hx => by rw [hV x hx]
      · simp
    dsimp only
    rw [e, List.length_append]
    exact hm
  · intro x hx
    rcases List.mem_append.1 hx with hx | hx
    · rw [hV x hx]
      exact own_turn (H.row x hx) ht (fun k hk e => e.elim (n3 x hx k hk).1 (n3 x hx k hk).2.1)
    · obtain rfl := List.mem_singleton.1 hx
      rw [if_pos rfl]
      exact ⟨rfl, .inl ⟨rfl, rfl⟩⟩
  · intro x hx y hy k hk hl
    rcases List.mem_append.1 hx with hx | hx
    · rcases List.mem_append.1 hy with hy | hy
      · rw [hV x hx] at hk
        rw [hV y hy] at hl
        exact H.sep x hx y hy k hk hl
      · obtain rfl := List.mem_singleton.1 hy
        rw [if_pos rfl] at hl
        simp [Value.ownBlock] at hl
    · obtain rfl := List.mem_singleton.1 hx
      rw [if_pos rfl] at hk
      simp [Value.ownBlock] at hk
  · rintro k (rfl | rfl | rfl | ⟨x, hx, hk⟩)
    · exact .inl (.inl rfl)
    · exact .inl (.inr (.inl rfl))
    · exact .inl (.inr (.inr (.inl rfl)))
    · dsimp only at hk hx
      rcases List.mem_append.1 hx with hx | hx
      · rw [hV x hx] at hk
        exact .inl (.inr (.inr (.inr ⟨x, hx, hk⟩)))
      · obtain rfl := List.mem_singleton.1 hx
        rw [if_pos rfl] at hk
        simp [Value.ownBlock] at hk
theorem dcreate_ok (H : Dsk w bd bm bf V R F s) (h : s.fs.length < 32768) (h0 : 0 ≤ s.made) (h1 : s.made ≤ 1000000000) (hnum : ∀ x ∈ s.fs, x.1 ≤ s.made) :
    Calls Try.prog 15 #[dp bd] w fun e w' => e = .returned (.tuple #[.int .i64 (s.made + 1), .int .i64 0]) ∧ Ch w (DS bd bm bf V s) (DR bd R F ⟨s.made + 1, s.deeds, s.reads, s.writes, s.used, s.peak, s.fs ++ [(s.made + 1, [])]⟩) w' := by
  have HR := Lib.hid (dready H)
  have hlen := World.ownsMap.len (w := w) H.map Try.underlying65 3
  rw [mOf_size, List.length_map] at hlen
  obtain ⟨c0, c1, c2, c3, c4, c5, c6, c7, c8, hb⟩ := H.cells
  obtain ⟨f2, _⟩ := H.frees
  obtain ⟨n1, n2, n3⟩ := H.nes
  have hT : Turn (fun k => k = bd ∨ k = bm) w (w.setCell ⟨bd, 2, none⟩ (.int .i64 (s.made + 1))).drew := ((Turn.refl (fun k => k = bd ∨ k = bm) w).cell bd 2 _ (.inl rfl)).drew
  have hM : OwnM (w.setCell ⟨bd, 2, none⟩ (.int .i64 (s.made + 1))).drew bm s.fs.length (mOf (s.fs.map fun x => (x.1, V x.1))) := World.ownsMap.drew (World.ownsMap.setCell H.map (fun e => n1 e.symm) _)
  have hO : (w.setCell ⟨bd, 2, none⟩ (.int .i64 (s.made + 1))).drew.heap[bd]? = some (dskObj bm bf R ⟨s.made + 1, s.deeds, s.reads, s.writes, s.used, s.peak, s.fs ++ [(s.made + 1, [])]⟩) := blk_set H.dsk 2 _
  obtain ⟨w5, hrun, hown5, hturn5⟩ := World.ownsMap.store hM K64 Try.underlying65 (by simp only [maxLen]; omega) (k64 (n := s.made + 1) (WalkArith.wf_i64 (by omega))) (val := nilS) (d := .held nilS) (ps := []) rfl
  have hT2 : Turn (fun k => k = bm) (w.setCell ⟨bd, 2, none⟩ (.int .i64 (s.made + 1))).drew w5 := (Turn.refl _ _).grown hturn5.grown (fun k hk => .inl (by injection hk with hk; exact hk.symm))
  have hO5 := hT2.heap hO n1
  have l52 : w5.cell? ⟨bd, 2, none⟩ = some (.int .i64 (s.made + 1)) := cell_of_blk hO5 2
  rw [mOf_put_new _ _ _ (fun x hx => by obtain ⟨y, hy, rfl⟩ := List.mem_map.1 hx; have := hnum y hy; dsimp only; omega)] at hown5
  have HP := Lib.hid (H.newFile hnum (hT.then_ hT2 (fun k hk => .inl (.inr hk))) hO5 hown5)
  obtain ⟨m, hm⟩ : ∃ m, m = s.fs.length := ⟨_, rfl⟩
  rw [← hm] at hlen h
  have h' : decide ((m : Int) ≥ 32768) = false := by simp; omega
  clear H hm h hT hM hO hown5 hturn5 hT2 hO5 hnum
  go_enter Try.func15, Try.ntmps15
  go_wp2_with (go_at_call 42; refine HR.out.mono ?_; rintro e w1 ⟨rfl, hw⟩; obtain rfl := hw.symm; clear hw)
  go_region
  all_goals go_wp2
  all_goals go_ret2
  all_goals exact ⟨by trivial, HP.out⟩
theorem Dsk.delFile {w' : World} {n : Int} {l : List Pg} (H : Dsk w bd bm bf V R F s) (hf : s.find n = some l) (ht : Turn (fun k => k = bd ∨ k = bm) w w')
    (ho : w'.heap[bd]? = some (dskObj bm bf R (s.del n))) (hm : OwnM w' bm s.fs.length (mOf ((s.fs.map fun x => (x.1, V x.1)).filter fun x => !(x.1 == n)))) :
    Ch w (DS bd bm bf V s) (DR bd R F (s.del n)) w' := by
  obtain ⟨n1, n2, n3⟩ := H.nes
  have hfs : (s.del n).fs = s.fs.filter fun x => !(x.1 == n) := by unfold Ds.del; rw [hf]
  have hmem : ∀ x ∈ (s.del n).fs, x ∈ s.fs := fun x hx => by rw [hfs] at hx; exact (List.mem_filter.1 hx).1
  refine Dsk.ch (V' := V) ⟨ho, ?_, H.flt.turn ht (fun e => e.elim (fun e => n2 e.symm) (fun e => H.ne e.symm)), H.ne, ?_, ?_⟩ (ht.mono fun k hk => hk.elim .inl (fun h => .inr (.inl h))) ?_
  · have e : (s.del n).fs.map (fun x => (x.1, V x.1)) = (s.fs.map fun x => (x.1, V x.1)).filter fun x => !(x.1 == n) := by
      rw [hfs, List.filter_map]
      rfl
    rw [← e] at hm
    have := hm.tight
    rw [List.length_map] at this
    rw [e] at this ⊢
    exact this
  · intro x hx
    exact own_turn (H.row x (hmem x hx)) ht (fun k hk e => e.elim (n3 x (hmem x hx) k hk).1 (n3 x (hmem x hx) k hk).2.1)
  · intro x hx y hy
    exact H.sep x (hmem x hx) y (hmem y hy)
  · rintro k (rfl | rfl | rfl | ⟨x, hx, hk⟩)
    · exact .inl (.inl rfl)
    · exact .inl (.inr (.inl rfl))
    · exact .inl (.inr (.inr (.inl rfl)))
    · exact .inl (.inr (.inr (.inr ⟨x, hmem x hx, hk⟩)))
theorem ddel_no (H : Dsk w bd bm bf V R F s) {n : Int} (hw : (Lit.int .i64 n).wf = true) (hf : s.find n = none) :
    Calls Try.prog 18 #[dp bd, .int .i64 n] w fun e w' => e = .returned (.int .i64 4) ∧ w' = w := by
  have HR := Lib.hid (dready H)
  have hrun := dlook_no H hw hf
  obtain ⟨c0, c1, c2, c3, c4, c5, c6, c7, c8, hb⟩ := H.cells
  clear H hf
  go_enter Try.func18, Try.ntmps18
  go_wp2_with (go_at_call 42; refine HR.out.mono ?_; rintro e w1 ⟨rfl, hw⟩; obtain rfl := hw.symm; clear hw)
  go_ret
  exact ⟨by trivial, rfl⟩
theorem ddel_yes (H : Dsk w bd bm bf V R F s) (K : DOk R s) {n : Int} (hw : (Lit.int .i64 n).wf = true) {l : List Pg} (hf : s.find n = some l) :
    Calls Try.prog 18 #[dp bd, .int .i64 n] w fun e w' => e = .returned (.int .i64 0) ∧ Ch w (DS bd bm bf V s) (DR bd R F (s.del n)) w' := by
  have HR := Lib.hid (dready H)
  obtain ⟨A, c, _, hrun, _⟩ := dlook_yes H hw hf
  obtain ⟨c0, c1, c2, c3, c4, c5, c6, c7, c8, hb⟩ := H.cells
  obtain ⟨f2, f3, f5, f6, f7, f8⟩ := H.frees
  obtain ⟨n1, n2, n3⟩ := H.nes
  have hu1 := K.used
  have hr := K.room
  have hpg := pagesN_mem (Ds.find_mem hf)
  rw [← K.cnt] at hpg
  dsimp only at hpg
  have hT : Turn (fun k => k = bd ∨ k = bm) w (w.setCell ⟨bd, 7, none⟩ (.int .i64 (s.used - l.length))) := (Turn.refl (fun k => k = bd ∨ k = bm) w).cell bd 7 _ (.inl rfl)
  have hM : OwnM (w.setCell ⟨bd, 7, none⟩ (.int .i64 (s.used - l.length))) bm s.fs.length (mOf (s.fs.map fun x => (x.1, V x.1))) := World.ownsMap.setCell H.map (fun e => n1 e.symm) _
  have hO : (w.setCell ⟨bd, 7, none⟩ (.int .i64 (s.used - l.length))).heap[bd]? = some (dskObj bm bf R (s.del n)) := by
    unfold Ds.del
    rw [hf]
    exact blk_set H.dsk 7 _
  have HM := Lib.hid hM
  have HP := Lib.hid (fun w' ht h1 h2 => H.delFile (w' := w') hf ht h1 h2)
  have HT := Lib.hid hT
  have HO := Lib.hid hO
  have hkey := k64 hw
  have hcn : 0 ≤ s.used := by omega
  obtain ⟨m, hm⟩ : ∃ m, m = l.length := ⟨_, rfl⟩
  rw [← hm] at hrun hpg HM HT HO
  clear H hf hT hM hO hm K
  go_enter Try.func18, Try.ntmps18
  go_wp2_with (first
    | (go_at_call 42; refine HR.out.mono ?_; rintro e w1 ⟨rfl, hw⟩; obtain rfl := hw.symm; clear hw)
    | (at_delete; refine wpList_delete_own _ rfl _ _ 65 3 rfl 75 K64 Try.underlying65 hv bm s.fs.length _ rfl HM.out _ _ rfl hkey ?_; intro w8 hown8 hturn8))
  go_ret
  rw [mOf_del] at hown8
  have ht2 : Turn (fun k => k = bm) (w.setCell ⟨bd, 7, none⟩ (.int .i64 (s.used - m))) w8 := (Turn.refl _ _).grown hturn8.grown (fun k hk => .inl (by injection hk with hk; exact hk.symm))
  exact ⟨by trivial, HP.out _ (HT.out.then_ ht2 (fun k hk => .inl (.inr hk))) (ht2.heap HO.out n1) hown8⟩
theorem dnew_no {w : World} {g : Int} {A : Option Addr} {k c : Nat} (h : g < 0 ∨ 16384 < g) : Calls Try.prog 11 #[.int .i64 g, .slice A k c] w fun e w' => e = .returned (.tuple #[.pointer none, .int .i64 1]) ∧ w' = w := by
  by_cases h1 : g < 0
  · clear h
    go_enter Try.func11, Try.ntmps11
    go_wp2
    go_ret2
    exact ⟨by trivial, rfl⟩
  · have h2 : 16384 < g := by omega
    clear h
    go_enter Try.func11, Try.ntmps11
    go_wp2
    go_ret2
    exact ⟨by trivial, rfl⟩
end
end Go.Proofs.Ytagknfjgokiidaa
