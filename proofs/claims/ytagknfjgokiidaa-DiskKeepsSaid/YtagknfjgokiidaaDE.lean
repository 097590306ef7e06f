/- the disk: Append, the walk. -/
import Derived.Test.YtagknfjgokiidaaDA
import Derived.OrdersHeld
namespace Go.Proofs.Ytagknfjgokiidaa
open Go.RowKit Go.Maps
set_option linter.unusedVariables false
set_option linter.unusedSimpArgs false
set_option maxRecDepth 6000

theorem run_arrAt (w : World) (ad : Addr) (c : Nat) : (Instr.arrayAt 79 (.slice (some ad) 256 c)).run Try.prog w = .ok (.pointer (some ad)) w := by
  simp [Instr.arrayAt, run_underlying Try.underlying79 ]
theorem run_onePage (w : World) {p : List Int} (hl : p.length = 256) :
    (Instr.buildSlice 75 1 #[(0, .agg (b8 p).toArray)]).run Try.prog w = .ok (.slice (some ⟨w.heap.size, 0, none⟩) 1 1) (w.alloc (.cells (b8 p).toArray 79)) := by
  obtain ⟨i0, hi, hz0, hz1, hz2⟩ := info_parts infP
  refine run_buildSlice w _ 79 1 _ _ i0 _ Try.underlying75 hi hz0 (by rw [hz1]; decide) (by rw [hz1]; decide) ?_
  rw [hz1]
  have := Great.fill_whole (s := 256) (by omega) [.agg (b8 p).toArray] ((Array.range (1 * 256)).map (fun x => ((Value.agg (Array.replicate 256 (Value.int .u8 0))).cells[x % (Value.agg (Array.replicate 256 (Value.int .u8 0))).cells.size]!))) (by intro v hv; rw [List.mem_singleton.1 hv]; simp [Value.cells, hl]) (by simp)
  simpa [Value.cells] using this
section
variable {ops : Array Oper} {o : Oper} {a : Act} {K : Act → World → Prop} {Q : Exit → Act → World → Prop}
theorem op_arrAt {W : World} (x : Operand) (ho : o.op = .sliceToArrayPointer 79 x) (ad : Addr) (c : Nat) (hx : a.eval x = .slice (some ad) 256 c) (h : K (a.put o.dst (.pointer (some ad))) W) : o.wp Try.prog a W K Q := by
  unfold Oper.wp execOp
  simp only [ho, hx, Sem.run_bind, run_arrAt, Result.andThen_ok, Sem.run_pure]
  exact h
theorem op_loadPage {W : World} (x : Operand) (ho : o.op = .load 79 x) (ad : Addr) (hx : a.eval x = .pointer (some ad)) (p : List Int) (hp : At8 W ad p) (hl : p.length = 256) (h : K (a.put o.dst (.agg (b8 p).toArray)) W) : o.wp Try.prog a W K Q := by
  unfold Oper.wp execOp
  simp only [ho, hx, Sem.run_bind, run_page hp hl, Result.andThen_ok, Sem.run_pure]
  exact h
theorem op_onePage {W : World} (x : Operand) (ho : o.op = .buildSlice 75 1 #[(0, x)]) (p : List Int) (hx : a.eval x = .agg (b8 p).toArray) (hl : p.length = 256) (h : K (a.put o.dst (.slice (some ⟨W.heap.size, 0, none⟩) 1 1)) (W.alloc (.cells (b8 p).toArray 79))) : o.wp Try.prog a W K Q := by
  unfold Oper.wp execOp
  have : (#[((0 : Nat), x)].map fun (i, x) => (i, a.eval x)) = #[(0, .agg (b8 p).toArray)] := by simp [hx]
  simp only [ho, this, Sem.run_bind, run_onePage W hl, Result.andThen_ok, Sem.run_pure]
  exact h
theorem op_mapUpd {W : World} (m x v : Operand) (t k e : TypeId) (ho : o.op = .mapUpdate t m x v) (K0 : Keyed Try.prog k) (ht : Try.prog.underlying t = some (.map k e)) (b n : Nat) (D : DataW Value)
    (hm : a.eval m = .map (some b)) (hown : W.ownsMap Try.prog k hv b n D) (hn : n < maxLen) (key val : Value) (kl : Lit) (hx : a.eval x = key) (hv' : a.eval v = val) (hkey : keyOf Try.prog k key = some kl)
    (h : ∀ w', w'.ownsMap Try.prog k hv b (n + 1) (D.put kl (.held val)) → W.mapTurned w' b → K (a.put o.dst undef) w') : o.wp Try.prog a W K Q := by
  obtain ⟨w', hrun, r1, r2⟩ := hown.store K0 ht hn hkey (val := val) (d := .held val) (ps := []) rfl
  unfold Oper.wp execOp
  simp only [ho, hm, hx, hv', Sem.run_bind, hrun, Result.andThen_ok, Sem.run_pure]
  exact h w' r1 r2
end
section
variable {w : World} {bd bm bf : Nat} {V : Int → Value} {R : Int} {F : List Int} {s : Ds}
theorem dapp_arg (H : Dsk w bd bm bf V R F s) {n : Int} (hw : (Lit.int .i64 n).wf = true) {A : Option Addr} {k c : Nat} (hk : k ≠ 256) :
    Calls Try.prog 16 #[dp bd, .int .i64 n, .slice A k c] w fun e w' => e = .returned (.int .i64 1) ∧ w' = w := by
  have HR := Lib.hid (dready H)
  have hrun := look_ok H.map hw
  obtain ⟨c0, c1, c2, c3, c4, c5, c6, c7, c8, hb⟩ := H.cells
  have hk1 : ((k : Int) != 256) = true := by simp; omega
  clear H hk
  go_enter Try.func16, Try.ntmps16
  go_wp2_with (go_at_call 42; refine HR.out.mono ?_; rintro e w1 ⟨rfl, hw⟩; obtain rfl := hw.symm; clear hw)
  go_ret
  exact ⟨by trivial, rfl⟩
theorem dapp_none (H : Dsk w bd bm bf V R F s) {n : Int} (hw : (Lit.int .i64 n).wf = true) {A : Option Addr} {c : Nat} (hf : s.find n = none) :
    Calls Try.prog 16 #[dp bd, .int .i64 n, .slice A 256 c] w fun e w' => e = .returned (.int .i64 4) ∧ w' = w := by
  have HR := Lib.hid (dready H)
  have hrun := dlook_no H hw hf
  obtain ⟨c0, c1, c2, c3, c4, c5, c6, c7, c8, hb⟩ := H.cells
  clear H hf
  go_enter Try.func16, Try.ntmps16
  go_wp2_with (go_at_call 42; refine HR.out.mono ?_; rintro e w1 ⟨rfl, hw⟩; obtain rfl := hw.symm; clear hw)
  go_ret
  exact ⟨by trivial, rfl⟩
theorem dapp_full (H : Dsk w bd bm bf V R F s) {n : Int} (hw : (Lit.int .i64 n).wf = true) {A : Option Addr} {c : Nat} {l : List Pg} (hf : s.find n = some l) (hu : R ≤ s.used) :
    Calls Try.prog 16 #[dp bd, .int .i64 n, .slice A 256 c] w fun e w' => e = .returned (.int .i64 2) ∧ Below w.heap.size w w' := by
  have HR := Lib.hid (dready H)
  obtain ⟨B, d, _, hrun, _⟩ := dlook_yes H hw hf
  obtain ⟨c0, c1, c2, c3, c4, c5, c6, c7, c8, hb⟩ := H.cells
  have hu1 : decide (s.used ≥ R) = true := by simp; omega
  clear H hf hu
  go_enter Try.func16, Try.ntmps16
  go_wp2_with (go_at_call 42; refine HR.out.mono ?_; rintro e w1 ⟨rfl, hw⟩; obtain rfl := hw.symm; clear hw)
  go_quiet (fail)
  go_wp2
  go_ret
  exact ⟨by trivial, rfl, rfl, rfl, Nat.le_refl _, fun _ _ => rfl⟩
theorem dapp_fault (H : Dsk w bd bm bf V R F s) (K : DOk R s) (hd : s.deeds ≤ 1000000000) {n : Int} (hw : (Lit.int .i64 n).wf = true) {A : Option Addr} {c : Nat} {l : List Pg} (hf : s.find n = some l) (hu : s.used < R) (hc : F.contains (s.deeds + 1) = true) :
    Calls Try.prog 16 #[dp bd, .int .i64 n, .slice A 256 c] w fun e w' => e = .returned (.int .i64 50) ∧ Ch w (DS bd bm bf V s) (DR bd R F s.deed_) w' := by
  have HR := Lib.hid (dready H)
  obtain ⟨B, d, _, hrun, _⟩ := dlook_yes H hw hf
  obtain ⟨c0, c1, c2, c3, c4, c5, c6, c7, c8, hb⟩ := H.cells
  have hu1 : decide (s.used ≥ R) = false := by simp; omega
  have ha := K.acts
  have HD := Lib.hid (fun m => (deed_at (H.turn ((Turn.refl (fun _ => False) w).drewN m) (fun _ _ => id)) (by omega) hd hc).mono fun e w' h => (⟨h.1, h.2.1, ((Turn.refl (fun k => k = bd) w).drewN m).trans h.2.2⟩ : e = .returned (.int .i64 50) ∧ DeedP w bd bm bf V R F s w'))
  clear H hf hu hc K ha
  go_enter Try.func16, Try.ntmps16
  go_wp2_with (go_at_call 42; refine HR.out.mono ?_; rintro e w1 ⟨rfl, hw⟩; obtain rfl := hw.symm; clear hw)
  go_quiet (fail)
  go_wp2_with (go_at_call 43; refine (HD.out _).mono ?_; rintro e w1 ⟨rfl, hp⟩; have HP := Lib.hid hp; clear hp)
  go_ret
  exact ⟨by trivial, HP.out.ch⟩
set_option maxHeartbeats 1000000 in
theorem dapp_ok (H : Dsk w bd bm bf V R F s) (K : DOk R s) (hd : s.deeds ≤ 1000000000) {n : Int} (hw : (Lit.int .i64 n).wf = true) {ad : Addr} {c : Nat} {l : List Pg} {p : Pg} (hf : s.find n = some l) (hu : s.used < R) (hc : F.contains (s.deeds + 1) = false)
    (hp : At8 w ad p) (hpl : p.length = 256) (hne : ad.block ≠ bd) :
    Calls Try.prog 16 #[dp bd, .int .i64 n, .slice (some ad) 256 c] w fun e w' => e = .returned (.int .i64 0) ∧ Ch w (DS bd bm bf V s) (DR bd R F ⟨s.made, s.deeds + 1, s.reads, s.writes + 1, s.used + 1, max s.peak (s.used + 1), addPg s.fs n p⟩) w' := by
  have HR := Lib.hid (dready H)
  obtain ⟨B, d, hV, hrun, _⟩ := dlook_yes H hw hf
  obtain ⟨c0, c1, c2, c3, c4, c5, c6, c7, c8, hb⟩ := H.cells
  have hu1 : decide (s.used ≥ R) = false := by simp; omega
  have ha := K.acts
  have hus := K.used
  have hrm := K.room
  have hmem := Ds.find_mem hf
  have hpg := pagesN_mem hmem
  rw [← K.cnt] at hpg
  have HD := Lib.hid (fun m => (deed_at (H.turn ((Turn.refl (fun _ => False) w).drewN m) (fun _ _ => id)) (by omega) hd hc).mono fun e w' h => (⟨h.1, h.2.1, ((Turn.refl (fun k => k = bd) w).drewN m).trans h.2.2⟩ : e = .returned (.int .i64 0) ∧ DeedP w bd bm bf V R F s w'))
  have HX := Lib.hid (fun (w' : World) (s' : Ds) (v1 : Value) (nn : Nat) ht ho hfs hm hr hor => H.addPage (w' := w') (s' := s') (v1 := v1) (nn := nn) (p := p) K.ord hf ht ho hfs hm hr hor)
  have HN := Lib.hid H.nes
  have HP0 := Lib.hid hp
  have HPL := Lib.hid hpl
  have hm0 : s.writes ≤ 1000000000 := by omega
  have hm1 := ha.2.1
  have hm2 : 0 ≤ s.used := by have := pagesN_nonneg s.fs; rw [← K.cnt] at this; exact this
  have HRow := Lib.hid (fun W (h : DeedP w bd bm bf V R F s W) => h.1.row (n, l) hmem)
  have hfl : s.fs.length ≤ 32768 := K.len
  have hVb : ∀ k, (V n).ownBlock = some k → k ≠ bd ∧ k ≠ bm ∧ k ≠ bf := fun k hk => HN.out.2.2 (n, l) hmem k hk
  rw [hV] at hVb
  have HVb := Lib.hid hVb
  have HV := Lib.hid hV
  have HK := Lib.hid (show ∃ x ∈ s.fs.map (fun x => (x.1, V x.1)), x.1 = n from ⟨(n, V n), List.mem_map.2 ⟨(n, l), hmem, rfl⟩, rfl⟩)
  have HOrd := Lib.hid (show (s.fs.map fun x => (x.1, V x.1)).Pairwise (fun x y => x.1 < y.1) from List.pairwise_map.2 K.ord)
  obtain ⟨k, hk⟩ : ∃ k, k = l.length := ⟨_, rfl⟩
  have hk2 : k ≤ 16384 := by dsimp only at hpg; omega
  rw [← hk] at hV hrun HV HVb
  have HRow2 := Lib.hid (show ∀ W, DeedP w bd bm bf V R F s W → W.ownsRow 0 79 256 (.slice B k d) k (pgc l) from fun W h => by have := HRow.out W h; dsimp only at this; rw [HV.out, ← hk] at this; exact this)
  rw [← hk] at HX
  clear H hu hc K ha hp hpl hmem hpg HRow hVb hV hk hf
  go_enter Try.func16, Try.ntmps16
  go_wp2_with (go_at_call 42; refine HR.out.mono ?_; rintro e w1 ⟨rfl, hw⟩; obtain rfl := hw.symm; clear hw)
  go_quiet (fail)
  go_wp2_with (go_at_call 43; refine (HD.out _).mono ?_; rintro e w1 ⟨rfl, hp⟩; have HP := Lib.hid hp; clear hp)
  clear c0 c1 c2 c3 c4 c5 c6 c7 c8 hb hrun
  have k0 := HP.out.1.cells.1
  have A1 := HP0.out.turn HP.out.2 hne
  have HR1 := Lib.hid (HRow2.out w1 HP.out)
  have A1 := Lib.hid A1
  refine wp_region_held (S := fun W => W.cell? ⟨bd, 0, none⟩ = some (.map (some bm))) (by kernel_rfl) ?_
  change wpAnyH _ _ _ _ _ _ _ _ (World.drew w1)
  refine wpAnyH_take (i := 0) (v := dp bd) rfl (by kernel_rfl) (by kernel_rfl) (by kernel_rfl) (fun _ _ _ h => h) (Or.inl ⟨by rfl, fun w hS => by go_simp⟩) k0 ?_
  refine wpAnyH_take (i := 1) (v := dp bd) rfl (by kernel_rfl) (by kernel_rfl) (by kernel_rfl) (fun _ _ _ h => h) (Or.inl ⟨by rfl, fun w hS => by go_simp⟩) k0 ?_
  refine wpAnyH_take (i := 2) (v := .pointer (some ⟨bd, 0, none⟩)) rfl (by kernel_rfl) (by kernel_rfl) (by kernel_rfl) (fun _ _ _ h => h) (Or.inl ⟨by rfl, fun w hS => by go_simp⟩) k0 ?_
  refine wpAnyH_take (i := 3) (v := .map (some bm)) rfl (by kernel_rfl) (by kernel_rfl) (by kernel_rfl) (fun _ _ _ h => h) (Or.inl ⟨by rfl, fun w hS => by go_simp⟩) k0 ?_
  refine wpAnyH_take (i := 4) (v := .int .i64 n) rfl (by kernel_rfl) (by kernel_rfl) (by kernel_rfl) (fun _ _ _ h => h) (Or.inl ⟨by rfl, fun w hS => by go_simp⟩) k0 ?_
  refine wpAnyH_take (i := 5) (v := .slice B k d) rfl (by kernel_rfl) (by kernel_rfl) (by kernel_rfl) (fun _ _ _ h => h) (Or.inl ⟨by rfl, fun w hS => by go_simp⟩) k0 ?_
  refine wpAnyH_take (i := 6) (v := .slice (some ad) 256 c) rfl (by kernel_rfl) (by kernel_rfl) (by kernel_rfl) (fun _ _ _ h => h) (Or.inl ⟨by rfl, fun w hS => by go_simp⟩) k0 ?_
  go_simp
  refine wpAnyH_all (rs := [7]) (by kernel_rfl) (by simp) (fun i hi => ?_)
  obtain rfl := List.mem_singleton.1 hi
  clear hi
  refine wpOp_step (o := { dst := some 52, op := .sliceToArrayPointer 79 (.tmp 51), type := _, pos := _, after := _, guard := none }) (by simp; exact ⟨rfl, rfl, rfl⟩) (fun K hK => step_wp rfl (op_arrAt (.tmp 51) rfl ad c (by go_simp) (hK _ _ ⟨k0, ?_⟩)))
  clear hK K
  go_simp
  refine wpAnyH_all (rs := [8]) (by kernel_rfl) (by simp) (fun i hi => ?_)
  obtain rfl := List.mem_singleton.1 hi
  clear hi
  refine wpOp_step (o := { dst := some 53, op := .load 79 (.tmp 52), type := _, pos := _, after := _, guard := none }) (by simp; exact ⟨rfl, rfl, rfl⟩) (fun K hK => step_wp rfl (op_loadPage (.tmp 52) rfl ad (by go_simp) p A1.out HPL.out (hK _ _ ⟨k0, ?_⟩)))
  clear hK K
  go_simp
  refine wpAnyH_all (rs := [9]) (by kernel_rfl) (by simp) (fun i hi => ?_)
  obtain rfl := List.mem_singleton.1 hi
  clear hi
  refine wpOp_step (o := { dst := some 54, op := .buildSlice 75 1 #[(0, .tmp 53)], type := _, pos := _, after := _, guard := none }) (by simp; exact ⟨rfl, rfl, rfl⟩) (fun K hK => step_wp rfl (op_onePage (.tmp 53) rfl p (by go_simp) HPL.out (hK _ _ ⟨(World.cell?_alloc_lt _ _ _ (World.block_lt_of_cell? w1 _ k0)).trans k0, ?_⟩)))
  clear hK K
  go_simp
  refine wpAnyH_all (rs := [10]) (by kernel_rfl) (by simp) (fun i hi => ?_)
  obtain rfl := List.mem_singleton.1 hi
  clear hi
  refine wpOp_step (o := { dst := some 55, op := .call { callee := .builtin .append, args := #[.tmp 50, .tmp 54], argTypes := #[75, 75 ] }, type := _, pos := _, after := _, guard := none }) (by simp; exact ⟨rfl, rfl, rfl⟩) (fun K hK => step_wp rfl ?_)
  refine op_app1 (W := w1.drew) 0 (.tmp 50) (.tmp 54) 75 79 (.agg (Array.replicate 256 (.int .u8 0))) 256 256 rfl Try.underlying75 infP rfl (by omega) (by omega) (.slice B k d) k (pgc l) (b8 p) (by go_simp) (by go_simp) rfl (by rw [List.length_map]; exact HPL.out) (by intro u hu; obtain ⟨x, _, rfl⟩ := List.mem_map.1 hu; rfl) HR1.out (Nat.zero_le _) (by omega) ?_
  intro v2 w2 h2 t2 hor2
  obtain ⟨A2, c2, rfl⟩ := own_slice h2
  have HO2 := Lib.hid (t2.heap (w := w1.drew) (k := bd) HP.out.1.dsk (fun e => (HVb.out _ e).1 rfl))
  have HM2 := Lib.hid (OwnM.turn (w := w1.drew) HP.out.1.map t2 (fun e => (HVb.out _ e).2.1 rfl))
  have e20 : w2.cell? ⟨bd, 0, none⟩ = some (.map (some bm)) := cell_of_blk HO2.out 0
  refine hK _ _ ⟨e20, ?_⟩
  clear hK K
  go_simp
  refine wpAnyH_all (rs := [11]) (by kernel_rfl) (by simp) (fun i hi => ?_)
  obtain rfl := List.mem_singleton.1 hi
  clear hi
  refine wpOp_step (o := { dst := none, op := .mapUpdate 65 (.tmp 48) (.tmp 49) (.tmp 55), type := _, pos := _, after := _, guard := none }) (by simp; exact ⟨rfl, rfl, rfl⟩) (fun K hK => step_wp rfl ?_)
  refine op_mapUpd (.tmp 48) (.tmp 49) (.tmp 55) 65 3 75 rfl K64 Try.underlying65 bm _ _ (by go_simp) HM2.out (by dsimp only [Ds.deed_]; simp only [maxLen]; omega) (.int .i64 n) (.slice A2 (k + 1) c2) _ (by go_simp) (by go_simp) (k64 (n := n) hw) ?_
  intro w5 hown5 hturn5
  have HT5 : Hid (Turn (fun k => k = bm) w2 w5) := (Turn.refl (fun k => k = bm) w2).grown hturn5.grown (fun k hk => .inl (by injection hk with hk; exact hk.symm))
  have HO5 := Lib.hid (HT5.out.heap HO2.out HN.out.1)
  refine hK _ _ ⟨cell_of_blk HO5.out 0, ?_⟩
  clear hK K
  refine wpAnyH_done (by kernel_rfl) ?_ _
  have g6 : w5.cell? ⟨bd, 6, none⟩ = some (.int .i64 s.writes) := cell_of_blk HO5.out 6
  have g7 : w5.cell? ⟨bd, 7, none⟩ = some (.int .i64 s.used) := cell_of_blk HO5.out 7
  have g8 : w5.cell? ⟨bd, 8, none⟩ = some (.int .i64 s.peak) := cell_of_blk HO5.out 8
  have r6 := free_of_blk HO5.out 6
  have r7 := free_of_blk HO5.out 7
  have r8 := free_of_blk HO5.out 8
  have HP5 : Hid (∀ W', Turn (fun k => k = bd) w5 W' → W'.heap[bd]? = some (dskObj bm bf R ⟨s.made, s.deeds + 1, s.reads, s.writes + 1, s.used + 1, max s.peak (s.used + 1), addPg s.fs n p⟩) → Ch w (DS bd bm bf V s) (DR bd R F ⟨s.made, s.deeds + 1, s.reads, s.writes + 1, s.used + 1, max s.peak (s.used + 1), addPg s.fs n p⟩) W') := by
    intro W' ht ho
    have hz := HP.out.2.size
    have hlt := HP.out.1.lt
    have hnb : ∀ q, (Value.slice A2 (k + 1) c2).ownBlock = some q → q ≠ bd ∧ q ≠ bm := by
      intro q hq
      rcases hor2 with h | ⟨b, h, hb⟩
      · rw [h] at hq
        exact ⟨(HVb.out q hq).1, (HVb.out q hq).2.1⟩
      · rw [h] at hq
        injection hq with hq
        have h1 := hlt bd (.inl rfl)
        have h2 := hlt bm (.inr (.inl rfl))
        have h3 : w1.heap.size ≤ b := hb
        omega
    refine HX.out W' _ (.slice A2 (k + 1) c2) (s.deed_.fs.length + 1) ?_ ho rfl ?_ ?_ ?_
    · have t1 : Turn (fun j => j = bd ∨ j = bm ∨ (V n).ownBlock = some j) w w1.drew := HP.out.2.drew.mono (fun j hj => .inl hj)
      have t3 := t1.then_ t2 (fun j hj => .inl (.inr (.inr (by rw [HV.out]; exact hj))))
      have t4 := t3.then_ HT5.out (fun j hj => .inl (.inr (.inl hj)))
      exact t4.then_ ht (fun j hj => .inl (.inl hj))
    · have h5 := hown5
      rw [show s.deed_.fs = s.fs from rfl, mOf_put_old n _ _ HOrd.out HK.out] at h5
      exact OwnM.turn h5 ht (fun e => HN.out.1 e.symm)
    · have r1 := own_turn (own_turn h2 HT5.out (fun q hq => (hnb q hq).2)) ht (fun q hq => (hnb q hq).1)
      have e : pgc (l ++ [p]) = pgc l ++ b8 p := by simp [pgc]
      rw [e]
      exact r1
    · rcases hor2 with h | ⟨b, h, hb⟩
      · exact .inl (by rw [h, HV.out])
      · exact .inr ⟨b, h, Nat.le_trans hz hb⟩
  have HN5 := Lib.hid HO5.out
  clear h2 t2 hor2 hown5 hturn5 e20 k0
  go_wp2
  go_region
  all_goals go_wp2
  all_goals go_ret
  all_goals
    refine ⟨by trivial, HP5.out _ ?_ ?_⟩
    · exact ((((Turn.refl (fun k => k = bd) w5).cell bd 6 _ rfl).cell bd 7 _ rfl).cell bd 8 _ rfl).drew
    · have h := blk_set (blk_set (blk_set HN5.out 6 (.int .i64 (s.writes + 1))) 7 (.int .i64 (s.used + 1))) 8 (.int .i64 (max s.peak (s.used + 1)))
      first
        | exact h
        | (rw [show max s.peak (s.used + 1) = s.used + 1 by omega] at h ⊢; exact h)
        | (rw [show max s.peak (s.used + 1) = s.peak by omega] at h ⊢; exact h)
end
end Go.Proofs.Ytagknfjgokiidaa
