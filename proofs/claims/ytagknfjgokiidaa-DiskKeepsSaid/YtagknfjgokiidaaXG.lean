/- the document's disk: Append, the walk. -/
import Derived.Test.YtagknfjgokiidaaXF
import Derived.OrdersHeld
namespace Go.Proofs.Ytagknfjgokiidaa
open Go.RowKit
set_option linter.unusedVariables false
set_option linter.unusedSimpArgs false
set_option maxRecDepth 6000

theorem infS8 : (Try.prog.info? 31).map (fun i => (i.zero, i.size, i.bytes)) = some (some (.slice none 0 0), 1, 24) := by kernel_rfl
section
variable {Pr : Program} {ops : Array Oper} {o : Oper} {a : Act} {K : Act → World → Prop} {Q : Exit → Act → World → Prop}
theorem op_build0 {W : World} (t e : TypeId) (z : Value) (size bytes : Nat) (ho : o.op = .buildSlice t 0 #[]) (ht : Pr.underlying t = some (.slice e)) (hinfo : (Pr.info? e).map (fun i => (i.zero, i.size, i.bytes)) = some (some z, size, bytes))
    (h : K (a.put o.dst (.slice (some ⟨W.heap.size, 0, none⟩) 0 0)) (W.alloc (.cells #[] e))) : o.wp Pr a W K Q := by
  obtain ⟨i0, hi, hz0, hz1, hz2⟩ := info_parts hinfo
  have hrun : (Instr.buildSlice t 0 #[]).run Pr W = .ok (.slice (some ⟨W.heap.size, 0, none⟩) 0 0) (W.alloc (.cells #[] e)) := by
    simp [Instr.buildSlice, run_underlying ht, sizeOf, typeInfo, hi, Instr.fill, newRow]
    rw [Array.eq_empty_of_size_eq_zero (xs := Array.map (fun x => default) (Array.range 0)) (by simp)]
  unfold Oper.wp execOp
  have e0 : ((#[] : Array (Nat × Operand)).map fun (i, x) => (i, a.eval x)) = #[] := by simp
  simp only [ho, e0, Sem.run_bind, hrun, Result.andThen_ok, Sem.run_pure]
  exact h
theorem op_build1 {W : World} (x : Operand) (t e : TypeId) (z : Value) (bytes : Nat) (ho : o.op = .buildSlice t 1 #[(0, x)]) (ht : Pr.underlying t = some (.slice e)) (hinfo : (Pr.info? e).map (fun i => (i.zero, i.size, i.bytes)) = some (some z, 1, bytes))
    (v : Value) (hx : a.eval x = v) (hv : v.cells = #[v])
    (h : K (a.put o.dst (.slice (some ⟨W.heap.size, 0, none⟩) 1 1)) (W.alloc (.cells #[v] e))) : o.wp Pr a W K Q := by
  obtain ⟨i0, hi, hz0, hz1, hz2⟩ := info_parts hinfo
  have hrun : (Instr.buildSlice t 1 #[(0, v)]).run Pr W = .ok (.slice (some ⟨W.heap.size, 0, none⟩) 1 1) (W.alloc (.cells #[v] e)) := by
    refine run_buildSlice W t e 1 _ _ i0 z ht hi hz0 (by rw [hz1]; decide) (by rw [hz1]; decide) ?_
    rw [hz1]
    have := Great.fill_whole (s := 1) (by omega) [v] ((Array.range (1 * 1)).map (fun x => z.cells[x % z.cells.size]!)) (by intro u hu; rw [List.mem_singleton.1 hu, hv]; rfl) (by simp)
    simpa [hv] using this
  unfold Oper.wp execOp
  have e0 : (#[((0 : Nat), x)].map fun (i, x) => (i, a.eval x)) = #[(0, v)] := by simp [hx]
  simp only [ho, e0, Sem.run_bind, hrun, Result.andThen_ok, Sem.run_pure]
  exact h
theorem op_appB {W : World} (base : Nat) (s x : Operand) (t e : TypeId) (z : Value) (size bytes : Nat)
    (ho : o.op = .call { callee := .builtin .append, args := #[s, x], argTypes := #[t, t] })
    (ht : Pr.underlying t = some (.slice e)) (hinfo : (Pr.info? e).map (fun i => (i.zero, i.size, i.bytes)) = some (some z, size, bytes)) (hz : z.cells.size = size) (hs0 : 0 < size) (hb0 : 0 < bytes)
    (v : Value) (n : Nat) (xs : List Value) (hs : a.eval s = v) (ad : Addr) (m c : Nat) (ys : List Value) (hx : a.eval x = .slice (some ad) m c) (hys : ys.length = m * size) (hr : ∀ j u, ys[j]? = some u → W.cell? (ad.add j) = some u) (h1 : ∀ u ∈ ys, u.oneCell' = true)
    (HO : W.ownsRow base e size v n xs) (hbase : base ≤ W.heap.size) (hl : (n + m) * bytes ≤ 140737488355328)
    (h : ∀ v1 w1, w1.ownsRow base e size v1 (n + m) (xs ++ ys) → Turn (fun k => v.ownBlock = some k) W w1 → (v1.ownBlock = v.ownBlock ∨ ∃ b, v1.ownBlock = some b ∧ W.heap.size ≤ b) → K (a.put o.dst v1) w1) :
    o.wp Pr a W K Q := by
  obtain ⟨i0, hi, hz0, hz1, hz2⟩ := info_parts hinfo
  have hlen : n + m ≤ 140737488355328 := Nat.le_trans (Nat.le_mul_of_pos_right _ hb0) hl
  obtain ⟨v1, w1, hrun, hown, hg, _, hat⟩ := run_append_own_at (P := Pr) W base t o.type e i0 z size bytes ht hi hz0 hz1 hz2 hz hs0 v n xs HO ad m c ys hys hr h1 (by simp only [maxLen]; omega) hl hbase
  unfold Oper.wp execOp
  simp only [ho, resolve, invoke, builtin, Sem.run_bind, Sem.run_pure, Result.andThen_ok, List.map_toArray, List.map_cons, List.map_nil, hs, hx, hrun]
  refine h v1 w1 hown ((Turn.refl _ W).grown hg (fun k hk => .inl hk)) ?_
  rcases hat with hat | hat
  · exact .inl hat
  · exact .inr ⟨_, hat, Nat.le_refl _⟩
end
section
variable {w : World} {bx : Nat} {FV LV : Value} {P : Int → Value} {Hd : Int → List Value} {R : Int} {F : List Int} {s : Ds}
theorem xapp_arg (H : Rsk w bx FV LV P Hd R F s) (hl : s.fs.length ≤ 32768) {n : Int} {A : Option Addr} {k c : Nat} (hk : k ≠ 256) :
    Calls Try.prog 38 #[dp bx, .int .i64 n, .slice A k c] w fun e w' => e = .returned (.int .i64 1) ∧ w' = w := by
  have HA := Lib.hid (xat H hl n)
  have hk1 : ((k : Int) != 256) = true := by simp; omega
  clear H hk
  go_enter Try.func38, Try.ntmps38
  go_wp2_with (go_at_call 41; refine HA.out.mono ?_; rintro e w1 ⟨rfl, hw⟩; obtain rfl := hw.symm; clear hw)
  go_ret
  exact ⟨by trivial, rfl⟩
theorem xapp_none (H : Rsk w bx FV LV P Hd R F s) (hl : s.fs.length ≤ 32768) {n : Int} {A : Option Addr} {c : Nat} (hf : s.find n = none) :
    Calls Try.prog 38 #[dp bx, .int .i64 n, .slice A 256 c] w fun e w' => e = .returned (.int .i64 4) ∧ w' = w := by
  have HA := xat H hl n
  rw [Ds.at_none hf] at HA
  have HA := Lib.hid HA
  clear H hf
  go_enter Try.func38, Try.ntmps38
  go_wp2_with (go_at_call 41; refine HA.out.mono ?_; rintro e w1 ⟨rfl, hw⟩; obtain rfl := hw.symm; clear hw)
  go_ret
  exact ⟨by trivial, rfl⟩
theorem xapp_full (H : Rsk w bx FV LV P Hd R F s) (hl : s.fs.length ≤ 32768) {n : Int} {A : Option Addr} {c : Nat} {l : List Pg} (hf : s.find n = some l) (hu : R ≤ s.used) :
    Calls Try.prog 38 #[dp bx, .int .i64 n, .slice A 256 c] w fun e w' => e = .returned (.int .i64 2) ∧ Below w.heap.size w w' := by
  have HA := xat H hl n
  obtain ⟨i, hi, hx⟩ := Ds.at_some hf
  rw [hi] at HA
  have HA := Lib.hid HA
  obtain ⟨c0, c1, c2, c3, c4, c5, c6, c7, c8, hb⟩ := H.cells
  have hu1 : decide (s.used ≥ R) = true := by simp; omega
  clear H hf hi hx hu
  go_enter Try.func38, Try.ntmps38
  go_wp2_with (go_at_call 41; refine HA.out.mono ?_; rintro e w1 ⟨rfl, hw⟩; obtain rfl := hw.symm; clear hw)
  go_quiet (fail)
  go_wp2
  go_ret
  exact ⟨by trivial, rfl, rfl, rfl, Nat.le_refl _, fun _ _ => rfl⟩
theorem xapp_fault (H : Rsk w bx FV LV P Hd R F s) (K : DOk R s) (hd : s.deeds ≤ 1000000000) (hF : F.length ≤ 9223372036854775807) {n : Int} {A : Option Addr} {c : Nat} {l : List Pg} (hf : s.find n = some l) (hu : s.used < R) (hc : F.contains (s.deeds + 1) = true) :
    Calls Try.prog 38 #[dp bx, .int .i64 n, .slice A 256 c] w fun e w' => e = .returned (.int .i64 50) ∧ Ch w (XS bx FV LV P Hd s) (XR bx R F s.deed_) w' := by
  have HA := xat H K.len n
  obtain ⟨i, hi, hx⟩ := Ds.at_some hf
  rw [hi] at HA
  have HA := Lib.hid HA
  obtain ⟨c0, c1, c2, c3, c4, c5, c6, c7, c8, hb⟩ := H.cells
  have hu1 : decide (s.used ≥ R) = false := by simp; omega
  have HD := Lib.hid (fun m => (xdeed_at (H.turn ((Turn.refl (fun _ => False) w).drewN m) (fun _ _ => id)) K hd hF hc).mono fun e w' h => (⟨h.1, XDeed.ch (w := w) ⟨h.2.1, ((Turn.refl (fun k => k = bx) w).drewN m).trans h.2.2⟩⟩ : e = .returned (.bool false) ∧ Ch w (XS bx FV LV P Hd s) (XR bx R F s.deed_) w'))
  clear H hf hi hx hu hc K
  go_enter Try.func38, Try.ntmps38
  go_wp2_with (go_at_call 41; refine HA.out.mono ?_; rintro e w1 ⟨rfl, hw⟩; obtain rfl := hw.symm; clear hw)
  go_quiet (fail)
  go_wp2_with (go_at_call 51; refine (HD.out _).mono ?_; rintro e w1 ⟨rfl, hp⟩; have HP := Lib.hid hp; clear hp)
  go_ret
  exact ⟨by trivial, HP.out⟩
theorem row_file {W : World} {g m c i : Nat} {P : Int → Value} {fs : List (Int × List Pg)} {x : Int × List Pg} (h : W.ownsRow 0 74 2 (.slice (some ⟨g, 0, none⟩) m c) m (fcs P fs)) (hx : fs[i]? = some x) : W.cell? ⟨g, i * 2 + 1, none⟩ = some (P x.1) ∧ W.frozen? ⟨g, i * 2 + 1, none⟩ = false ∧ g < W.heap.size := by
  have hc := h.cells (g := g) rfl _ _ (fcs_get P hx).2
  rw [Addr.add_mid, Nat.zero_add] at hc
  obtain ⟨cs, ho⟩ := own_obj h (k := g) rfl
  exact ⟨hc, free_of_blk ho _, lt_of_heap ho⟩
theorem blk_ne {w : World} {base : Nat} {e t : TypeId} {size n bx : Nat} {v : Value} {xs : List Value} {cs : Array Value} (h : w.ownsRow base e size v n xs) (ho : w.heap[bx]? = some (.cells cs t (0, 0))) (hne : e ≠ t) {k : Nat} (hk : v.ownBlock = some k) : k ≠ bx := by
  obtain ⟨cs', hc⟩ := own_obj h hk
  intro e2
  rw [e2, ho] at hc
  injection hc with hc
  injection hc with _ h2
  exact hne h2.symm
theorem xapp_end {i m k g c d c2 c3 : Nat} {A2 A3 B : Option Addr} {n : Int} {p : Pg} {w1 w2 w3 : World} {s' : Ds}
    (HX : ∀ (w' : World) (s' : Ds) (v1 v0 : Value), Turn (fun j => j = bx ∨ (Value.slice (some ⟨g, 0, none⟩) m c).ownBlock = some j ∨ (P n).ownBlock = some j) w w' → w'.heap[bx]? = some (rskObj FV (.slice (some ⟨g, 0, none⟩) m c) R s') → s'.fs = addPg s.fs n p →
      w'.ownsRow 0 74 2 (.slice (some ⟨g, 0, none⟩) m c) m ((fcs P s.fs).set (i * 2 + 1) v1) → w'.ownsRow 0 31 1 v1 (k + 1) (Hd n ++ [v0]) → w'.ownsRow 0 5 1 v0 256 (b8 p) → (∀ j, v0.ownBlock = some j → w.heap.size ≤ j) →
      (v1.ownBlock = (P n).ownBlock ∨ ∃ b, v1.ownBlock = some b ∧ w.heap.size ≤ b) → Ch w (XS bx FV (.slice (some ⟨g, 0, none⟩) m c) P Hd s) (XR bx R F s') w')
    (HP : XDeed w bx FV (.slice (some ⟨g, 0, none⟩) m c) P Hd R F s w1) (HB2 : Below w1.heap.size w1 w2)
    (hL2 : w2.ownsRow 0 74 2 (.slice (some ⟨g, 0, none⟩) m c) m (fcs P s.fs)) (hP2 : w2.ownsRow 0 31 1 (.slice B k d) k (Hd n)) (HO2 : w2.ownsRow w1.heap.size 5 1 (.slice A2 256 c2) 256 (b8 p))
    (HO3 : w3.heap[bx]? = some (rskObj FV (.slice (some ⟨g, 0, none⟩) m c) R s.deed_)) (h3 : w3.ownsRow 0 31 1 (.slice A3 (k + 1) c3) (k + 1) (Hd n ++ [.slice A2 256 c2])) (t3 : Turn (fun j => (Value.slice B k d).ownBlock = some j) w2 w3)
    (hor3 : (Value.slice A3 (k + 1) c3).ownBlock = (Value.slice B k d).ownBlock ∨ ∃ b, (Value.slice A3 (k + 1) c3).ownBlock = some b ∧ w2.heap.size ≤ b) (HL3 : w3.ownsRow 0 74 2 (.slice (some ⟨g, 0, none⟩) m c) m (fcs P s.fs)) (HEP : P n = .slice B k d) (HNg : bx ≠ (⟨g, i * 2 + 1, none⟩ : Addr).block)
    (hfs : s'.fs = addPg s.fs n p) (W' : World) (ht : Turn (fun j => j = bx) (w3.setCell ⟨g, i * 2 + 1, none⟩ (.slice A3 (k + 1) c3)) W') (ho : W'.heap[bx]? = some (rskObj FV (.slice (some ⟨g, 0, none⟩) m c) R s')) :
    Ch w (XS bx FV (.slice (some ⟨g, 0, none⟩) m c) P Hd s) (XR bx R F s') W' := by
  have hz := HP.2.size
  have tg : Turn (fun j => j = g) w3 (w3.setCell ⟨g, i * 2 + 1, none⟩ (.slice A3 (k + 1) c3)) := (Turn.refl (fun j => j = g) w3).cell g (i * 2 + 1) _ rfl
  have h4 := own_set (j := i * 2 + 1) HL3 (.slice A3 (k + 1) c3)
  have go : (Value.slice (some ⟨g, 0, none⟩) m c).ownBlock = some g := rfl
  have h34 : (w3.setCell ⟨g, i * 2 + 1, none⟩ (.slice A3 (k + 1) c3)).ownsRow 0 31 1 (.slice A3 (k + 1) c3) (k + 1) (Hd n ++ [.slice A2 256 c2]) := own_turn h3 tg (fun j hj e => own_ne h3 HL3 (by decide) hj (by rw [go, e]))
  have h23 := own_turn HO2 t3 (fun j hj e => own_ne HO2 hP2 (by decide) hj e)
  have h24 : (w3.setCell ⟨g, i * 2 + 1, none⟩ (.slice A3 (k + 1) c3)).ownsRow w1.heap.size 5 1 (.slice A2 256 c2) 256 (b8 p) := own_turn h23 tg (fun j hj e => own_ne h23 HL3 (by decide) hj (by rw [go, e]))
  have HO4 := blk_far HO3 (p := ⟨g, i * 2 + 1, none⟩) HNg (.slice A3 (k + 1) c3)
  refine HX W' s' (.slice A3 (k + 1) c3) (.slice A2 256 c2) ?_ ho hfs ?_ ?_ ?_ ?_ ?_
  · have t1 : Turn (fun j => j = bx ∨ (Value.slice (some ⟨g, 0, none⟩) m c).ownBlock = some j ∨ (P n).ownBlock = some j) w w1 := HP.2.mono (fun j hj => .inl hj)
    have t2 := t1.then_ (Turn.of_below HB2 (fun _ => False)) (fun _ h => h.elim)
    have t3' := t2.then_ t3 (fun j hj => .inl (.inr (.inr (by rw [HEP]; exact hj))))
    have t4 := t3'.then_ tg (fun j hj => .inl (.inr (.inl (by rw [go, hj]))))
    exact t4.then_ ht (fun j hj => .inl (.inl hj))
  · exact own_turn h4 ht (fun j hj => blk_ne h4 HO4 (by decide) hj)
  · exact own_turn h34 ht (fun j hj => blk_ne h34 HO4 (by decide) hj)
  · exact own_lower (own_turn h24 ht (fun j hj => blk_ne h24 HO4 (by decide) hj)) (Nat.zero_le _)
  · intro j hj
    exact Nat.le_trans hz (own_ge HO2 hj)
  · rcases hor3 with e | ⟨b, e, hb⟩
    · exact .inl (by rw [e, HEP])
    · exact .inr ⟨b, e, Nat.le_trans (Nat.le_trans hz HB2.size) hb⟩
set_option maxHeartbeats 4000000 in
theorem xapp_ok (H : Rsk w bx FV LV P Hd R F s) (K : DOk R s) (hd : s.deeds ≤ 1000000000) (hF : F.length ≤ 9223372036854775807) {n : Int} {ad : Addr} {cp : Nat} {l : List Pg} {p : Pg} (hf : s.find n = some l) (hu : s.used < R) (hc : F.contains (s.deeds + 1) = false)
    (hp : At8 w ad p) (hpl : p.length = 256) (hne : ad.block ≠ bx) :
    Calls Try.prog 38 #[dp bx, .int .i64 n, .slice (some ad) 256 cp] w fun e w' => e = .returned (.int .i64 0) ∧ Ch w (XS bx FV LV P Hd s) (XR bx R F ⟨s.made, s.deeds + 1, s.reads, s.writes + 1, s.used + 1, max s.peak (s.used + 1), addPg s.fs n p⟩) w' := by
  have hl := K.len
  have HA := xat H hl n
  obtain ⟨i, hi, hx⟩ := Ds.at_some hf
  rw [hi] at HA
  have HA := Lib.hid HA
  obtain ⟨c0, c1, c2, c3, c4, c5, c6, c7, c8, hb⟩ := H.cells
  have hu1 : decide (s.used ≥ R) = false := by simp; omega
  have ha := K.acts
  have hus := K.used
  have hrm := K.room
  have hmem := Ds.find_mem hf
  have hpg := pagesN_mem hmem
  rw [← K.cnt] at hpg
  have hm2 : 0 ≤ s.used := by have := pagesN_nonneg s.fs; rw [← K.cnt] at this; exact this
  have hw0 : s.writes ≤ 1000000000 := by omega
  have hw1 := ha.2.1
  have hu2 : s.used ≤ 1000000000 := by omega
  have HD := Lib.hid (fun m => (xdeed_at (H.turn ((Turn.refl (fun _ => False) w).drewN m) (fun _ _ => id)) K hd hF hc).mono fun e w' h => (⟨h.1, h.2.1, ((Turn.refl (fun k => k = bx) w).drewN m).trans h.2.2⟩ : e = .returned (.bool true) ∧ XDeed w bx FV LV P Hd R F s w'))
  obtain ⟨g, c, e⟩ := H.shapeL hx
  subst e
  obtain ⟨B, d, eP⟩ := own_slice (H.prow _ hmem)
  have hHl : (Hd n).length = l.length := by have := (H.prow _ hmem).1; simpa using this
  have HX := Lib.hid (fun (w' : World) (s' : Ds) (v1 v0 : Value) ht ho hfs hl hr hp hv0 hor => H.addPage (w' := w') (s' := s') (v1 := v1) (v0 := v0) (p := p) K.ord hx hHl ht ho hfs hl hr hp hv0 hor)
  have HN := Lib.hid H.nes
  have HP0 := Lib.hid hp
  have HPL := Lib.hid hpl
  have HM := Lib.hid hmem
  have HI := Lib.hid hx
  have hil := (List.getElem?_eq_some_iff.1 hx).1
  dsimp only at eP hpg
  have HEP := Lib.hid eP
  obtain ⟨m, hm⟩ : ∃ m, m = s.fs.length := ⟨_, rfl⟩
  obtain ⟨k, hk⟩ : ∃ k, k = l.length := ⟨_, rfl⟩
  have hk2 : k ≤ 16384 := by omega
  rw [← hm] at c2 hl hil HX HD HN ⊢
  rw [← hk] at HX HEP
  have HMl := Lib.hid hm
  have HKl := Lib.hid hk
  have HH : Hid (Rsk w bx FV (.slice (some ⟨g, 0, none⟩) m c) P Hd R F s) := by rw [hm]; exact H
  clear H hu hc K ha hp hpl hmem hpg hf hi hx eP hHl hm hk hus hrm
  go_enter Try.func38, Try.ntmps38
  go_wp2_with (go_at_call 41; refine HA.out.mono ?_; rintro e w1 ⟨rfl, hw⟩; obtain rfl := hw.symm; clear hw)
  go_quiet (fail)
  go_wp2_with (go_at_call 51; refine (HD.out _).mono ?_; rintro e w1 ⟨rfl, hp⟩; have HP := Lib.hid hp; clear hp)
  clear c0 c1 c2 c3 c4 c5 c6 c7 c8 hb
  have q2 : w1.cell? ⟨bx, 2, none⟩ = some (.slice (some ⟨g, 0, none⟩) m c) := HP.out.1.cells.2.2.1
  have L1 : w1.ownsRow 0 74 2 (.slice (some ⟨g, 0, none⟩) m c) m (fcs P s.fs) := by have := HP.out.1.lst; rw [HMl.out]; rw [HMl.out] at this; exact this
  obtain ⟨qp, _, _⟩ := row_file L1 HI.out
  dsimp only at qp
  rw [HEP.out] at qp
  clear L1
  have A1 := Lib.hid (HP0.out.turn HP.out.2 hne)
  refine wp_region_held (S := fun W => W.cell? ⟨bx, 2, none⟩ = some (.slice (some ⟨g, 0, none⟩) m c)) (by kernel_rfl) ?_
  change wpAnyH _ _ _ _ _ _ _ _ (World.drew w1)
  refine wpAnyH_take (i := 0) (v := dp bx) rfl (by kernel_rfl) (by kernel_rfl) (by kernel_rfl) (fun _ _ _ h => h) (Or.inl ⟨by rfl, fun w hS => by go_simp⟩) q2 ?_
  refine wpAnyH_take (i := 1) (v := dp bx) rfl (by kernel_rfl) (by kernel_rfl) (by kernel_rfl) (fun _ _ _ h => h) (Or.inl ⟨by rfl, fun w hS => by go_simp⟩) q2 ?_
  refine wpAnyH_take (i := 2) (v := .pointer (some ⟨bx, 2, none⟩)) rfl (by kernel_rfl) (by kernel_rfl) (by kernel_rfl) (fun _ _ _ h => h) (Or.inl ⟨by rfl, fun w hS => by go_simp⟩) q2 ?_
  refine wpAnyH_take (i := 3) (v := .slice (some ⟨g, 0, none⟩) m c) rfl (by kernel_rfl) (by kernel_rfl) (by kernel_rfl) (fun _ _ _ h => h) (Or.inl ⟨by rfl, fun w hS => by go_simp⟩) q2 ?_
  refine wpAnyH_take (i := 4) (v := .int .i64 (i : Int)) rfl (by kernel_rfl) (by kernel_rfl) (by kernel_rfl) (fun _ _ _ h => h) (Or.inl ⟨by rfl, fun w hS => by go_simp⟩) q2 ?_
  refine wpAnyH_take (i := 5) (v := dp bx) rfl (by kernel_rfl) (by kernel_rfl) (by kernel_rfl) (fun _ _ _ h => h) (Or.inl ⟨by rfl, fun w hS => by go_simp⟩) q2 ?_
  refine wpAnyH_take (i := 6) (v := dp bx) rfl (by kernel_rfl) (by kernel_rfl) (by kernel_rfl) (fun _ _ _ h => h) (Or.inl ⟨by rfl, fun w hS => by go_simp⟩) q2 ?_
  refine wpAnyH_take (i := 7) (v := .pointer (some ⟨bx, 2, none⟩)) rfl (by kernel_rfl) (by kernel_rfl) (by kernel_rfl) (fun _ _ _ h => h) (Or.inl ⟨by rfl, fun w hS => by go_simp⟩) q2 ?_
  refine wpAnyH_take (i := 8) (v := .slice (some ⟨g, 0, none⟩) m c) rfl (by kernel_rfl) (by kernel_rfl) (by kernel_rfl) (fun _ _ _ h => h) (Or.inl ⟨by rfl, fun w hS => by go_simp⟩) q2 ?_
  refine wpAnyH_take (i := 9) (v := .int .i64 (i : Int)) rfl (by kernel_rfl) (by kernel_rfl) (by kernel_rfl) (fun _ _ _ h => h) (Or.inl ⟨by rfl, fun w hS => by go_simp⟩) q2 ?_
  refine wpAnyH_take (i := 10) (v := .pointer (some ⟨g, i * 2, none⟩)) rfl (by kernel_rfl) (by kernel_rfl) (by kernel_rfl) (fun _ _ _ h => h) (Or.inl ⟨by rfl, fun w hS => by go_simp⟩) q2 ?_
  refine wpAnyH_take (i := 11) (v := .pointer (some ⟨g, i * 2 + 1, none⟩)) rfl (by kernel_rfl) (by kernel_rfl) (by kernel_rfl) (fun _ _ _ h => h) (Or.inl ⟨by rfl, fun w hS => by go_simp⟩) q2 ?_
  refine wpAnyH_take (i := 14) (v := .slice (some ad) 256 cp) rfl (by kernel_rfl) (by kernel_rfl) (by kernel_rfl) (fun _ _ _ h => h) (Or.inl ⟨by rfl, fun w hS => by go_simp⟩) q2 ?_
  -- TAIL
  go_simp
  have below_drew0 : Below w1.heap.size w1 w1.drew := ⟨rfl, rfl, rfl, Nat.le_refl _, fun _ _ => rfl⟩
  have q2a : (w1.drew.alloc (.cells #[] 5)).cell? ⟨bx, 2, none⟩ = some (.slice (some ⟨g, 0, none⟩) m c) := (World.cell?_alloc_lt _ _ _ (World.block_lt_of_cell? w1 _ q2)).trans q2
  have qpa : (w1.alloc (.cells #[] 5)).cell? ⟨g, i * 2 + 1, none⟩ = some (.slice B k d) := (World.cell?_alloc_lt _ _ _ (World.block_lt_of_cell? w1 _ qp)).trans qp
  have A1a : Hid (At8 (w1.drew.alloc (.cells #[] 5)) ad p) := (A1.out.turn ((Turn.refl (fun _ => False) w1).drew.alloc _) id)
  have HMlst := fun W (h : Rsk W bx FV (.slice (some ⟨g, 0, none⟩) m c) P Hd R F s.deed_) => show W.ownsRow 0 74 2 (.slice (some ⟨g, 0, none⟩) m c) m (fcs P s.fs) from by have := h.lst; rw [HMl.out]; rw [HMl.out] at this; exact this
  have HPrw := fun W (h : Rsk W bx FV (.slice (some ⟨g, 0, none⟩) m c) P Hd R F s.deed_) => show W.ownsRow 0 31 1 (.slice B k d) k (Hd n) from by have := h.prow (n, l) HM.out; dsimp only at this; rw [HEP.out, ← HKl.out] at this; exact this
  have HNb : Hid (∀ j, (Value.slice B k d).ownBlock = some j → j ≠ bx) := fun j hj => HN.out.2.2 (n, l) HM.out j (by dsimp only; rw [HEP.out]; exact hj)
  have HNg : Hid (bx ≠ (⟨g, i * 2 + 1, none⟩ : Addr).block) := fun e => HN.out.2.1 g rfl e.symm
  refine wpAnyH_all (rs := [12, 13]) (by kernel_rfl) (by simp) (fun j hj => ?_)
  rcases (by simpa using hj : j = 12 ∨ j = 13) with rfl | rfl
  · refine wpOp_step (o := { dst := some 45, op := .load 72 (.tmp 44), type := _, pos := _, after := _, guard := none }) (by simp; exact ⟨rfl, rfl, rfl⟩) (fun K hK => ?_)
    go_simp
    refine hK _ _ ⟨q2, ?_⟩
    clear hK K
    go_simp
    refine wpAnyH_all (rs := [13]) (by kernel_rfl) (by simp) (fun j hj => ?_)
    obtain rfl := List.mem_singleton.1 hj
    clear hj
    refine wpOp_step (o := { dst := some 46, op := .buildSlice 31 0 #[], type := _, pos := _, after := _, guard := none }) (by simp; exact ⟨rfl, rfl, rfl⟩) (fun K hK => step_wp rfl (op_build0 31 5 (.int .u8 0) 1 1 rfl Try.underlying31 inf8 (hK _ _ ⟨q2a, ?_⟩)))
    clear hK K
    go_simp
    refine wpAnyH_all (rs := [15]) (by kernel_rfl) (by simp) (fun j hj => ?_)
    obtain rfl := List.mem_singleton.1 hj
    clear hj
    refine wpOp_step (o := { dst := some 48, op := .call { callee := .builtin .append, args := #[.tmp 46, .tmp 47], argTypes := #[31, 31 ] }, type := _, pos := _, after := _, guard := none }) (by simp; exact ⟨rfl, rfl, rfl⟩) (fun K hK => step_wp rfl ?_)
    refine (show Oper.wp _ _ _ (w1.drew.alloc (.cells #[] 5)) _ _ from op_appB (W := (w1.drew.alloc (.cells #[] 5))) w1.heap.size (.tmp 46) (.tmp 47) 31 5 (.int .u8 0) 1 1 rfl Try.underlying31 inf8 rfl (by omega) (by omega) (.slice (some ⟨w1.heap.size, 0, none⟩) 0 0) 0 [] (by go_simp) ad 256 cp (b8 p) (by go_simp) (by rw [List.length_map]; exact HPL.out) A1a.out.2 (by intro u hu; obtain ⟨x, _, rfl⟩ := List.mem_map.1 hu; rfl) (lit_row w1.drew 5 rfl) (by simp) (by omega) ?_)
    intro v2 w2 h2 t2 _
    rw [Nat.zero_add, List.nil_append] at h2
    obtain ⟨A2, c2, rfl⟩ := own_slice h2
    have HB2 : Hid (Below w1.heap.size w1 w2) := below_turn (a := w1) (b := (w1.drew.alloc (.cells #[] 5))) (below_drew0.alloc (Nat.le_refl _) _) t2 (by simp) (fun k hk => by simp [Value.ownBlock] at hk; omega)
    have HR2 := Lib.hid (HP.out.1.turn (Turn.of_below HB2.out (fun _ => False)) (fun _ _ => id))
    have HO2 := Lib.hid h2
    clear h2 t2
    have q2c : w2.cell? ⟨bx, 2, none⟩ = some (.slice (some ⟨g, 0, none⟩) m c) := HR2.out.cells.2.2.1
    have qpc : w2.cell? ⟨g, i * 2 + 1, none⟩ = some (.slice B k d) := by have := (row_file (HMlst _ HR2.out) HI.out).1; dsimp only at this; rw [HEP.out] at this; exact this
    have q2d : (w2.alloc (.cells #[.slice A2 256 c2] 31)).cell? ⟨bx, 2, none⟩ = some (.slice (some ⟨g, 0, none⟩) m c) := (World.cell?_alloc_lt _ _ _ (World.block_lt_of_cell? w2 _ q2c)).trans q2c
    have qpd : (w2.alloc (.cells #[.slice A2 256 c2] 31)).cell? ⟨g, i * 2 + 1, none⟩ = some (.slice B k d) := (World.cell?_alloc_lt _ _ _ (World.block_lt_of_cell? w2 _ qpc)).trans qpc
    refine hK _ _ ⟨q2c, ?_⟩
    clear hK K
    go_simp
    refine wpAnyH_all (rs := [16]) (by kernel_rfl) (by simp) (fun j hj => ?_)
    obtain rfl := List.mem_singleton.1 hj
    clear hj
    refine wpOp_step (o := { dst := some 49, op := .buildSlice 72 1 #[(0, .tmp 48)], type := _, pos := _, after := _, guard := none }) (by simp; exact ⟨rfl, rfl, rfl⟩) (fun K hK => step_wp rfl (op_build1 (.tmp 48) 72 31 (.slice none 0 0) 24 rfl Try.underlying72 infS8 (.slice A2 256 c2) (by go_simp) rfl (hK _ _ ⟨q2d, ?_⟩)))
    clear hK K
    go_simp
    refine wpAnyH_all (rs := [17]) (by kernel_rfl) (by simp) (fun j hj => ?_)
    obtain rfl := List.mem_singleton.1 hj
    clear hj
    refine wpOp_step (o := { dst := some 50, op := .call { callee := .builtin .append, args := #[.tmp 45, .tmp 49], argTypes := #[72, 72 ] }, type := _, pos := _, after := _, guard := none }) (by simp; exact ⟨rfl, rfl, rfl⟩) (fun K hK => step_wp rfl ?_)
    refine (show Oper.wp _ _ _ (w2.alloc (.cells [Value.slice A2 256 c2].toArray 31)) _ _ from op_app1 (W := w2) 0 (.tmp 45) (.tmp 49) 72 31 (.slice none 0 0) 1 24 rfl Try.underlying72 infS8 rfl (by omega) (by omega) (.slice B k d) k (Hd n) [.slice A2 256 c2] (by go_simp) (by go_simp) rfl rfl (by simp [Value.oneCell']) (HPrw _ HR2.out) (Nat.zero_le _) (by omega) ?_)
    intro v3 w3 h3 t3 hor3
    obtain ⟨A3, c3, rfl⟩ := own_slice h3
    have HL3 := Lib.hid (own_turn (HMlst _ HR2.out) t3 (fun j hj e => own_ne (HMlst _ HR2.out) (HPrw _ HR2.out) (by decide) hj e))
    have HO3 := Lib.hid (t3.heap HR2.out.dsk (fun e => HNb.out _ e rfl))
    have q2e : w3.cell? ⟨bx, 2, none⟩ = some (.slice (some ⟨g, 0, none⟩) m c) := cell_of_blk HO3.out 2
    have HF3 := Lib.hid (row_file HL3.out HI.out)
    refine hK _ _ ⟨q2e, ?_⟩
    clear hK K
    go_simp
    refine wpAnyH_take (i := 18) (v := .pointer (some ⟨g, i * 2, none⟩)) rfl (by kernel_rfl) (by kernel_rfl) (by kernel_rfl) (fun _ _ _ h => h) (Or.inl ⟨by rfl, fun w hS => by go_simp⟩) q2e ?_
    refine wpAnyH_take (i := 19) (v := .pointer (some ⟨g, i * 2 + 1, none⟩)) rfl (by kernel_rfl) (by kernel_rfl) (by kernel_rfl) (fun _ _ _ h => h) (Or.inl ⟨by rfl, fun w hS => by go_simp⟩) q2e ?_
    go_simp
    have qp3 := HF3.out.1
    have fp3 := HF3.out.2.1
    dsimp only at qp3
    refine wpAnyH_all (rs := [20]) (by kernel_rfl) (by simp) (fun j hj => ?_)
    obtain rfl := List.mem_singleton.1 hj
    clear hj
    refine wpOp_step (o := { dst := none, op := .store 72 (.tmp 52) (.tmp 50), type := _, pos := _, after := _, guard := none }) (by simp; exact ⟨rfl, rfl, rfl⟩) (fun K hK => ?_)
    go_simp
    have HO4 := Lib.hid (blk_far HO3.out (p := ⟨g, i * 2 + 1, none⟩) HNg.out (.slice A3 (k + 1) c3))
    refine hK _ _ ⟨cell_of_blk HO4.out 2, ?_⟩
    clear hK K
    refine wpAnyH_done (by kernel_rfl) ?_ _
    have HP5 : Hid (∀ W', Turn (fun j => j = bx) (w3.setCell ⟨g, i * 2 + 1, none⟩ (.slice A3 (k + 1) c3)) W' → W'.heap[bx]? = some (rskObj FV (.slice (some ⟨g, 0, none⟩) m c) R ⟨s.made, s.deeds + 1, s.reads, s.writes + 1, s.used + 1, max s.peak (s.used + 1), addPg s.fs n p⟩) → Ch w (XS bx FV (.slice (some ⟨g, 0, none⟩) m c) P Hd s) (XR bx R F ⟨s.made, s.deeds + 1, s.reads, s.writes + 1, s.used + 1, max s.peak (s.used + 1), addPg s.fs n p⟩) W') :=
      xapp_end HX.out HP.out HB2.out (HMlst _ HR2.out) (HPrw _ HR2.out) HO2.out HO3.out h3 t3 hor3 HL3.out HEP.out HNg.out rfl
    clear h3 t3 hor3 qp3 fp3 q2 q2a q2c q2d q2e qp qpa qpc qpd HMlst HPrw below_drew0
    have g6 := cell_of_blk HO4.out 6
    have g7 := cell_of_blk HO4.out 7
    have g8 := cell_of_blk HO4.out 8
    have r6 := free_of_blk HO4.out 6
    have r7 := free_of_blk HO4.out 7
    have r8 := free_of_blk HO4.out 8
    dsimp only [Ds.deed_] at g6 g7 g8
    generalize (w3.setCell ⟨g, i * 2 + 1, none⟩ (.slice A3 (k + 1) c3)) = w4 at HO4 HP5 g6 g7 g8 r6 r7 r8 ⊢
    go_wp2
    go_quiet (fail)
    go_wp2
    all_goals
      go_ret
      refine ⟨by trivial, HP5.out _ ?_ ?_⟩
      · first
          | exact ((((Turn.refl (fun k => k = bx) w4).cell bx 6 _ rfl).cell bx 7 _ rfl).drewN _).cell bx 8 _ rfl
          | exact ((((Turn.refl (fun k => k = bx) w4).cell bx 6 _ rfl).cell bx 7 _ rfl).drewN _)
          | exact ((((Turn.refl (fun k => k = bx) w4).cell bx 6 _ rfl).cell bx 7 _ rfl).cell bx 8 _ rfl).drewN _
      · have h1 := blk_set (blk_set HO4.out 6 (.int .i64 (s.writes + 1))) 7 (.int .i64 (s.used + 1))
        have h2 := blk_set h1 8 (.int .i64 (s.used + 1))
        first
          | (rw [show max s.peak (s.used + 1) = s.used + 1 by omega]; exact h2)
          | (rw [show max s.peak (s.used + 1) = s.peak by omega]; exact h1)
  · refine wpOp_step (o := { dst := some 46, op := .buildSlice 31 0 #[], type := _, pos := _, after := _, guard := none }) (by simp; exact ⟨rfl, rfl, rfl⟩) (fun K hK => step_wp rfl (op_build0 31 5 (.int .u8 0) 1 1 rfl Try.underlying31 inf8 (hK _ _ ⟨q2a, ?_⟩)))
    clear hK K
    go_simp
    refine wpAnyH_all (rs := [12, 15]) (by kernel_rfl) (by simp) (fun j hj => ?_)
    rcases (by simpa using hj : j = 12 ∨ j = 15) with rfl | rfl
    · refine wpOp_step (o := { dst := some 45, op := .load 72 (.tmp 44), type := _, pos := _, after := _, guard := none }) (by simp; exact ⟨rfl, rfl, rfl⟩) (fun K hK => ?_)
      go_simp
      refine hK _ _ ⟨q2a, ?_⟩
      clear hK K
      go_simp
      refine wpAnyH_all (rs := [15]) (by kernel_rfl) (by simp) (fun j hj => ?_)
      obtain rfl := List.mem_singleton.1 hj
      clear hj
      refine wpOp_step (o := { dst := some 48, op := .call { callee := .builtin .append, args := #[.tmp 46, .tmp 47], argTypes := #[31, 31 ] }, type := _, pos := _, after := _, guard := none }) (by simp; exact ⟨rfl, rfl, rfl⟩) (fun K hK => step_wp rfl ?_)
      refine (show Oper.wp _ _ _ (w1.drew.alloc (.cells #[] 5)) _ _ from op_appB (W := (w1.drew.alloc (.cells #[] 5))) w1.heap.size (.tmp 46) (.tmp 47) 31 5 (.int .u8 0) 1 1 rfl Try.underlying31 inf8 rfl (by omega) (by omega) (.slice (some ⟨w1.heap.size, 0, none⟩) 0 0) 0 [] (by go_simp) ad 256 cp (b8 p) (by go_simp) (by rw [List.length_map]; exact HPL.out) A1a.out.2 (by intro u hu; obtain ⟨x, _, rfl⟩ := List.mem_map.1 hu; rfl) (lit_row w1.drew 5 rfl) (by simp) (by omega) ?_)
      intro v2 w2 h2 t2 _
      rw [Nat.zero_add, List.nil_append] at h2
      obtain ⟨A2, c2, rfl⟩ := own_slice h2
      have HB2 : Hid (Below w1.heap.size w1 w2) := below_turn (a := w1) (b := (w1.drew.alloc (.cells #[] 5))) (below_drew0.alloc (Nat.le_refl _) _) t2 (by simp) (fun k hk => by simp [Value.ownBlock] at hk; omega)
      have HR2 := Lib.hid (HP.out.1.turn (Turn.of_below HB2.out (fun _ => False)) (fun _ _ => id))
      have HO2 := Lib.hid h2
      clear h2 t2
      have q2c : w2.cell? ⟨bx, 2, none⟩ = some (.slice (some ⟨g, 0, none⟩) m c) := HR2.out.cells.2.2.1
      have qpc : w2.cell? ⟨g, i * 2 + 1, none⟩ = some (.slice B k d) := by have := (row_file (HMlst _ HR2.out) HI.out).1; dsimp only at this; rw [HEP.out] at this; exact this
      have q2d : (w2.alloc (.cells #[.slice A2 256 c2] 31)).cell? ⟨bx, 2, none⟩ = some (.slice (some ⟨g, 0, none⟩) m c) := (World.cell?_alloc_lt _ _ _ (World.block_lt_of_cell? w2 _ q2c)).trans q2c
      have qpd : (w2.alloc (.cells #[.slice A2 256 c2] 31)).cell? ⟨g, i * 2 + 1, none⟩ = some (.slice B k d) := (World.cell?_alloc_lt _ _ _ (World.block_lt_of_cell? w2 _ qpc)).trans qpc
      refine hK _ _ ⟨q2c, ?_⟩
      clear hK K
      go_simp
      refine wpAnyH_all (rs := [16]) (by kernel_rfl) (by simp) (fun j hj => ?_)
      obtain rfl := List.mem_singleton.1 hj
      clear hj
      refine wpOp_step (o := { dst := some 49, op := .buildSlice 72 1 #[(0, .tmp 48)], type := _, pos := _, after := _, guard := none }) (by simp; exact ⟨rfl, rfl, rfl⟩) (fun K hK => step_wp rfl (op_build1 (.tmp 48) 72 31 (.slice none 0 0) 24 rfl Try.underlying72 infS8 (.slice A2 256 c2) (by go_simp) rfl (hK _ _ ⟨q2d, ?_⟩)))
      clear hK K
      go_simp
      refine wpAnyH_all (rs := [17]) (by kernel_rfl) (by simp) (fun j hj => ?_)
      obtain rfl := List.mem_singleton.1 hj
      clear hj
      refine wpOp_step (o := { dst := some 50, op := .call { callee := .builtin .append, args := #[.tmp 45, .tmp 49], argTypes := #[72, 72 ] }, type := _, pos := _, after := _, guard := none }) (by simp; exact ⟨rfl, rfl, rfl⟩) (fun K hK => step_wp rfl ?_)
      refine (show Oper.wp _ _ _ (w2.alloc (.cells [Value.slice A2 256 c2].toArray 31)) _ _ from op_app1 (W := w2) 0 (.tmp 45) (.tmp 49) 72 31 (.slice none 0 0) 1 24 rfl Try.underlying72 infS8 rfl (by omega) (by omega) (.slice B k d) k (Hd n) [.slice A2 256 c2] (by go_simp) (by go_simp) rfl rfl (by simp [Value.oneCell']) (HPrw _ HR2.out) (Nat.zero_le _) (by omega) ?_)
      intro v3 w3 h3 t3 hor3
      obtain ⟨A3, c3, rfl⟩ := own_slice h3
      have HL3 := Lib.hid (own_turn (HMlst _ HR2.out) t3 (fun j hj e => own_ne (HMlst _ HR2.out) (HPrw _ HR2.out) (by decide) hj e))
      have HO3 := Lib.hid (t3.heap HR2.out.dsk (fun e => HNb.out _ e rfl))
      have q2e : w3.cell? ⟨bx, 2, none⟩ = some (.slice (some ⟨g, 0, none⟩) m c) := cell_of_blk HO3.out 2
      have HF3 := Lib.hid (row_file HL3.out HI.out)
      refine hK _ _ ⟨q2e, ?_⟩
      clear hK K
      go_simp
      refine wpAnyH_take (i := 18) (v := .pointer (some ⟨g, i * 2, none⟩)) rfl (by kernel_rfl) (by kernel_rfl) (by kernel_rfl) (fun _ _ _ h => h) (Or.inl ⟨by rfl, fun w hS => by go_simp⟩) q2e ?_
      refine wpAnyH_take (i := 19) (v := .pointer (some ⟨g, i * 2 + 1, none⟩)) rfl (by kernel_rfl) (by kernel_rfl) (by kernel_rfl) (fun _ _ _ h => h) (Or.inl ⟨by rfl, fun w hS => by go_simp⟩) q2e ?_
      go_simp
      have qp3 := HF3.out.1
      have fp3 := HF3.out.2.1
      dsimp only at qp3
      refine wpAnyH_all (rs := [20]) (by kernel_rfl) (by simp) (fun j hj => ?_)
      obtain rfl := List.mem_singleton.1 hj
      clear hj
      refine wpOp_step (o := { dst := none, op := .store 72 (.tmp 52) (.tmp 50), type := _, pos := _, after := _, guard := none }) (by simp; exact ⟨rfl, rfl, rfl⟩) (fun K hK => ?_)
      go_simp
      have HO4 := Lib.hid (blk_far HO3.out (p := ⟨g, i * 2 + 1, none⟩) HNg.out (.slice A3 (k + 1) c3))
      refine hK _ _ ⟨cell_of_blk HO4.out 2, ?_⟩
      clear hK K
      refine wpAnyH_done (by kernel_rfl) ?_ _
      have HP5 : Hid (∀ W', Turn (fun j => j = bx) (w3.setCell ⟨g, i * 2 + 1, none⟩ (.slice A3 (k + 1) c3)) W' → W'.heap[bx]? = some (rskObj FV (.slice (some ⟨g, 0, none⟩) m c) R ⟨s.made, s.deeds + 1, s.reads, s.writes + 1, s.used + 1, max s.peak (s.used + 1), addPg s.fs n p⟩) → Ch w (XS bx FV (.slice (some ⟨g, 0, none⟩) m c) P Hd s) (XR bx R F ⟨s.made, s.deeds + 1, s.reads, s.writes + 1, s.used + 1, max s.peak (s.used + 1), addPg s.fs n p⟩) W') :=
        xapp_end HX.out HP.out HB2.out (HMlst _ HR2.out) (HPrw _ HR2.out) HO2.out HO3.out h3 t3 hor3 HL3.out HEP.out HNg.out rfl
      clear h3 t3 hor3 qp3 fp3 q2 q2a q2c q2d q2e qp qpa qpc qpd HMlst HPrw below_drew0
      have g6 := cell_of_blk HO4.out 6
      have g7 := cell_of_blk HO4.out 7
      have g8 := cell_of_blk HO4.out 8
      have r6 := free_of_blk HO4.out 6
      have r7 := free_of_blk HO4.out 7
      have r8 := free_of_blk HO4.out 8
      dsimp only [Ds.deed_] at g6 g7 g8
      generalize (w3.setCell ⟨g, i * 2 + 1, none⟩ (.slice A3 (k + 1) c3)) = w4 at HO4 HP5 g6 g7 g8 r6 r7 r8 ⊢
      go_wp2
      go_quiet (fail)
      go_wp2
      all_goals
        go_ret
        refine ⟨by trivial, HP5.out _ ?_ ?_⟩
        · first
            | exact ((((Turn.refl (fun k => k = bx) w4).cell bx 6 _ rfl).cell bx 7 _ rfl).drewN _).cell bx 8 _ rfl
            | exact ((((Turn.refl (fun k => k = bx) w4).cell bx 6 _ rfl).cell bx 7 _ rfl).drewN _)
            | exact ((((Turn.refl (fun k => k = bx) w4).cell bx 6 _ rfl).cell bx 7 _ rfl).cell bx 8 _ rfl).drewN _
        · have h1 := blk_set (blk_set HO4.out 6 (.int .i64 (s.writes + 1))) 7 (.int .i64 (s.used + 1))
          have h2 := blk_set h1 8 (.int .i64 (s.used + 1))
          first
            | (rw [show max s.peak (s.used + 1) = s.used + 1 by omega]; exact h2)
            | (rw [show max s.peak (s.used + 1) = s.peak by omega]; exact h1)
    · refine wpOp_step (o := { dst := some 48, op := .call { callee := .builtin .append, args := #[.tmp 46, .tmp 47], argTypes := #[31, 31 ] }, type := _, pos := _, after := _, guard := none }) (by simp; exact ⟨rfl, rfl, rfl⟩) (fun K hK => step_wp rfl ?_)
      refine (show Oper.wp _ _ _ (w1.drew.alloc (.cells #[] 5)) _ _ from op_appB (W := (w1.drew.alloc (.cells #[] 5))) w1.heap.size (.tmp 46) (.tmp 47) 31 5 (.int .u8 0) 1 1 rfl Try.underlying31 inf8 rfl (by omega) (by omega) (.slice (some ⟨w1.heap.size, 0, none⟩) 0 0) 0 [] (by go_simp) ad 256 cp (b8 p) (by go_simp) (by rw [List.length_map]; exact HPL.out) A1a.out.2 (by intro u hu; obtain ⟨x, _, rfl⟩ := List.mem_map.1 hu; rfl) (lit_row w1.drew 5 rfl) (by simp) (by omega) ?_)
      intro v2 w2 h2 t2 _
      rw [Nat.zero_add, List.nil_append] at h2
      obtain ⟨A2, c2, rfl⟩ := own_slice h2
      have HB2 : Hid (Below w1.heap.size w1 w2) := below_turn (a := w1) (b := (w1.drew.alloc (.cells #[] 5))) (below_drew0.alloc (Nat.le_refl _) _) t2 (by simp) (fun k hk => by simp [Value.ownBlock] at hk; omega)
      have HR2 := Lib.hid (HP.out.1.turn (Turn.of_below HB2.out (fun _ => False)) (fun _ _ => id))
      have HO2 := Lib.hid h2
      clear h2 t2
      have q2c : w2.cell? ⟨bx, 2, none⟩ = some (.slice (some ⟨g, 0, none⟩) m c) := HR2.out.cells.2.2.1
      have qpc : w2.cell? ⟨g, i * 2 + 1, none⟩ = some (.slice B k d) := by have := (row_file (HMlst _ HR2.out) HI.out).1; dsimp only at this; rw [HEP.out] at this; exact this
      have q2d : (w2.alloc (.cells #[.slice A2 256 c2] 31)).cell? ⟨bx, 2, none⟩ = some (.slice (some ⟨g, 0, none⟩) m c) := (World.cell?_alloc_lt _ _ _ (World.block_lt_of_cell? w2 _ q2c)).trans q2c
      have qpd : (w2.alloc (.cells #[.slice A2 256 c2] 31)).cell? ⟨g, i * 2 + 1, none⟩ = some (.slice B k d) := (World.cell?_alloc_lt _ _ _ (World.block_lt_of_cell? w2 _ qpc)).trans qpc
      refine hK _ _ ⟨q2c, ?_⟩
      clear hK K
      go_simp
      refine wpAnyH_all (rs := [12, 16]) (by kernel_rfl) (by simp) (fun j hj => ?_)
      rcases (by simpa using hj : j = 12 ∨ j = 16) with rfl | rfl
      · refine wpOp_step (o := { dst := some 45, op := .load 72 (.tmp 44), type := _, pos := _, after := _, guard := none }) (by simp; exact ⟨rfl, rfl, rfl⟩) (fun K hK => ?_)
        go_simp
        refine hK _ _ ⟨q2c, ?_⟩
        clear hK K
        go_simp
        refine wpAnyH_all (rs := [16]) (by kernel_rfl) (by simp) (fun j hj => ?_)
        obtain rfl := List.mem_singleton.1 hj
        clear hj
        refine wpOp_step (o := { dst := some 49, op := .buildSlice 72 1 #[(0, .tmp 48)], type := _, pos := _, after := _, guard := none }) (by simp; exact ⟨rfl, rfl, rfl⟩) (fun K hK => step_wp rfl (op_build1 (.tmp 48) 72 31 (.slice none 0 0) 24 rfl Try.underlying72 infS8 (.slice A2 256 c2) (by go_simp) rfl (hK _ _ ⟨q2d, ?_⟩)))
        clear hK K
        go_simp
        refine wpAnyH_all (rs := [17]) (by kernel_rfl) (by simp) (fun j hj => ?_)
        obtain rfl := List.mem_singleton.1 hj
        clear hj
        refine wpOp_step (o := { dst := some 50, op := .call { callee := .builtin .append, args := #[.tmp 45, .tmp 49], argTypes := #[72, 72 ] }, type := _, pos := _, after := _, guard := none }) (by simp; exact ⟨rfl, rfl, rfl⟩) (fun K hK => step_wp rfl ?_)
        refine (show Oper.wp _ _ _ (w2.alloc (.cells [Value.slice A2 256 c2].toArray 31)) _ _ from op_app1 (W := w2) 0 (.tmp 45) (.tmp 49) 72 31 (.slice none 0 0) 1 24 rfl Try.underlying72 infS8 rfl (by omega) (by omega) (.slice B k d) k (Hd n) [.slice A2 256 c2] (by go_simp) (by go_simp) rfl rfl (by simp [Value.oneCell']) (HPrw _ HR2.out) (Nat.zero_le _) (by omega) ?_)
        intro v3 w3 h3 t3 hor3
        obtain ⟨A3, c3, rfl⟩ := own_slice h3
        have HL3 := Lib.hid (own_turn (HMlst _ HR2.out) t3 (fun j hj e => own_ne (HMlst _ HR2.out) (HPrw _ HR2.out) (by decide) hj e))
        have HO3 := Lib.hid (t3.heap HR2.out.dsk (fun e => HNb.out _ e rfl))
        have q2e : w3.cell? ⟨bx, 2, none⟩ = some (.slice (some ⟨g, 0, none⟩) m c) := cell_of_blk HO3.out 2
        have HF3 := Lib.hid (row_file HL3.out HI.out)
        refine hK _ _ ⟨q2e, ?_⟩
        clear hK K
        go_simp
        refine wpAnyH_take (i := 18) (v := .pointer (some ⟨g, i * 2, none⟩)) rfl (by kernel_rfl) (by kernel_rfl) (by kernel_rfl) (fun _ _ _ h => h) (Or.inl ⟨by rfl, fun w hS => by go_simp⟩) q2e ?_
        refine wpAnyH_take (i := 19) (v := .pointer (some ⟨g, i * 2 + 1, none⟩)) rfl (by kernel_rfl) (by kernel_rfl) (by kernel_rfl) (fun _ _ _ h => h) (Or.inl ⟨by rfl, fun w hS => by go_simp⟩) q2e ?_
        go_simp
        have qp3 := HF3.out.1
        have fp3 := HF3.out.2.1
        dsimp only at qp3
        refine wpAnyH_all (rs := [20]) (by kernel_rfl) (by simp) (fun j hj => ?_)
        obtain rfl := List.mem_singleton.1 hj
        clear hj
        refine wpOp_step (o := { dst := none, op := .store 72 (.tmp 52) (.tmp 50), type := _, pos := _, after := _, guard := none }) (by simp; exact ⟨rfl, rfl, rfl⟩) (fun K hK => ?_)
        go_simp
        have HO4 := Lib.hid (blk_far HO3.out (p := ⟨g, i * 2 + 1, none⟩) HNg.out (.slice A3 (k + 1) c3))
        refine hK _ _ ⟨cell_of_blk HO4.out 2, ?_⟩
        clear hK K
        refine wpAnyH_done (by kernel_rfl) ?_ _
        have HP5 : Hid (∀ W', Turn (fun j => j = bx) (w3.setCell ⟨g, i * 2 + 1, none⟩ (.slice A3 (k + 1) c3)) W' → W'.heap[bx]? = some (rskObj FV (.slice (some ⟨g, 0, none⟩) m c) R ⟨s.made, s.deeds + 1, s.reads, s.writes + 1, s.used + 1, max s.peak (s.used + 1), addPg s.fs n p⟩) → Ch w (XS bx FV (.slice (some ⟨g, 0, none⟩) m c) P Hd s) (XR bx R F ⟨s.made, s.deeds + 1, s.reads, s.writes + 1, s.used + 1, max s.peak (s.used + 1), addPg s.fs n p⟩) W') :=
          xapp_end HX.out HP.out HB2.out (HMlst _ HR2.out) (HPrw _ HR2.out) HO2.out HO3.out h3 t3 hor3 HL3.out HEP.out HNg.out rfl
        clear h3 t3 hor3 qp3 fp3 q2 q2a q2c q2d q2e qp qpa qpc qpd HMlst HPrw below_drew0
        have g6 := cell_of_blk HO4.out 6
        have g7 := cell_of_blk HO4.out 7
        have g8 := cell_of_blk HO4.out 8
        have r6 := free_of_blk HO4.out 6
        have r7 := free_of_blk HO4.out 7
        have r8 := free_of_blk HO4.out 8
        dsimp only [Ds.deed_] at g6 g7 g8
        generalize (w3.setCell ⟨g, i * 2 + 1, none⟩ (.slice A3 (k + 1) c3)) = w4 at HO4 HP5 g6 g7 g8 r6 r7 r8 ⊢
        go_wp2
        go_quiet (fail)
        go_wp2
        all_goals
          go_ret
          refine ⟨by trivial, HP5.out _ ?_ ?_⟩
          · first
              | exact ((((Turn.refl (fun k => k = bx) w4).cell bx 6 _ rfl).cell bx 7 _ rfl).drewN _).cell bx 8 _ rfl
              | exact ((((Turn.refl (fun k => k = bx) w4).cell bx 6 _ rfl).cell bx 7 _ rfl).drewN _)
              | exact ((((Turn.refl (fun k => k = bx) w4).cell bx 6 _ rfl).cell bx 7 _ rfl).cell bx 8 _ rfl).drewN _
          · have h1 := blk_set (blk_set HO4.out 6 (.int .i64 (s.writes + 1))) 7 (.int .i64 (s.used + 1))
            have h2 := blk_set h1 8 (.int .i64 (s.used + 1))
            first
              | (rw [show max s.peak (s.used + 1) = s.used + 1 by omega]; exact h2)
              | (rw [show max s.peak (s.used + 1) = s.peak by omega]; exact h1)
      · refine wpOp_step (o := { dst := some 49, op := .buildSlice 72 1 #[(0, .tmp 48)], type := _, pos := _, after := _, guard := none }) (by simp; exact ⟨rfl, rfl, rfl⟩) (fun K hK => step_wp rfl (op_build1 (.tmp 48) 72 31 (.slice none 0 0) 24 rfl Try.underlying72 infS8 (.slice A2 256 c2) (by go_simp) rfl (hK _ _ ⟨q2d, ?_⟩)))
        clear hK K
        go_simp
        refine wpAnyH_all (rs := [12]) (by kernel_rfl) (by simp) (fun j hj => ?_)
        obtain rfl := List.mem_singleton.1 hj
        clear hj
        refine wpOp_step (o := { dst := some 45, op := .load 72 (.tmp 44), type := _, pos := _, after := _, guard := none }) (by simp; exact ⟨rfl, rfl, rfl⟩) (fun K hK => ?_)
        go_simp
        refine hK _ _ ⟨q2d, ?_⟩
        clear hK K
        go_simp
        refine wpAnyH_all (rs := [17]) (by kernel_rfl) (by simp) (fun j hj => ?_)
        obtain rfl := List.mem_singleton.1 hj
        clear hj
        refine wpOp_step (o := { dst := some 50, op := .call { callee := .builtin .append, args := #[.tmp 45, .tmp 49], argTypes := #[72, 72 ] }, type := _, pos := _, after := _, guard := none }) (by simp; exact ⟨rfl, rfl, rfl⟩) (fun K hK => step_wp rfl ?_)
        refine (show Oper.wp _ _ _ (w2.alloc (.cells [Value.slice A2 256 c2].toArray 31)) _ _ from op_app1 (W := w2) 0 (.tmp 45) (.tmp 49) 72 31 (.slice none 0 0) 1 24 rfl Try.underlying72 infS8 rfl (by omega) (by omega) (.slice B k d) k (Hd n) [.slice A2 256 c2] (by go_simp) (by go_simp) rfl rfl (by simp [Value.oneCell']) (HPrw _ HR2.out) (Nat.zero_le _) (by omega) ?_)
        intro v3 w3 h3 t3 hor3
        obtain ⟨A3, c3, rfl⟩ := own_slice h3
        have HL3 := Lib.hid (own_turn (HMlst _ HR2.out) t3 (fun j hj e => own_ne (HMlst _ HR2.out) (HPrw _ HR2.out) (by decide) hj e))
        have HO3 := Lib.hid (t3.heap HR2.out.dsk (fun e => HNb.out _ e rfl))
        have q2e : w3.cell? ⟨bx, 2, none⟩ = some (.slice (some ⟨g, 0, none⟩) m c) := cell_of_blk HO3.out 2
        have HF3 := Lib.hid (row_file HL3.out HI.out)
        refine hK _ _ ⟨q2e, ?_⟩
        clear hK K
        go_simp
        refine wpAnyH_take (i := 18) (v := .pointer (some ⟨g, i * 2, none⟩)) rfl (by kernel_rfl) (by kernel_rfl) (by kernel_rfl) (fun _ _ _ h => h) (Or.inl ⟨by rfl, fun w hS => by go_simp⟩) q2e ?_
        refine wpAnyH_take (i := 19) (v := .pointer (some ⟨g, i * 2 + 1, none⟩)) rfl (by kernel_rfl) (by kernel_rfl) (by kernel_rfl) (fun _ _ _ h => h) (Or.inl ⟨by rfl, fun w hS => by go_simp⟩) q2e ?_
        go_simp
        have qp3 := HF3.out.1
        have fp3 := HF3.out.2.1
        dsimp only at qp3
        refine wpAnyH_all (rs := [20]) (by kernel_rfl) (by simp) (fun j hj => ?_)
        obtain rfl := List.mem_singleton.1 hj
        clear hj
        refine wpOp_step (o := { dst := none, op := .store 72 (.tmp 52) (.tmp 50), type := _, pos := _, after := _, guard := none }) (by simp; exact ⟨rfl, rfl, rfl⟩) (fun K hK => ?_)
        go_simp
        have HO4 := Lib.hid (blk_far HO3.out (p := ⟨g, i * 2 + 1, none⟩) HNg.out (.slice A3 (k + 1) c3))
        refine hK _ _ ⟨cell_of_blk HO4.out 2, ?_⟩
        clear hK K
        refine wpAnyH_done (by kernel_rfl) ?_ _
        have HP5 : Hid (∀ W', Turn (fun j => j = bx) (w3.setCell ⟨g, i * 2 + 1, none⟩ (.slice A3 (k + 1) c3)) W' → W'.heap[bx]? = some (rskObj FV (.slice (some ⟨g, 0, none⟩) m c) R ⟨s.made, s.deeds + 1, s.reads, s.writes + 1, s.used + 1, max s.peak (s.used + 1), addPg s.fs n p⟩) → Ch w (XS bx FV (.slice (some ⟨g, 0, none⟩) m c) P Hd s) (XR bx R F ⟨s.made, s.deeds + 1, s.reads, s.writes + 1, s.used + 1, max s.peak (s.used + 1), addPg s.fs n p⟩) W') :=
          xapp_end HX.out HP.out HB2.out (HMlst _ HR2.out) (HPrw _ HR2.out) HO2.out HO3.out h3 t3 hor3 HL3.out HEP.out HNg.out rfl
        clear h3 t3 hor3 qp3 fp3 q2 q2a q2c q2d q2e qp qpa qpc qpd HMlst HPrw below_drew0
        have g6 := cell_of_blk HO4.out 6
        have g7 := cell_of_blk HO4.out 7
        have g8 := cell_of_blk HO4.out 8
        have r6 := free_of_blk HO4.out 6
        have r7 := free_of_blk HO4.out 7
        have r8 := free_of_blk HO4.out 8
        dsimp only [Ds.deed_] at g6 g7 g8
        generalize (w3.setCell ⟨g, i * 2 + 1, none⟩ (.slice A3 (k + 1) c3)) = w4 at HO4 HP5 g6 g7 g8 r6 r7 r8 ⊢
        go_wp2
        go_quiet (fail)
        go_wp2
        all_goals
          go_ret
          refine ⟨by trivial, HP5.out _ ?_ ?_⟩
          · first
              | exact ((((Turn.refl (fun k => k = bx) w4).cell bx 6 _ rfl).cell bx 7 _ rfl).drewN _).cell bx 8 _ rfl
              | exact ((((Turn.refl (fun k => k = bx) w4).cell bx 6 _ rfl).cell bx 7 _ rfl).drewN _)
              | exact ((((Turn.refl (fun k => k = bx) w4).cell bx 6 _ rfl).cell bx 7 _ rfl).cell bx 8 _ rfl).drewN _
          · have h1 := blk_set (blk_set HO4.out 6 (.int .i64 (s.writes + 1))) 7 (.int .i64 (s.used + 1))
            have h2 := blk_set h1 8 (.int .i64 (s.used + 1))
            first
              | (rw [show max s.peak (s.used + 1) = s.used + 1 by omega]; exact h2)
              | (rw [show max s.peak (s.used + 1) = s.peak by omega]; exact h1)
end
end Go.Proofs.Ytagknfjgokiidaa
