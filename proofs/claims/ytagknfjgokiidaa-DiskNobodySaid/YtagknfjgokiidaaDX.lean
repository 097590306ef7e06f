/- the disk: Page; the calls beside a frame. -/
import Derived.Test.YtagknfjgokiidaaDV
namespace Go.Proofs.Ytagknfjgokiidaa
open Go.RowKit Go.Maps
set_option linter.unusedVariables false
set_option linter.unusedSimpArgs false
set_option maxRecDepth 6000

theorem mk_one (z : Value) (n : Nat) : madeCells #[z] n = (List.replicate n z).toArray := by
  apply Array.ext
  · simp [madeCells]
  · intro i h1 h2
    simp [madeCells, Nat.mod_one]
theorem wp_mkN {P : Program} {W : World} {ops : Array Oper} {rest : List Oper} {o : Oper} {a : Act} {Q : Exit → Act → World → Prop} (hg : o.guard = none) (l : Operand) (t e : TypeId) (z : Value) (bytes : Nat) (hop : o.op = Op.makeSlice t l l)
    (ht : P.underlying t = some (.slice e)) (hinfo : (P.info? e).map (fun i => (i.zero, i.size, i.bytes)) = some (some z, 1, bytes)) (hz : z.cells = #[z]) (F : Nat) (hl : a.eval l = .int .i64 (F : Int)) (hF : bytes * F ≤ 281474976710656) (hF2 : F ≤ 281474976710656)
    (hK : ∀ W', W'.heap[W.heap.size]? = some (.cells (List.replicate F z).toArray e (0, 0)) → Below W.heap.size W W' → wpList P ops Q rest (a.put o.dst (.slice (some ⟨W.heap.size, 0, none⟩) F F)) W') : wpList P ops Q (o :: rest) a W := by
  obtain ⟨i, hi, hz0, hz1, hz2⟩ := info_parts hinfo
  refine wpList_plain hg fun K hK' => ?_
  have hb : (i.bytes : Int) * (F : Int) ≤ 281474976710656 := by
    rw [hz2]
    have h : ((bytes * F : Nat) : Int) ≤ 281474976710656 := by omega
    rwa [Int.natCast_mul] at h
  have hrun := run_make (P := P) W t e i z ht hi hz0 .i64 .i64 (F : Int) (F : Int) (by omega) (Int.le_refl _) hb (by omega)
  rw [hz1, hz, Int.toNat_natCast, Nat.mul_one, mk_one] at hrun
  unfold Oper.wp execOp
  simp only [hop, hl, hrun, Sem.run_bind, Sem.run_pure, Result.andThen_ok]
  exact hK' _ _ (hK _ (heap_alloc_new _ _) ((Below.refl _ _).alloc (Nat.le_refl _) _))
def pgCells (c : Int) (i : Nat) : List Value := List.replicate i (.int .u8 c) ++ List.replicate (256 - i) (.int .u8 0)
theorem pgCells_get (c : Int) {i : Nat} (h : i < 256) : (pgCells c i)[i]? = some (.int .u8 0) := by
  unfold pgCells
  rw [List.getElem?_append_right (by simp), List.length_replicate, Nat.sub_self, List.getElem?_replicate, if_pos (by omega)]
theorem pgCells_set (c : Int) {i : Nat} (h : i < 256) : (pgCells c i).toArray.setIfInBounds i (.int .u8 c) = (pgCells c (i + 1)).toArray := by
  rw [List.setIfInBounds_toArray]
  congr 1
  unfold pgCells
  rw [List.set_append_right _ _ (by simp)]
  simp only [List.length_replicate, Nat.sub_self]
  rw [show 256 - i = (256 - (i + 1)) + 1 by omega, List.replicate_succ, List.set_cons_zero, List.replicate_succ', List.append_assoc]
  rfl
theorem page_walk (w : World) (c : Int) : Calls Try.prog 17 #[.int .u8 c] w fun e w' => e = .returned (.slice (some ⟨w.heap.size, 0, none⟩) 256 256) ∧ w'.ownsRow w.heap.size 5 1 (.slice (some ⟨w.heap.size, 0, none⟩) 256 256) 256 (b8 (List.replicate 256 c)) ∧ Below w.heap.size w w' := by
  have info8 := inf8
  go_enter Try.func17, Try.ntmps17
  go_wp2_with (at_make; refine wp_mkN rfl (.const (.int .i64 256)) 31 5 (.int .u8 0) 1 rfl Try.underlying31 info8 rfl 256 rfl (by omega) (by omega) ?_; intro w1 h0 b0; have h0 : Hid (w1.heap[w.heap.size]? = some (.cells (pgCells c 0).toArray 5 (0, 0))) := h0; have b0 := Lib.hid b0)
  clear info8
  go_loopw [4] (fun y wr => ∃ i : Nat, i ≤ 256 ∧ y = .int .i64 (i : Int) ∧ Hid (wr.heap[w.heap.size]? = some (.cells (pgCells c i).toArray 5 (0, 0))) ∧ Hid (Below w.heap.size w wr)) (fun y _ => 256 - (intOf y).toNat)
  case atStart => exact ⟨0, by omega, rfl, h0, b0⟩
  case round =>
    clear h0 b0
    obtain ⟨i, hi, rfl, HC, HB⟩ := hrel
    by_cases hlt : i < 256
    · have c0 : wr.cell? ⟨w.heap.size, i, none⟩ = some (.int .u8 0) := by
        rw [cell_of_blk HC.out i, List.getElem?_toArray]
        exact pgCells_get c hlt
      have f0 := free_of_blk HC.out i
      have HC2 : Hid ((wr.setCell ⟨w.heap.size, i, none⟩ (.int .u8 c)).heap[w.heap.size]? = some (.cells (pgCells c (i + 1)).toArray 5 (0, 0))) := by
        have := blk_set HC.out i (.int .u8 c)
        rw [pgCells_set c hlt] at this
        exact this
      have HB2 : Hid (Below w.heap.size w (wr.setCell ⟨w.heap.size, i, none⟩ (.int .u8 c))) := HB.out.setCell (by simp) _
      clear HC HB
      go_wp2
      go_roundw
      case measure => simp [intOf]; omega
      exact ⟨i + 1, by omega, by go_num, HC2, HB2⟩
    · obtain rfl : i = 256 := by omega
      go_wp2
      go_ret
      refine ⟨rfl, ?_, HB.out⟩
      have := HC.out
      exact ⟨by simp, .inr ⟨w.heap.size, 256, _, rfl, Nat.le_refl _, this, Nat.le_refl _, by simp [maxLen], by simp [pgCells], by simp [pgCells]⟩⟩
section
variable {w0 w : World} {Fr : Res} {bd : Nat} {R : Int} {F : List Int} {s : Ds}
theorem v_create (g : Good Fr) (H : In w0 w (star (DR bd R F s) Fr)) (K : DOk R s) (hm : s.made ≤ 1000000000) :
    Calls Try.prog 15 #[dp bd] w fun e w' => e = .returned (.tuple #[.int .i64 (if s.createE = 0 then s.made + 1 else 0), .int .i64 s.createE]) ∧ In w0 w' (star (DR bd R F s.create) Fr) :=
  H.call1 g fun S hS => d_create hS K hm
theorem v_del (g : Good Fr) (H : In w0 w (star (DR bd R F s) Fr)) (K : DOk R s) {n : Int} (hw : (Lit.int .i64 n).wf = true) :
    Calls Try.prog 18 #[dp bd, .int .i64 n] w fun e w' => e = .returned (.int .i64 (s.delE n)) ∧ In w0 w' (star (DR bd R F (s.del n)) Fr) :=
  H.call1 g fun S hS => d_del hS K hw
/-- The bytes stand in the frame. -/
theorem v_app {A : Option Addr} {k c : Nat} {p : Pg} {n : Int} (g : Good Fr) (H : In w0 w (star (DR bd R F s) (star (rowR 5 1 (.slice A k c) k (b8 p)) Fr))) (K : DOk R s) (hd : s.deeds ≤ 1000000000) (hw : (Lit.int .i64 n).wf = true) :
    Calls Try.prog 16 #[dp bd, .int .i64 n, .slice A k c] w fun e w' => e = .returned (.int .i64 (s.appE R F n p)) ∧ In w0 w' (star (DR bd R F (s.app R F n p)) (star (rowR 5 1 (.slice A k c) k (b8 p)) Fr)) := by
  refine H.callF1 (star_good (rowR_good _ _ _ _ _) g) fun S1 S2 h1 h2 hd2 _ => ?_
  obtain ⟨T1, T2, ⟨ho, rfl⟩, h4, hd3, hs⟩ := h2
  exact d_app h1 K hd hw (RdBy.of_own ho) (fun ad e hS => hd2 _ hS ((hs _).2 (.inl (by rw [e]; rfl))))
/-- The bytes lie below. -/
theorem v_app0 {A : Option Addr} {k c : Nat} {p : Pg} {n : Int} (g : Good Fr) (H : In w0 w (star (DR bd R F s) Fr)) (K : DOk R s) (hd : s.deeds ≤ 1000000000) (hw : (Lit.int .i64 n).wf = true) (hp : RdBy w0 A k p) :
    Calls Try.prog 16 #[dp bd, .int .i64 n, .slice A k c] w fun e w' => e = .returned (.int .i64 (s.appE R F n p)) ∧ In w0 w' (star (DR bd R F (s.app R F n p)) Fr) := by
  refine H.callF1 g fun S1 S2 h1 h2 hd2 hge => ?_
  by_cases hk : 0 < k
  · obtain ⟨ad, rfl, ha⟩ := hp.2 hk
    refine d_app h1 K hd hw (hp.below H.bel) (fun ad' e hS => ?_)
    injection e with e
    subst e
    have := hge _ hS
    have := ha.1
    omega
  · obtain ⟨bm, bf, V, h, rfl⟩ := h1
    have e : s.appE R F n p = 1 := by unfold Ds.appE; exact if_pos (by rw [hp.1]; omega)
    have e2 : s.app R F n p = s := by unfold Ds.app; rw [e, if_neg (by decide), if_neg (by decide)]
    rw [e, e2]
    refine (dapp_arg h hw (by omega)).mono ?_
    rintro e w' ⟨rfl, rfl⟩
    exact ⟨rfl, Ch.same (DR_good _ _ _ _) ⟨_, _, _, h, rfl⟩ (Below.refl _ _)⟩
theorem v_read {n i : Int} (g : Good Fr) (H : In w0 w (star (DR bd R F s) Fr)) (K : DOk R s) (hd : s.deeds ≤ 1000000000) (hw : (Lit.int .i64 n).wf = true) :
    Calls Try.prog 20 #[dp bd, .int .i64 n, .int .i64 i] w fun e w' => ∃ v : Option Addr × Nat × Nat, e = .returned (.tuple #[.slice v.1 v.2.1 v.2.2, .int .i64 (s.readE F n i)]) ∧ In w0 w' (star (DR bd R F (s.read F n i)) (star (rowR 5 1 (.slice v.1 v.2.1 v.2.2) v.2.1 (b8 (s.readQ F n i))) Fr)) := by
  refine (H.call g (Q := fun (v : Option Addr × Nat × Nat) e => e = .returned (.tuple #[.slice v.1 v.2.1 v.2.2, .int .i64 (s.readE F n i)])) fun S hS => d_read hS K hd hw).mono ?_
  rintro e w' ⟨v, h1, h2⟩
  exact ⟨v, h1, h2.assoc⟩
theorem v_size {n : Int} (g : Good Fr) (H : In w0 w (star (DR bd R F s) Fr)) (hw : (Lit.int .i64 n).wf = true) :
    Calls Try.prog 19 #[dp bd, .int .i64 n] w fun e w' => e = .returned (.tuple #[.int .i64 ((s.find n).elim 0 fun l => (l.length : Int)), .int .i64 (if (s.find n).isSome then 0 else 4)]) ∧ w' = w :=
  H.left.get fun S h1 => d_size h1 hw
theorem v_deeds (g : Good Fr) (H : In w0 w (star (DR bd R F s) Fr)) : Calls Try.prog 22 #[dp bd] w fun e w' => e = .returned (.int .i64 s.deeds) ∧ w' = w :=
  H.left.get fun S h1 => d_deeds h1
theorem v_meter (g : Good Fr) (H : In w0 w (star (DR bd R F s) Fr)) : Calls Try.prog 21 #[dp bd] w fun e w' => e = .returned (mtr s) ∧ Below w.heap.size w w' ∧ In w0 w' (star (DR bd R F s) Fr) :=
  H.left.get fun S h1 => (d_meter h1).mono fun e w' h => ⟨h.1, h.2, H.below (star_good (DR_good _ _ _ _) g) h.2⟩
theorem v_files (g : Good Fr) (H : In w0 w (star (DR bd R F s) Fr)) (K : DOk R s) : Calls Try.prog 23 #[dp bd] w fun e w' => ∃ A c, e = .returned (.slice A s.fs.length c) ∧ In w0 w' (star (DR bd R F s) (star (rowR 3 1 (.slice A s.fs.length c) s.fs.length (s.fs.map fun x => Value.int .i64 x.1)) Fr)) :=
  H.left.get fun S h1 => (d_files h1 K).mono fun e w' ⟨A, c, e1, ho, b⟩ => ⟨A, c, e1, ((H.row (star_good (DR_good _ _ _ _) g) b ho).assoc).imp fun S h => star_mono h (fun _ => id) (fun _ => star_comm)⟩
end
end Go.Proofs.Ytagknfjgokiidaa
