/- the reader: a value. -/
import Derived.Test.YtlldkdhpilcilaaRdrA
import Derived.Laws.BitsAllLaws
namespace Go.Proofs.Ytlldkdhpilcilaa
open Go.RowKit
set_option linter.unusedVariables false
set_option linter.unusedSimpArgs false

def ValPost (w : World) (b : Nat) (ad : Addr) (bs : List Int) (n c a : Nat) (e : Ending) (w' : World) : Prop :=
  e = .returned (valS bs n a).1.val ∧ Rdg w' b ad bs n c (valS bs n a).2.1 ((valS bs n a).2.2 || !vOk (valS bs n a).1) ∧ Turn (fun i => i = b) w w'
theorem vcells {w : World} {g : Nat} {k n : Int} {s : ByteArray} (h : w.heap[g]? = some (.cells #[.int .i64 k, .int .i64 n, .string s] 76)) :
    w.cell? ⟨g, 0, none⟩ = some (.int .i64 k) ∧ w.cell? ⟨g, 1, none⟩ = some (.int .i64 n) ∧ w.cell? ⟨g, 2, none⟩ = some (.string s) ∧ w.frozen? ⟨g, 0, none⟩ = false ∧ w.frozen? ⟨g, 1, none⟩ = false ∧ w.frozen? ⟨g, 2, none⟩ = false :=
  ⟨cell_of_blk h 0, cell_of_blk h 1, cell_of_blk h 2, free_of_blk h 0, free_of_blk h 1, free_of_blk h 2⟩
theorem rcells {w : World} {b n c a : Nat} {ad : Addr} {bs : List Int} {bad : Bool} (R : Rdg w b ad bs n c a bad) : w.cell? ⟨b, 2, none⟩ = some (.bool bad) ∧ w.frozen? ⟨b, 2, none⟩ = false ∧ b < w.heap.size :=
  ⟨cell_of_blk R.at_ 2, free_of_blk R.at_ 2, lt_of_heap R.at_⟩
theorem Rd1.blt {w : World} {b n c a : Nat} {ad : Addr} {bs : List Int} {bad : Bool} (R : Rdg w b ad bs n c a bad) (h0 : 0 < n) : ad.block < w.heap.size := by
  obtain ⟨ad', e, h, _⟩ := R.rd.2.2 h0
  obtain rfl := Option.some.inj e
  exact h
theorem vcheck0 (k n : Int) (w : World) : Calls Try.prog 70 #[.agg #[.int .i64 k, .int .i64 n, .string ⟨#[]⟩]] w (VPost ⟨k, n, ⟨#[]⟩⟩ w) := vcheck ⟨k, n, ⟨#[]⟩⟩ w (by
  have : (⟨#[]⟩ : ByteArray).size = 0 := rfl
  show (⟨#[]⟩ : ByteArray).size ≤ _
  omega)
theorem vErr_ne (v : V) : (vErr v != 0) = !vOk v := by
  unfold vErr
  cases vOk v <;> rfl
theorem val_end {w w4 : World} {b n c a1 : Nat} {ad : Addr} {bs : List Int} {bad0 : Bool} (R : Rdg w4 b ad bs n c a1 bad0) (t : Turn (fun i => i = b) w w4) (g : w4.heap[w.heap.size]? = some (.cells #[.int .i64 0, .int .i64 0, .string ⟨#[]⟩] 76))
    (hb : ¬ b = w.heap.size) (ha : ad.block < w.heap.size) (B : Bool) (x y : Int) (s : ByteArray) :
    ((((w4.setCell ⟨b, 2, none⟩ (.bool B)).setCell ⟨w.heap.size, 0, none⟩ (.int .i64 x)).setCell ⟨w.heap.size, 1, none⟩ (.int .i64 y)).setCell ⟨w.heap.size, 2, none⟩ (.string s)).heap[w.heap.size]? = some (.cells #[.int .i64 x, .int .i64 y, .string s] 76 (0, 0)) ∧
    Rdg ((((w4.setCell ⟨b, 2, none⟩ (.bool B)).setCell ⟨w.heap.size, 0, none⟩ (.int .i64 x)).setCell ⟨w.heap.size, 1, none⟩ (.int .i64 y)).setCell ⟨w.heap.size, 2, none⟩ (.string s)) b ad bs n c a1 B ∧
    Turn (fun i => i = b) w ((((w4.setCell ⟨b, 2, none⟩ (.bool B)).setCell ⟨w.heap.size, 0, none⟩ (.int .i64 x)).setCell ⟨w.heap.size, 1, none⟩ (.int .i64 y)).setCell ⟨w.heap.size, 2, none⟩ (.string s)) := by
  have tb : ∀ W : World, Turn (fun i => i = w.heap.size) W (((W.setCell ⟨w.heap.size, 0, none⟩ (.int .i64 x)).setCell ⟨w.heap.size, 1, none⟩ (.int .i64 y)).setCell ⟨w.heap.size, 2, none⟩ (.string s)) := fun W => (((Turn.refl (fun i => i = w.heap.size) W).setCell (.inl rfl) _).setCell (.inl rfl) _).setCell (.inl rfl) _
  have ta : Turn (fun i => i = b) w4 (w4.setCell ⟨b, 2, none⟩ (.bool B)) := (Turn.refl (fun i => i = b) w4).setCell (.inl rfl) _
  refine ⟨?_, ?_, ?_⟩
  · have := blk_set (blk_set (blk_set (blk_far g (p := ⟨b, 2, none⟩) (fun e => hb e.symm) (.bool B)) 0 (.int .i64 x)) 1 (.int .i64 y)) 2 (.string s)
    exact this
  · refine ⟨(R.rd.turn ta (fun a e => by obtain rfl := Option.some.inj e; exact R.ne)).turn (tb _) (fun a e => by obtain rfl := Option.some.inj e; omega), R.isb, R.ne, ?_, R.le, R.cap, R.c64, R.n5⟩
    exact (tb _).heap (blk_set R.at_ 2 (.bool B)) hb
  · exact (t.trans ta).then_ (tb _) (fun k hk => .inr (by omega))
set_option maxHeartbeats 400000 in
theorem value_other {w : World} {b n c a : Nat} {ad : Addr} (bs : List Int) (R : Rdg w b ad bs n c a false) (h0 : 0 < n) (h1 : ¬ (byteS bs n a false).1 = 1) (h2 : ¬ (byteS bs n a false).1 = 2) (h3 : ¬ (byteS bs n a false).1 = 3) :
    Calls Try.prog 74 #[.pointer (some ⟨b, 0, none⟩)] w (ValPost w b ad bs n c a) := by
  have HS : valS bs n a = (⟨(byteS bs n a false).1, 0, ⟨#[]⟩⟩, (byteS bs n a false).2) := by unfold valS; simp only [h1, h2, h3, if_false]
  unfold ValPost
  rw [HS]
  have R0 := R.below ((Below.refl _ w).alloc (Nat.le_refl _) (.cells #[.int .i64 0, .int .i64 0, .string ⟨#[]⟩] 76))
  have T0 := Lib.hid ((Turn.refl (fun i => i = b) w).alloc (.cells #[.int .i64 0, .int .i64 0, .string ⟨#[]⟩] 76))
  have g0 := Lib.hid (heap_alloc_new w (.cells #[.int .i64 0, .int .i64 0, .string ⟨#[]⟩] 76))
  have hbw : ¬ b = w.heap.size := by have := lt_of_heap R.at_; omega
  have HB := Lib.hid (byte_any bs R0)
  clear R0
  obtain ⟨xx, hxx⟩ : ∃ xx, xx = byteS bs n a false := ⟨_, rfl⟩
  rw [← hxx] at h1 h2 h3 HB ⊢
  obtain ⟨x, a1, bad1⟩ := xx
  simp only at h1 h2 h3 HB ⊢
  have HA := Rd1.blt R h0
  clear hxx R HS
  go_enter Try.func74, Try.ntmps74
  have ha : ad.block < w.heap.size := HA
  go_wp2_with (first
    | (exfalso; omega)
    | (go_at_call 73; refine HB.out.mono ?_; rintro e w1 ⟨x, rfl, hx5, rfl, R1, t1⟩; have HR1 := Lib.hid R1; have g1 := Lib.hid (t1.heap g0.out (fun e => hbw e.symm)); have t2 := Lib.hid (T0.out.trans t1); obtain ⟨c2, f2, hb⟩ := rcells R1; obtain ⟨r0, r1, r2, r3, r4, r5⟩ := vcells g1.out; have hr1 := lt_of_heap g1.out; clear R1 t1; cases bad1)
    | (go_at_call 70; refine (vcheck0 x 0 _).mono ?_; rintro e w4 ⟨rfl, b4⟩; have g4 := Lib.hid (blk_below (heap_alloc_new w1 _) b4 (by simp)); obtain ⟨p0, p1, p2, p3, p4, p5⟩ := vcells g4.out; have HR4 := Lib.hid ((HR1.out.below ((Below.refl _ w1).alloc (Nat.le_refl _) _)).below b4); have g5 := Lib.hid (blk_below (blk_alloc g1.out _) b4 (lt_of_heap (blk_alloc g1.out _))); have t5 := Lib.hid ((t2.out.alloc _).trans (Turn.of_below b4 _)); obtain ⟨c4, f4, hb4⟩ := rcells HR4.out; obtain ⟨s0, s1, s2, s3, s4, s5⟩ := vcells g5.out))
  · have E := val_end HR4.out t5.out g5.out hbw ha (vErr ⟨x, 0, ⟨#[]⟩⟩ != 0) x 0 ⟨#[]⟩
    exact ⟨rfl, _, results_cell_row (p := 2) (ty := 76) rfl _ _ w.heap.size 76 _ (0, 0) _ rfl E.1 Try.underlying76 rfl (by kernel_rfl), rfl, by rw [Bool.false_or, ← vErr_ne]; exact E.2.1, E.2.2⟩
  · have E := val_end HR1.out t2.out g1.out hbw ha true x 0 ⟨#[]⟩
    exact ⟨rfl, _, results_cell_row (p := 2) (ty := 76) rfl _ _ w.heap.size 76 _ (0, 0) _ rfl (blk_alloc E.1 _) Try.underlying76 rfl (by kernel_rfl), rfl, by rw [Bool.true_or]; exact E.2.1.below ((Below.refl _ _).alloc (Nat.le_refl _) _), E.2.2.alloc _⟩
end Go.Proofs.Ytlldkdhpilcilaa
namespace Go.Proofs.Ytlldkdhpilcilaa
open Go.RowKit
set_option linter.unusedVariables false
set_option linter.unusedSimpArgs false

abbrev vcs (k n : Int) (s : ByteArray) : Obj := .cells #[.int .i64 k, .int .i64 n, .string s] 76
/-- In the midst of value: block q holds the value, the cell of the result lies ahead. -/
structure Mid5 (w w2 : World) (q b : Nat) (ad : Addr) (bs : List Int) (n c a : Nat) (bad : Bool) (k x : Int) (s : ByteArray) : Prop where
  R : Rdg w2 b ad bs n c a bad
  t : Turn (fun i => i = b) w w2
  gq : w2.heap[q]? = some (vcs k x s)
  gr : w2.heap[w.heap.size]? = some (vcs 0 0 ⟨#[]⟩)
  hb : ¬ b = w.heap.size
  qb : ¬ q = b
  qr : w.heap.size < q
  ha : ad.block < w.heap.size
section
variable {w w2 w3 : World} {q b : Nat} {ad : Addr} {bs : List Int} {n c a : Nat} {bad : Bool} {k x : Int} {s : ByteArray}
theorem Mid5.start {w1 : World} (R1 : Rdg w1 b ad bs n c a bad) (t1 : Turn (fun i => i = b) (w.alloc (vcs 0 0 ⟨#[]⟩)) w1) (hb : b < w.heap.size) (ha : ad.block < w.heap.size) (k : Int) : Mid5 w (w1.alloc (vcs k 0 ⟨#[]⟩)) w1.heap.size b ad bs n c a bad k 0 ⟨#[]⟩ :=
  have g1 := t1.heap (heap_alloc_new w _) (fun e => by omega)
  have h1 := lt_of_heap R1.at_
  ⟨R1.below ((Below.refl _ w1).alloc (Nat.le_refl _) _), (((Turn.refl (fun i => i = b) w).alloc _).trans t1).alloc _, heap_alloc_new w1 _, blk_alloc g1 _, by omega, by omega, lt_of_heap g1, ha⟩
theorem Mid5.call (M : Mid5 w w2 q b ad bs n c a bad k x s) {a' : Nat} {bad' : Bool} (R : Rdg w3 b ad bs n c a' bad') (t : Turn (fun i => i = b) w2 w3) : Mid5 w w3 q b ad bs n c a' bad' k x s :=
  ⟨R, M.t.trans t, t.heap M.gq M.qb, t.heap M.gr (fun e => M.hb e.symm), M.hb, M.qb, M.qr, M.ha⟩
theorem Mid5.below (M : Mid5 w w2 q b ad bs n c a bad k x s) (h : Below w2.heap.size w2 w3) : Mid5 w w3 q b ad bs n c a bad k x s :=
  ⟨M.R.below h, M.t.trans (Turn.of_below h _), blk_below M.gq h (lt_of_heap M.gq), blk_below M.gr h (lt_of_heap M.gr), M.hb, M.qb, M.qr, M.ha⟩
theorem Mid5.setn (M : Mid5 w w2 q b ad bs n c a bad k x s) (y : Int) : Mid5 w (w2.setCell ⟨q, 1, none⟩ (.int .i64 y)) q b ad bs n c a bad k y s :=
  have t : Turn (fun i => i = q) w2 (w2.setCell ⟨q, 1, none⟩ (.int .i64 y)) := (Turn.refl (fun i => i = q) w2).setCell (.inl rfl) _
  ⟨M.R.turn t (fun e => M.qb e.symm) (fun e => by have := M.qr; have := M.ha; omega), M.t.then_ t (fun i e => .inr (by have := M.qr; omega)), blk_set M.gq 1 _, t.heap M.gr (fun e => by have := M.qr; omega), M.hb, M.qb, M.qr, M.ha⟩
theorem Mid5.sets (M : Mid5 w w2 q b ad bs n c a bad k x s) (y : ByteArray) : Mid5 w (w2.setCell ⟨q, 2, none⟩ (.string y)) q b ad bs n c a bad k x y :=
  have t : Turn (fun i => i = q) w2 (w2.setCell ⟨q, 2, none⟩ (.string y)) := (Turn.refl (fun i => i = q) w2).setCell (.inl rfl) _
  ⟨M.R.turn t (fun e => M.qb e.symm) (fun e => by have := M.qr; have := M.ha; omega), M.t.then_ t (fun i e => .inr (by have := M.qr; omega)), blk_set M.gq 2 _, t.heap M.gr (fun e => by have := M.qr; omega), M.hb, M.qb, M.qr, M.ha⟩
theorem Mid5.cells (M : Mid5 w w2 q b ad bs n c a bad k x s) :
    (w2.cell? ⟨b, 2, none⟩ = some (.bool bad) ∧ w2.frozen? ⟨b, 2, none⟩ = false ∧ b < w2.heap.size) ∧
    (w2.cell? ⟨q, 0, none⟩ = some (.int .i64 k) ∧ w2.cell? ⟨q, 1, none⟩ = some (.int .i64 x) ∧ w2.cell? ⟨q, 2, none⟩ = some (.string s) ∧ w2.frozen? ⟨q, 0, none⟩ = false ∧ w2.frozen? ⟨q, 1, none⟩ = false ∧ w2.frozen? ⟨q, 2, none⟩ = false) ∧
    (w2.cell? ⟨w.heap.size, 0, none⟩ = some (.int .i64 0) ∧ w2.cell? ⟨w.heap.size, 1, none⟩ = some (.int .i64 0) ∧ w2.cell? ⟨w.heap.size, 2, none⟩ = some (.string ⟨#[]⟩) ∧ w2.frozen? ⟨w.heap.size, 0, none⟩ = false ∧ w2.frozen? ⟨w.heap.size, 1, none⟩ = false ∧ w2.frozen? ⟨w.heap.size, 2, none⟩ = false) ∧
    ¬ b = w.heap.size ∧ ¬ q = b ∧ w.heap.size < q ∧ ¬ q = w.heap.size ∧ w.heap.size < w2.heap.size ∧ q < w2.heap.size :=
  ⟨rcells M.R, vcells M.gq, vcells M.gr, M.hb, M.qb, M.qr, by have := M.qr; omega, lt_of_heap M.gr, lt_of_heap M.gq⟩
theorem Mid5.out (M : Mid5 w w2 q b ad bs n c a bad k x s) (B : Bool) {v : V} (hv : v = ⟨k, x, s⟩) {B' : Bool} (hB : B = B') :
    ((((w2.setCell ⟨b, 2, none⟩ (.bool B)).setCell ⟨w.heap.size, 0, none⟩ (.int .i64 k)).setCell ⟨w.heap.size, 1, none⟩ (.int .i64 x)).setCell ⟨w.heap.size, 2, none⟩ (.string s)).heap[w.heap.size]? = some (.cells v.val.cells 76 (0, 0)) ∧
    Rdg ((((w2.setCell ⟨b, 2, none⟩ (.bool B)).setCell ⟨w.heap.size, 0, none⟩ (.int .i64 k)).setCell ⟨w.heap.size, 1, none⟩ (.int .i64 x)).setCell ⟨w.heap.size, 2, none⟩ (.string s)) b ad bs n c a B' ∧
    Turn (fun i => i = b) w ((((w2.setCell ⟨b, 2, none⟩ (.bool B)).setCell ⟨w.heap.size, 0, none⟩ (.int .i64 k)).setCell ⟨w.heap.size, 1, none⟩ (.int .i64 x)).setCell ⟨w.heap.size, 2, none⟩ (.string s)) := by
  subst hv hB
  exact val_end M.R M.t M.gr M.hb M.ha B k x s
end
theorem byteS_nat (bs : List Int) (n a : Nat) (bad : Bool) (h : isB bs) (hl : bs.length = n) : ∃ (x : Nat) (a' : Nat) (bad' : Bool), byteS bs n a bad = ((x : Int), a', bad') ∧ x ≤ 255 := by
  have := byteS_isB bs n a bad h hl
  obtain ⟨y, a', bad'⟩ : ∃ y, y = byteS bs n a bad := ⟨_, rfl⟩
  refine ⟨(byteS bs n a bad).1.toNat, (byteS bs n a bad).2.1, (byteS bs n a bad).2.2, ?_, by omega⟩
  rw [Int.toNat_of_nonneg this.1]
theorem byte_at_ {w : World} {b n c a x a' : Nat} {ad : Addr} {bad bad' : Bool} {bs : List Int} (R : Rdg w b ad bs n c a bad) (h : byteS bs n a bad = ((x : Int), a', bad')) :
    Calls Try.prog 73 #[.pointer (some ⟨b, 0, none⟩)] w fun e w' => e = .returned (.int .i64 x) ∧ Rdg w' b ad bs n c a' bad' ∧ Turn (fun i => i = b) w w' := by
  refine (byte_any bs R).mono ?_
  rintro e w' ⟨y, hy, _, rfl, h1, h2⟩
  rw [h] at hy h1
  exact ⟨by rw [hy], h1, h2⟩
theorem value_bool {w : World} {b n c a a1 : Nat} {ad : Addr} {bad1 : Bool} {bs : List Int} (R : Rdg w b ad bs n c a false) (h0 : 0 < n) (h1 : byteS bs n a false = (((1 : Nat) : Int), a1, bad1)) :
    Calls Try.prog 74 #[.pointer (some ⟨b, 0, none⟩)] w (ValPost w b ad bs n c a) := by
  obtain ⟨y, a2, bad2, h2, hy5⟩ := byteS_nat bs n a1 bad1 R.isb R.len
  have HS : valS bs n a = (⟨1, y, ⟨#[]⟩⟩, a2, bad2) := by unfold valS; simp [h1, h2]
  unfold ValPost
  rw [HS]
  have R0 := R.below ((Below.refl _ w).alloc (Nat.le_refl _) (.cells #[.int .i64 0, .int .i64 0, .string ⟨#[]⟩] 76))
  have HB := Lib.hid (byte_at_ R0 h1)
  have HH := Lib.hid (And.intro (lt_of_heap R.at_) (Rd1.blt R h0))
  have H2 := Lib.hid h2
  clear R0 HS h1 h2 R
  go_enter Try.func74, Try.ntmps74
  go_wp2_with (first
    | (go_at_call 73; refine (byte_at_ M1.out.R H2.out).mono ?_; rintro e w2 ⟨rfl, R2, t2⟩; have M2 := Lib.hid (M1.out.call R2 t2); obtain ⟨⟨c0, c1, c2⟩, ⟨p0, p1, p2, p3, p4, p5⟩, ⟨s0, s1, s2, s3, s4, s5⟩, u0, u1, u2, u3, u4, u5⟩ := M2.out.cells; clear R2 t2; cases bad2)
    | (go_at_call 73; refine HB.out.mono ?_; rintro e w1 ⟨rfl, R1, t1⟩; have M1 := Lib.hid (Mid5.start R1 t1 HH.out.1 HH.out.2 1); clear R1 t1)
    | (go_at_call 70; refine (vcheck0 1 y _).mono ?_; rintro e w4 ⟨rfl, b4⟩; have M4 := Lib.hid ((M2.out.setn y).below b4); obtain ⟨⟨c0, c1, c2⟩, ⟨p0, p1, p2, p3, p4, p5⟩, ⟨s0, s1, s2, s3, s4, s5⟩, _, _, _, _, u4, u5⟩ := M4.out.cells))
  · have E := M4.out.out (vErr ⟨1, y, ⟨#[]⟩⟩ != 0) (v := ⟨1, y, ⟨#[]⟩⟩) rfl (B' := (false || !vOk ⟨1, y, ⟨#[]⟩⟩)) (by rw [Bool.false_or, ← vErr_ne])
    exact ⟨rfl, _, results_cell_row (p := 2) (ty := 76) rfl _ _ w.heap.size 76 _ (0, 0) _ rfl E.1 Try.underlying76 rfl (by kernel_rfl), rfl, E.2.1, E.2.2⟩
  · have E := (M2.out.setn y).out true (v := ⟨1, y, ⟨#[]⟩⟩) rfl (B' := (true || !vOk ⟨1, y, ⟨#[]⟩⟩)) (by rw [Bool.true_or])
    exact ⟨rfl, _, results_cell_row (p := 2) (ty := 76) rfl _ _ w.heap.size 76 _ (0, 0) _ rfl E.1 Try.underlying76 rfl (by kernel_rfl), rfl, E.2.1, E.2.2⟩
end Go.Proofs.Ytlldkdhpilcilaa
namespace Go.Proofs.Ytlldkdhpilcilaa
open Go.RowKit
set_option linter.unusedVariables false
set_option linter.unusedSimpArgs false

theorem next_at_ {w : World} {b n c a k a' : Nat} {ad : Addr} {bad bad' : Bool} {bs cs : List Int} (R : Rdg w b ad bs n c a bad) (hk : k ≤ 100000) (h : nextS bs n a k bad = (cs, a', bad')) :
    Calls Try.prog 77 #[.pointer (some ⟨b, 0, none⟩), .int .i64 k] w fun e w' => ∃ A' c', e = .returned (.slice A' k c') ∧ Rd1 w' A' k (u8s cs) ∧ Rdg w' b ad bs n c a' bad' ∧ Turn (fun i => i = b) w w' := by
  refine (next_any bs R hk).mono ?_
  rintro e w' ⟨A', c', rfl, h1, h2, h3⟩
  rw [h] at h1 h2
  exact ⟨A', c', rfl, h1, R.next (k := k) h2 h3 (by rw [h]), h3⟩
theorem value_text {w : World} {b n c a a1 : Nat} {ad : Addr} {bad1 : Bool} {bs : List Int} (R : Rdg w b ad bs n c a false) (h0 : 0 < n) (h1 : byteS bs n a false = (((3 : Nat) : Int), a1, bad1)) :
    Calls Try.prog 74 #[.pointer (some ⟨b, 0, none⟩)] w (ValPost w b ad bs n c a) := by
  obtain ⟨y, a2, bad2, h2, hy5⟩ := byteS_nat bs n a1 bad1 R.isb R.len
  obtain ⟨cs, a3, bad3, h3⟩ : ∃ cs a3 bad3, nextS bs n a2 y bad2 = (cs, a3, bad3) := ⟨_, _, _, rfl⟩
  obtain ⟨t, ht⟩ : ∃ t, t = strOf cs := ⟨_, rfl⟩
  have hts : t.size ≤ 9223372036854775807 := by
    have := nextS_len bs n a2 y bad2 R.len
    rw [h3] at this
    rw [ht, strOf_size]
    simp only at this
    omega
  have HS : valS bs n a = (⟨3, 0, t⟩, a3, bad3) := by unfold valS; simp [h1, h2, h3, ht]
  unfold ValPost
  rw [HS]
  have R0 := R.below ((Below.refl _ w).alloc (Nat.le_refl _) (.cells #[.int .i64 0, .int .i64 0, .string ⟨#[]⟩] 76))
  have HB := Lib.hid (byte_at_ R0 h1)
  have HH := Lib.hid (And.intro (lt_of_heap R.at_) (Rd1.blt R h0))
  have H2 := Lib.hid h2
  have H3 := Lib.hid h3
  have HT := Lib.hid (And.intro ht hts)
  clear R0 HS h1 h2 h3 R ht hts
  go_enter Try.func74, Try.ntmps74
  go_wp2_with (first
    | (go_at_call 73; refine (byte_at_ M1.out.R H2.out).mono ?_; rintro e w2 ⟨rfl, R2, t2⟩; have M2 := Lib.hid (M1.out.call R2 t2); clear R2 t2)
    | (go_at_call 73; refine HB.out.mono ?_; rintro e w1 ⟨rfl, R1, t1⟩; have M1 := Lib.hid (Mid5.start R1 t1 HH.out.1 HH.out.2 3); clear R1 t1)
    | (go_at_call 77; refine (next_at_ M2.out.R (by omega) H3.out).mono ?_; rintro e w3 ⟨A', c', rfl, hr3, R3, t3⟩; have hconv := conv_rd (c := c') hr3; rw [← HT.out.1] at hconv; have M3 := Lib.hid (M2.out.call R3 t3); obtain ⟨⟨c0, c1, c2⟩, ⟨p0, p1, p2, p3, p4, p5⟩, ⟨s0, s1, s2, s3, s4, s5⟩, u0, u1, u2, u3, u4, u5⟩ := M3.out.cells; clear R3 t3 hr3; cases bad3)
    | (go_at_call 70; refine (vcheck ⟨3, 0, t⟩ _ HT.out.2).mono ?_; rintro e w4 ⟨rfl, b4⟩; have M4 := Lib.hid ((M3.out.sets t).below b4); obtain ⟨⟨c0, c1, c2⟩, ⟨p0, p1, p2, p3, p4, p5⟩, ⟨s0, s1, s2, s3, s4, s5⟩, _, _, _, _, u4, u5⟩ := M4.out.cells))
  · have E := M4.out.out (vErr ⟨3, 0, t⟩ != 0) (v := ⟨3, 0, t⟩) rfl (B' := (false || !vOk ⟨3, 0, t⟩)) (by rw [Bool.false_or, ← vErr_ne])
    exact ⟨rfl, _, results_cell_row (p := 2) (ty := 76) rfl _ _ w.heap.size 76 _ (0, 0) _ rfl E.1 Try.underlying76 rfl (by kernel_rfl), rfl, E.2.1, E.2.2⟩
  · have E := (M3.out.sets t).out true (v := ⟨3, 0, t⟩) rfl (B' := (true || !vOk ⟨3, 0, t⟩)) (by rw [Bool.true_or])
    exact ⟨rfl, _, results_cell_row (p := 2) (ty := 76) rfl _ _ w.heap.size 76 _ (0, 0) _ rfl E.1 Try.underlying76 rfl (by kernel_rfl), rfl, E.2.1, E.2.2⟩
end Go.Proofs.Ytlldkdhpilcilaa
namespace Go.Proofs.Ytlldkdhpilcilaa
open Go.RowKit
set_option linter.unusedVariables false
set_option linter.unusedSimpArgs false

theorem or64 {z y : Int} (z0 : 0 ≤ z) (z1 : z < 281474976710656) (y0 : 0 ≤ y) (y1 : y ≤ 255) : bits .or .u64 (z * 256) y = z * 256 + y := by
  obtain ⟨a, rfl⟩ := Int.eq_ofNat_of_zero_le z0
  obtain ⟨c, rfl⟩ := Int.eq_ofNat_of_zero_le y0
  have e : ((a : Int) * 256) = ((a * 256 : Nat) : Int) := by omega
  rw [e, u64_or_nat (a * 256) c (by omega) (by omega)]
  have h : a * 256 ||| c = a * 256 + c := by
    have := Nat.shiftLeft_add_eq_or_of_lt (i := 8) (b := c) (by omega) a
    rw [Nat.shiftLeft_eq] at this
    exact this.symm
  rw [h]
  omega
theorem bigE_snoc {cs : List Int} {k : Nat} (h : k < cs.length) : bigE (cs.take (k + 1)) = bigE (cs.take k) * 256 + cs.getD k 0 := by
  unfold bigE
  rw [take_snoc cs 0 h, List.foldl_append]
  rfl
theorem bigE_rng : ∀ (k : Nat) (cs : List Int), isB cs → 0 ≤ bigE (cs.take k) ∧ bigE (cs.take k) < 256 ^ k
  | 0, cs, _ => by simp [bigE]
  | k + 1, cs, h => by
    have ih := bigE_rng k cs h
    rcases Nat.lt_or_ge k cs.length with hl | hl
    · rw [bigE_snoc hl]
      have hm : cs.getD k 0 ∈ cs := by
        rw [List.getD_eq_getElem?_getD, List.getElem?_eq_getElem hl]
        exact List.getElem_mem hl
      have := h _ hm
      rw [Int.pow_succ]
      omega
    · rw [List.take_of_length_le (by omega)] at ih ⊢
      rw [Int.pow_succ]
      have : (0 : Int) < 256 ^ k := Int.pow_pos (by decide)
      omega
theorem getD_isB {cs : List Int} (h : isB cs) (k : Nat) : 0 ≤ cs.getD k 0 ∧ cs.getD k 0 ≤ 255 := by
  rcases Nat.lt_or_ge k cs.length with hl | hl
  · refine h _ ?_
    rw [List.getD_eq_getElem?_getD, List.getElem?_eq_getElem hl]
    exact List.getElem_mem hl
  · rw [List.getD_eq_getElem?_getD, List.getElem?_eq_none hl]
    simp
theorem value_int {w : World} {b n c a a1 : Nat} {ad : Addr} {bad1 : Bool} {bs : List Int} (R : Rdg w b ad bs n c a false) (h0 : 0 < n) (h1 : byteS bs n a false = (((2 : Nat) : Int), a1, bad1)) :
    Calls Try.prog 74 #[.pointer (some ⟨b, 0, none⟩)] w (ValPost w b ad bs n c a) := by
  obtain ⟨cs, a3, bad3, h3⟩ : ∃ cs a3 bad3, nextS bs n a1 7 bad1 = (cs, a3, bad3) := ⟨_, _, _, rfl⟩
  have hci : isB cs := by have := nextS_isB bs n a1 7 bad1 R.isb; rw [h3] at this; exact this
  have hcl : cs.length = 7 := by have := nextS_len bs n a1 7 bad1 R.len; rw [h3] at this; exact this
  have HS : valS bs n a = (⟨2, bigE cs - 9007199254740992, ⟨#[]⟩⟩, a3, bad3) := by unfold valS; simp [h1, h3]
  unfold ValPost
  rw [HS]
  have R0 := R.below ((Below.refl _ w).alloc (Nat.le_refl _) (.cells #[.int .i64 0, .int .i64 0, .string ⟨#[]⟩] 76))
  have HB := Lib.hid (byte_at_ R0 h1)
  have HH := Lib.hid (And.intro (lt_of_heap R.at_) (Rd1.blt R h0))
  have H3 := Lib.hid h3
  have HC := Lib.hid (And.intro hci hcl)
  clear R0 HS h1 h3 R hci hcl
  go_enter Try.func74, Try.ntmps74
  go_wp2_with (first
    | (go_at_call 73; refine HB.out.mono ?_; rintro e w1 ⟨rfl, R1, t1⟩; have M1 := Lib.hid (Mid5.start R1 t1 HH.out.1 HH.out.2 2); clear R1 t1)
    | (go_at_call 77; refine (next_at_ (k := 7) M1.out.R (by omega) H3.out).mono ?_; rintro e w3 ⟨A', c', rfl, hr3, R3, t3⟩; have M3 := Lib.hid (M1.out.call R3 t3); have HR := Lib.hid hr3; clear R3 t3 hr3))
  go_loopw [22, 4] (fun i x wr => ∃ k : Nat, k ≤ 7 ∧ i = .int .i64 k ∧ x = .int .u64 (bigE (cs.take k)) ∧ wr = w3) (fun i _ _ => 7 - (intOf i).toNat)
  case atStart => exact ⟨0, by omega, rfl, rfl, rfl⟩
  case round =>
    obtain ⟨k, hk, rfl, rfl, hw⟩ := hrel
    obtain rfl := hw.symm
    clear hw
    by_cases hlt : k < 7
    · obtain ⟨ad', rfl, had, hc⟩ := HR.out.at2 hlt
      have hl : k < cs.length := by rw [HC.out.2]; exact hlt
      rw [getD_map 0 hl] at hc
      have B := bigE_rng k cs HC.out.1
      have D := getD_isB HC.out.1 k
      have E := Lib.hid (bigE_snoc hl)
      obtain ⟨z, hz⟩ : ∃ z, z = bigE (cs.take k) := ⟨_, rfl⟩
      obtain ⟨y, hy⟩ : ∃ y, y = cs.getD k 0 := ⟨_, rfl⟩
      rw [← hz] at B E ⊢
      rw [← hy] at D hc E
      have hz6 : z < 281474976710656 := by have B := B.2; rcases (show k = 0 ∨ k = 1 ∨ k = 2 ∨ k = 3 ∨ k = 4 ∨ k = 5 ∨ k = 6 by omega) with rfl | rfl | rfl | rfl | rfl | rfl | rfl <;> omega
      clear hz hy
      go_wp2
      go_roundw
      case rel => exact ⟨k + 1, by omega, by go_num, by rw [E.out, or64 B.1 hz6 D.1 D.2], by trivial⟩
      case measure => simp [intOf]; omega
    · obtain rfl : k = 7 := by omega
      have B := bigE_rng 7 cs HC.out.1
      rw [List.take_of_length_le (by rw [HC.out.2]; omega)] at B ⊢
      obtain ⟨z, hz⟩ : ∃ z, z = bigE cs := ⟨_, rfl⟩
      rw [← hz] at B ⊢
      have z0 := B.1
      have z1 : z < 72057594037927936 := B.2
      have HZ := Lib.hid hz
      clear B hz hlt hk
      obtain ⟨⟨c0, c1, c2⟩, ⟨p0, p1, p2, p3, p4, p5⟩, ⟨s0, s1, s2, s3, s4, s5⟩, u0, u1, u2, u3, u4, u5⟩ := M3.out.cells
      cases bad3
      all_goals go_wp2_with (go_at_call 70; refine (vcheck0 2 (z - 9007199254740992) _).mono ?_; rintro e w4 ⟨rfl, b4⟩; have M4 := Lib.hid ((M3.out.setn (z - 9007199254740992)).below b4); obtain ⟨⟨c0, c1, c2⟩, ⟨p0, p1, p2, p3, p4, p5⟩, ⟨s0, s1, s2, s3, s4, s5⟩, _, _, _, _, u4, u5⟩ := M4.out.cells)
      · have hz := HZ.out
        subst hz
        have E := M4.out.out (vErr ⟨2, bigE cs - 9007199254740992, ⟨#[]⟩⟩ != 0) (v := ⟨2, bigE cs - 9007199254740992, ⟨#[]⟩⟩) rfl (B' := (false || !vOk ⟨2, bigE cs - 9007199254740992, ⟨#[]⟩⟩)) (by rw [Bool.false_or, ← vErr_ne])
        exact ⟨rfl, _, results_cell_row (p := 2) (ty := 76) rfl _ _ w.heap.size 76 _ (0, 0) _ rfl E.1 Try.underlying76 rfl (by kernel_rfl), rfl, E.2.1, E.2.2⟩
      · have hz := HZ.out
        subst hz
        have E := (M3.out.setn (bigE cs - 9007199254740992)).out true (v := ⟨2, bigE cs - 9007199254740992, ⟨#[]⟩⟩) rfl (B' := (true || !vOk ⟨2, bigE cs - 9007199254740992, ⟨#[]⟩⟩)) (by rw [Bool.true_or])
        exact ⟨rfl, _, results_cell_row (p := 2) (ty := 76) rfl _ _ w.heap.size 76 _ (0, 0) _ rfl E.1 Try.underlying76 rfl (by kernel_rfl), rfl, E.2.1, E.2.2⟩
theorem value_walk {w : World} {b n c a : Nat} {ad : Addr} {bs : List Int} (R : Rdg w b ad bs n c a false) (h0 : 0 < n) :
    Calls Try.prog 74 #[.pointer (some ⟨b, 0, none⟩)] w (ValPost w b ad bs n c a) := by
  obtain ⟨x, a1, bad1, h, _⟩ := byteS_nat bs n a false R.isb R.len
  by_cases h1 : x = 1
  · subst h1
    exact value_bool R h0 h
  · by_cases h2 : x = 2
    · subst h2
      exact value_int R h0 h
    · by_cases h3 : x = 3
      · subst h3
        exact value_text R h0 h
      · exact value_other bs R h0 (by rw [h]; simp only; omega) (by rw [h]; simp only; omega) (by rw [h]; simp only; omega)
end Go.Proofs.Ytlldkdhpilcilaa
