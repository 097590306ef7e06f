/- QueueDoes: the walk. -/
import Derived.Test.YtncapimnlgncpaaQL
import Derived.Test.YtncapimnlgncpaaQDo
import Derived.Deep.Slices
import Derived.Deep.Fields
import Derived.ChangeSame
namespace Go.Proofs.Ytncapimnlgncpaa
open Go.Conc Go.RowKit

set_option maxRecDepth 100000 in
theorem alike_walk {W w : World} {B : Nat} {g c cap h : Nat} {v : Value} {xs : List Int} {cl : Bool} {p2 : PD} (H : St W B ⟨g, c, cap, h, v, xs, xs, cl, cl⟩ p2 w) :
    Calls Try.prog 16 #[.pointer (some ⟨g, 0, none⟩), .pointer (some ⟨h, 0, none⟩)] w fun e w' => e = .returned (.bool true) ∧ ∃ n, w' = w.drewN n := by
  obtain ⟨A, k, rfl⟩ : ∃ A k, v = .slice A xs.length k := own_slice H.a.x.own
  have c0 : w.cell? ⟨h, 0, none⟩ = some (.slice A xs.length k) := cell_of_blk H.a.x.blk 0
  have c2 : w.cell? ⟨h, 2, none⟩ = some (.bool cl) := cell_of_blk H.a.x.blk 2
  have q1 : ∀ n, Calls Try.prog 13 #[.pointer (some ⟨g, 0, none⟩)] (w.drewN n) fun e w'' => e = .returned (.int .i64 xs.length) ∧ ∃ m, w'' = w.drewN m := fun n =>
    (QI.len_at (w := w.drewN n) H.a.q).mono fun e w' ⟨a, b⟩ => ⟨by rw [a]; simp, n, b.symm⟩
  have q2 : ∀ n, Calls Try.prog 21 #[.pointer (some ⟨g, 0, none⟩)] (w.drewN n) fun e w'' => e = .returned (.int .i64 (roomV cl cap xs.length)) ∧ ∃ m, w'' = w.drewN m := fun n =>
    (roomq (H.drewN n)).mono fun e w' ⟨a, m, b⟩ => ⟨a, n + m, by rw [b, World.drewN_drewN]⟩
  have q3 : ∀ n, Calls Try.prog 33 #[.pointer (some ⟨h, 0, none⟩)] (w.drewN n) fun e w'' => e = .returned (.int .i64 (roomV cl cap xs.length)) ∧ ∃ m, w'' = w.drewN m := fun n =>
    (roomx (H.drewN n)).mono fun e w' ⟨a, m, b⟩ => ⟨a, n + m, by rw [b, World.drewN_drewN]⟩
  have q4 : ∀ n, Calls Try.prog 23 #[.pointer (some ⟨g, 0, none⟩)] (w.drewN n) fun e w'' => e = .returned (.bool cl) ∧ ∃ m, w'' = w.drewN m := fun n =>
    (QI.closed_at (w := w.drewN n) H.a.q).mono fun e w' ⟨a, b⟩ => ⟨a, n, b.symm⟩
  have Q := Lib.hid (And.intro q1 (And.intro q2 (And.intro q3 q4)))
  clear q1 q2 q3 q4 H
  generalize roomV cl cap xs.length = r at Q
  go_enter Try.func16, Try.ntmps16
  go_wp2
  go_quiet ((first | (go_at_call 13; exact Q.out.1 _) | (go_at_call 21; exact Q.out.2.1 _) | (go_at_call 33; exact Q.out.2.2.1 _) | (go_at_call 23; exact Q.out.2.2.2 _)))
  go_wp2
  go_ret
  exact ⟨rfl, _, rfl⟩

/-- A slice of pairs of numbers that is read. -/
def RdOp (w : World) (A : Option Addr) (n : Nat) (f : Nat → Int × Int) : Prop :=
  n ≤ 9223372036854775807 ∧ (0 < n → ∃ ad, A = some ad ∧ ad.block < w.heap.size ∧ ∀ i, i < n → w.cell? (ad.add (i * 2)) = some (.int .i64 (f i).1) ∧ w.cell? (ad.add (i * 2 + 1)) = some (.int .i64 (f i).2))

section
open Go.ChangeShapes Go.WideShapes Go.Deep
variable {H : Type} {enc : TypeId × Value → H} {W : World} {base : Nat} {spare : Nat → Bool} {held : Bool}
theorem pair_cells {t : TypeId} (f0 f1 : Field) (hu : Try.prog.underlying t = some (.struct #[f0, f1])) (hone : oneCellFields Try.prog #[f0, f1] = true) (h0 : Try.prog.underlying f0.type = some (.int .i64)) (h1 : Try.prog.underlying f1.type = some (.int .i64)) (hC : Try.prog.cellsOf t = 2) {n : Nat} {cs : List Value} {y : DataW H × List MemPlace}
    (h : DataW.trod enc Try.prog W base spare held n t cs = some y) : ∃ a b : Int, cs = [.int .i64 a, .int .i64 b] := by
  obtain ⟨ys, m, _, _, hlen, hyl, hf⟩ := DataW.trod_struct hu h
  obtain ⟨o0, k0⟩ := hone_of hone 0 f0 rfl
  obtain ⟨o1, k1⟩ := hone_of hone 1 f1 rfl
  match cs, hlen.trans hC with
  | [c0, c1], _ =>
    have e0 := hf 0 f0 rfl
    have e1 := hf 1 f1 rfl
    rw [o0, k0] at e0
    rw [o1, k1] at e1
    match ys, hyl with
    | [y0, y1], _ =>
      obtain ⟨a, ea, _, _⟩ := DataW.trod_int h0 (by simpa using e0)
      obtain ⟨b, eb, _, _⟩ := DataW.trod_int h1 (by simpa using e1)
      simp at ea eb
      exact ⟨a, b, by rw [ea, eb]⟩
theorem open_S07Op {A : Option Addr} {len cap : Nat} {d : DataW H} {ps : List MemPlace} (h : DataW.Trod enc Try.prog W base spare held 35 (.slice A len cap) d ps) : ∃ f, RdOp W A len f := by
  obtain ⟨fuel, hf⟩ := h
  rcases open_slice Try.underlying35 hf with ⟨hcs, _⟩ | ⟨a, l, c, m, n, D, Pl, hcs, hb, hl, hm, hmm, hx, hi⟩
  · simp [Value.cells] at hcs
    obtain ⟨rfl, rfl, rfl⟩ := hcs
    exact ⟨fun _ => (0, 0), by omega, fun h => absurd h (by omega)⟩
  · simp [Value.cells] at hcs
    obtain ⟨rfl, rfl, rfl⟩ := hcs
    have hC : Try.prog.cellsOf 39 = 2 := by kernel_rfl
    have hlm : len ≤ m := by rw [hmm]; split <;> omega
    have hex : ∀ i, ∃ ab : Int × Int, i < len → W.cell? (a.add (i * 2)) = some (.int .i64 ab.1) ∧ W.cell? (a.add (i * 2 + 1)) = some (.int .i64 ab.2) := fun i => by
      by_cases hil : i < len
      · obtain ⟨cs', hc, ht'⟩ := hi i (by omega)
        rw [hC] at hc
        obtain ⟨x, y, rfl⟩ := pair_cells _ _ Try.underlying39 (by kernel_rfl) Try.underlying3 Try.underlying3 hC ht'
        obtain ⟨_, _, hat⟩ := World.cells?_some hc
        have h0 := hat 0 (by omega)
        have h1 := hat 1 (by omega)
        rw [Go.Deep.add_add] at h0 h1
        exact ⟨(x, y), fun _ => ⟨by simpa using h0, by simpa using h1⟩⟩
      · exact ⟨(0, 0), fun h => absurd h hil⟩
    obtain ⟨f, hf⟩ := Classical.axiomOfChoice hex
    refine ⟨f, by simp only [maxLen] at hm; omega, fun hn => ⟨a, rfl, ?_, hf⟩⟩
    have := World.block_lt_of_cell? W _ (hf 0 hn).1
    rwa [add_block] at this
end

set_option maxRecDepth 100000 in
set_option maxHeartbeats 1000000 in
theorem QueueDoes.main {w : World} (n m : Nat) (A : Option Addr) (len cp : Nat) (f : Nat → Int × Int) (hl : RdOp w A len f) (h1 : 1 ≤ n) (h2 : n ≤ 1024) (h3 : 1 ≤ m) (h4 : m ≤ 1024) :
    Calls Try.prog 4 #[.int .i64 n, .int .i64 m, .slice A len cp] w fun e w' => e = .returned (.bool true) ∧ Below w.heap.size w w' := by
  have hlen := hl.1
  go_enter Try.func4, Try.ntmps4
  go_wp2_with fail
  refine (QI.new_ok n w h1 h2).mono ?_
  rintro e w1 ⟨g, c, rfl, hg, hc, q1, b1⟩
  have z1 := b1.size
  have g1 := lt_of_heap q1.1
  have c1 : c < w1.heap.size := by obtain ⟨_, _, _, h⟩ := q1; exact lt_of_heap h
  go_wp2_with fail
  refine (QI.new_ok m w1 h3 h4).mono ?_
  rintro e w2 ⟨g2, c2, rfl, hg2, hc2, q2, b2⟩
  have z2 := b2.size
  have g2l := lt_of_heap q2.1
  have c2l : c2 < w2.heap.size := by obtain ⟨_, _, _, h⟩ := q2; exact lt_of_heap h
  go_wp2_with fail
  refine (RQ.new_ok n w2 w.heap.size (by omega) h1 h2).mono ?_
  rintro e w3 ⟨h, rfl, hh, x3, b3⟩
  have z3 := b3.size
  have hl3 := lt_of_heap x3.blk
  go_wp2_with fail
  refine (RQ.new_ok m w3 w.heap.size (by omega) h3 h4).mono ?_
  rintro e w4 ⟨h', rfl, hh', x4, b4⟩
  have z4 := b4.size
  go_wp2_with fail
  refine (lives_true _).mono ?_
  rintro e w5 ⟨rfl, b5⟩
  have T2 : Turn (fun _ => False) w1 w2 := Turn.of_below b2 _
  have T3 : Turn (fun _ => False) w2 w3 := Turn.of_below b3 _
  have T4 : Turn (fun _ => False) w3 w4 := Turn.of_below b4 _
  have T5 : Turn (fun _ => False) w4 w5 := Turn.of_below b5 _
  have Q1 := (((q1.turn T2 (fun h => h) (fun h => h)).turn T3 (fun h => h) (fun h => h)).turn T4 (fun h => h) (fun h => h)).turn T5 (fun h => h) (fun h => h)
  have Q2 := ((q2.turn T3 (fun h => h) (fun h => h)).turn T4 (fun h => h) (fun h => h)).turn T5 (fun h => h) (fun h => h)
  have X1 := (x3.turn T4 (fun h => h) (fun _ _ h => h)).turn T5 (fun h => h) (fun _ _ h => h)
  have X2 := x4.turn T5 (fun h => h) (fun _ _ h => h)
  have BB : Below w.heap.size w w5 := (((b1.trans (b2.mono z1)).trans (b3.mono (by omega))).trans (b4.mono (by omega))).trans (b5.mono (by omega))
  have S0 : St w w.heap.size ⟨g, c, n, h, .slice none 0 0, [], [], false, false⟩ ⟨g2, c2, m, h', .slice none 0 0, [], [], false, false⟩ w5 :=
    ⟨⟨Q1, X1, Nat.zero_le _, Nat.zero_le _, h2, hg, hc⟩, ⟨Q2, X2, Nat.zero_le _, Nat.zero_le _, h4, (show w.heap.size ≤ g2 by omega), (show w.heap.size ≤ c2 by omega)⟩, (by
      rintro k (rfl | rfl | rfl | hk) (hk2 | hk2 | hk2 | hk2) <;> first | (dsimp only at hk2; omega) | (cases hk; done) | (cases hk2; done)), BB.size, BB⟩
  clear Q1 Q2 X1 X2 BB T2 T3 T4 T5 b1 b2 b3 b4 b5 q1 q2 x3 x4 hg hc hg2 hc2 hh hh' z1 z2 z3 z4 g1 c1 g2l c2l hl3
  go_wp2
  go_loopw [7, 9, 11, 12, 13] (fun q o x y i wr => ∃ k : Nat, k ≤ len ∧ k ≤ 100 ∧ i = .int .i64 k ∧ ∃ g c cap h v xs cl g2 c2 cap2 h2 v2 xs2 cl2, q = .pointer (some ⟨g, 0, none⟩) ∧ o = .pointer (some ⟨g2, 0, none⟩) ∧ x = .pointer (some ⟨h, 0, none⟩) ∧ y = .pointer (some ⟨h2, 0, none⟩) ∧
      St w w.heap.size ⟨g, c, cap, h, v, xs, xs, cl, cl⟩ ⟨g2, c2, cap2, h2, v2, xs2, xs2, cl2, cl2⟩ wr) (fun _ _ _ _ i _ => len - (intOf i).toNat)
  case atStart => exact ⟨0, Nat.zero_le _, by omega, rfl, _, _, _, _, _, _, _, _, _, _, _, _, _, _, rfl, rfl, rfl, rfl, S0⟩
  case round =>
    clear S0
    obtain ⟨k, hk, hk1, rfl, g, c, cap, h, v, xs, cl, g2, c2, cap2, h2, v2, xs2, cl2, rfl, rfl, rfl, rfl, S⟩ := hrel
    by_cases hlt : k < len
    · by_cases hlt2 : k < 100
      · obtain ⟨ad, rfl, hadb, hcl⟩ := hl.2 (by omega)
        obtain ⟨d0, d1⟩ := hcl k hlt
        obtain ⟨kd, hkd⟩ : ∃ kd, kd = (f k).1 := ⟨_, rfl⟩
        obtain ⟨nn, hnn⟩ : ∃ nn, nn = (f k).2 := ⟨_, rfl⟩
        rw [← hkd] at d0
        rw [← hnn] at d1
        have e0 := cell_belowv d0 S.bel (by rw [add_block]; exact hadb)
        have e1 := cell_belowv d1 S.bel (by rw [add_block]; exact hadb)
        have hadd : ad.add (k * 2 + 1) = ⟨(ad.add (k * 2)).block, (ad.add (k * 2)).off + 1, none⟩ := by
          unfold Addr.add
          by_cases hk0 : k * 2 = 0
          · simp [hk0]
          · simp [hk0, Nat.add_assoc]
        rw [hadd] at e1
        clear d0 d1 hkd hnn hadd
        have HL := Lib.hid hl
        clear hl hcl
        by_cases h6 : kd = 6
        · have b6 : (kd == 6) = true := beq_iff_eq.2 h6
          have S' := S.swap
          clear h6 S
          go_wp2_with fail
          refine (do_walk S' kd nn).mono ?_
          rintro e w6 ⟨rfl, c3, v3, xs3, cl3, c4, v4, xs4, cl4, S2⟩
          go_wp2_with fail
          refine (alike_walk S2).mono ?_
          rintro e w7 ⟨rfl, m1, rfl⟩
          go_wp2_with fail
          refine (alike_walk (S2.drewN m1).swap).mono ?_
          rintro e w7 ⟨rfl, m2, rfl⟩
          go_wp2
          go_roundw
          case rel => exact ⟨k + 1, by omega, by omega, by go_num, _, _, _, _, _, _, _, _, _, _, _, _, _, _, rfl, rfl, rfl, rfl, S2.drewN (m1 + m2)⟩
          case measure => simp [intOf]; omega
        · have b6 : (kd == 6) = false := beq_eq_false_iff_ne.2 h6
          clear h6
          go_wp2_with fail
          refine (do_walk S kd nn).mono ?_
          rintro e w6 ⟨rfl, c3, v3, xs3, cl3, c4, v4, xs4, cl4, S2⟩
          go_wp2_with fail
          refine (alike_walk S2).mono ?_
          rintro e w7 ⟨rfl, m1, rfl⟩
          go_wp2_with fail
          refine (alike_walk (S2.drewN m1).swap).mono ?_
          rintro e w7 ⟨rfl, m2, rfl⟩
          go_wp2
          go_roundw
          case rel => exact ⟨k + 1, by omega, by omega, by go_num, _, _, _, _, _, _, _, _, _, _, _, _, _, _, rfl, rfl, rfl, rfl, S2.drewN (m1 + m2)⟩
          case measure => simp [intOf]; omega
      · go_wp2
        go_ret
        exact ⟨rfl, S.bel⟩
    · go_wp2
      go_ret
      exact ⟨rfl, S.bel⟩

set_option maxRecDepth 100000 in
theorem QueueDoes.bad2 {w : World} (n : Int) (m : Int) (A : Option Addr) (len cp : Nat) (hlen : len ≤ 9223372036854775807) (hn : n < 1 ∨ 1024 < n) (hm : m < 1 ∨ 1024 < m) :
    Calls Try.prog 4 #[.int .i64 n, .int .i64 m, .slice A len cp] w fun e w' => e = .returned (.bool true) ∧ Below w.heap.size w w' := by
  go_enter Try.func4, Try.ntmps4
  go_wp2_with fail
  refine (QI.new_bad n _ hn).mono ?_
  rintro e w' ⟨rfl, rfl⟩
  go_wp2_with fail
  refine (QI.new_bad m _ hm).mono ?_
  rintro e w' ⟨rfl, rfl⟩
  go_wp2_with fail
  refine (RQ.new_bad n _ hn).mono ?_
  rintro e w' ⟨rfl, rfl⟩
  go_wp2_with fail
  refine (RQ.new_bad m _ hm).mono ?_
  rintro e w' ⟨rfl, rfl⟩
  go_wp2_with fail
  refine (lives_true _).mono ?_
  rintro e w1 ⟨rfl, b1⟩
  have B1 := b1
  go_wp2
  refine wp_loop_once ?_
  by_cases h0 : 0 < len
  · have h0' : (0 : Int) < len := by omega
    go_wp2
    go_ret
    exact ⟨rfl, B1⟩
  · obtain rfl : len = 0 := by omega
    go_wp2
    go_ret
    exact ⟨rfl, B1⟩
set_option maxRecDepth 100000 in
theorem QueueDoes.badN {w : World} (n : Int) (m : Nat) (A : Option Addr) (len cp : Nat) (hlen : len ≤ 9223372036854775807) (hn : n < 1 ∨ 1024 < n) (hm : 1 ≤ m ∧ m ≤ 1024) :
    Calls Try.prog 4 #[.int .i64 n, .int .i64 m, .slice A len cp] w fun e w' => e = .returned (.bool true) ∧ Below w.heap.size w w' := by
  go_enter Try.func4, Try.ntmps4
  go_wp2_with fail
  refine (QI.new_bad n _ hn).mono ?_
  rintro e w' ⟨rfl, rfl⟩
  go_wp2_with fail
  refine (QI.new_ok m _ hm.1 hm.2).mono ?_
  rintro e w1 ⟨g, c, rfl, _, _, _, b1⟩
  go_wp2_with fail
  refine (RQ.new_bad n _ hn).mono ?_
  rintro e w' ⟨rfl, rfl⟩
  go_wp2_with fail
  refine (RQ.new_ok m _ 0 (Nat.zero_le _) hm.1 hm.2).mono ?_
  rintro e w2 ⟨h, rfl, _, _, b2⟩
  go_wp2_with fail
  refine (lives_true _).mono ?_
  rintro e w3 ⟨rfl, b3⟩
  have B1 := b1
  have B2 := B1.trans (b2.mono B1.size)
  have B3 := B2.trans (b3.mono B2.size)
  go_wp2
  refine wp_loop_once ?_
  by_cases h0 : 0 < len
  · have h0' : (0 : Int) < len := by omega
    go_wp2
    go_ret
    exact ⟨rfl, B3⟩
  · obtain rfl : len = 0 := by omega
    go_wp2
    go_ret
    exact ⟨rfl, B3⟩
set_option maxRecDepth 100000 in
theorem QueueDoes.badM {w : World} (n : Nat) (m : Int) (A : Option Addr) (len cp : Nat) (hlen : len ≤ 9223372036854775807) (hn : 1 ≤ n ∧ n ≤ 1024) (hm : m < 1 ∨ 1024 < m) :
    Calls Try.prog 4 #[.int .i64 n, .int .i64 m, .slice A len cp] w fun e w' => e = .returned (.bool true) ∧ Below w.heap.size w w' := by
  go_enter Try.func4, Try.ntmps4
  go_wp2_with fail
  refine (QI.new_ok n _ hn.1 hn.2).mono ?_
  rintro e w1 ⟨g, c, rfl, _, _, _, b1⟩
  go_wp2_with fail
  refine (QI.new_bad m _ hm).mono ?_
  rintro e w' ⟨rfl, rfl⟩
  go_wp2_with fail
  refine (RQ.new_ok n _ 0 (Nat.zero_le _) hn.1 hn.2).mono ?_
  rintro e w2 ⟨h, rfl, _, _, b2⟩
  go_wp2_with fail
  refine (RQ.new_bad m _ hm).mono ?_
  rintro e w' ⟨rfl, rfl⟩
  go_wp2_with fail
  refine (lives_true _).mono ?_
  rintro e w3 ⟨rfl, b3⟩
  have B1 := b1
  have B2 := B1.trans (b2.mono B1.size)
  have B3 := B2.trans (b3.mono B2.size)
  go_wp2
  refine wp_loop_once ?_
  by_cases h0 : 0 < len
  · have h0' : (0 : Int) < len := by omega
    go_wp2
    go_ret
    exact ⟨rfl, B3⟩
  · obtain rfl : len = 0 := by omega
    go_wp2
    go_ret
    exact ⟨rfl, B3⟩

theorem QueueDoes.walk {w : World} (n : Int) (_ : (Lit.int .i64 n).wf = true) (m : Int) (_ : (Lit.int .i64 m).wf = true) (A : Option Addr) (len cp : Nat) (f : Nat → Int × Int) (hl : RdOp w A len f) :
    Calls Try.prog 4 #[.int .i64 n, .int .i64 m, .slice A len cp] w fun e w' => e = .returned (.bool true) ∧ Below w.heap.size w w' := by
  by_cases hn : n < 1 ∨ 1024 < n
  · by_cases hm : m < 1 ∨ 1024 < m
    · exact QueueDoes.bad2 n m A len cp hl.1 hn hm
    · obtain ⟨m', rfl⟩ := Int.eq_ofNat_of_zero_le (show 0 ≤ m by omega)
      exact QueueDoes.badN n m' A len cp hl.1 hn (by omega)
  · obtain ⟨n', rfl⟩ := Int.eq_ofNat_of_zero_le (show 0 ≤ n by omega)
    by_cases hm : m < 1 ∨ 1024 < m
    · exact QueueDoes.badM n' m A len cp hl.1 (by omega) hm
    · obtain ⟨m', rfl⟩ := Int.eq_ofNat_of_zero_le (show 0 ≤ m by omega)
      exact QueueDoes.main n' m' A len cp f hl (by omega) (by omega) (by omega) (by omega)
end Go.Proofs.Ytncapimnlgncpaa
