/- QueueTexts: the walk. -/
import Derived.Test.YtncapimnlgncpaaQL
import Derived.Test.YtncapimnlgncpaaQOrders
namespace Go.Proofs.Ytncapimnlgncpaa
open Go.Conc Go.RowKit

abbrev strs (xs : List ByteArray) : List Value := xs.map Value.string

structure TInv1 (w0 : World) (g c g2 c2 room : Nat) (l : List ByteArray) (k : Nat) (wr : World) : Prop where
  a : QS.At wr g c 100 (strs (l.take k)) false
  b : QS.At wr g2 c2 room [] false
  bel : Below w0.heap.size w0 wr
structure TInv2 (w0 : World) (g c g2 c2 room : Nat) (l : List ByteArray) (m : Nat) (v : Value) (wr : World) : Prop where
  le : m ≤ l.length
  a : QS.At wr g c 100 (strs (l.drop m)) false
  b : QS.At wr g2 c2 room [] false
  o : wr.ownsRow w0.heap.size 9 1 v m (strs (l.take m))
  bel : Below w0.heap.size w0 wr

theorem below_drewN {B : Nat} {a w : World} (h : Below B a w) (n : Nat) : Below B a (w.drewN n) := ⟨h.os, h.tape, h.output, h.size, h.block⟩
theorem TInv2.own {w0 : World} {g c g2 c2 room : Nat} {l : List ByteArray} {m : Nat} {v : Value} {wr : World} (I : TInv2 w0 g c g2 c2 room l m v wr) {w1 w2 : World} (t1 : Turn (fun j => j = c ∨ j = c2) wr w1) (t2 : Turn (· = c2) w1 w2) :
    w2.ownsRow w0.heap.size 9 1 v m (strs (l.take m)) := by
  obtain ⟨_, s, r, hch⟩ := id I.a
  obtain ⟨_, s2, r2, hch2⟩ := id I.b
  exact own_turn (own_turn I.o t1 (fun k hk e => e.elim (own_ne_chan I.o hch k hk) (own_ne_chan I.o hch2 k hk))) t2 (own_ne_chan I.o hch2)
theorem TInv2.step {w0 : World} {g c g2 c2 room : Nat} {l : List ByteArray} {m : Nat} {v : Value} {wr : World} (I : TInv2 w0 g c g2 c2 room l m v wr) (hc : w0.heap.size ≤ c) (hc2 : w0.heap.size ≤ c2)
    (hgc2 : g ≠ c2) (hcc2 : c ≠ c2) {piece : Int} {mv : Nat} (hmv : mv ≤ l.length - m) {w1 w2 w3 : World} {v' : Value} (M : QS.MoveInv wr g c 100 false g2 c2 room false (l.drop m) [] piece mv w1)
    (qb : QS.At w2 g2 c2 room [] false) (t2 : Turn (· = c2) w1 w2)
    (ho : w3.ownsRow w0.heap.size 9 1 v' (m + mv) (strs (l.take m) ++ strs ((l.drop m).take mv))) (t3 : Turn (fun j => v.ownBlock = some j) w2 w3) :
    TInv2 w0 g c g2 c2 room l (m + mv) v' w3 := by
  obtain ⟨hg1, s, r, hch⟩ := id I.a
  obtain ⟨hg2', s2, r2, hch2⟩ := id I.b
  have S0 := I.bel.size
  have S1 := M.t.size
  have S2 := t2.size
  refine ⟨by have := I.le; omega, ?_, ?_, ?_, ?_⟩
  · have := (M.a.turn t2 hgc2 hcc2).turn t3 (fun e => own_ne_typed I.o hg1 (by decide) _ e rfl) (fun e => own_ne_chan I.o hch _ e rfl)
    rwa [List.drop_drop] at this
  · exact qb.turn t3 (fun e => own_ne_typed I.o hg2' (by decide) _ e rfl) (fun e => own_ne_chan I.o hch2 _ e rfl)
  · rw [← List.map_append] at ho
    rwa [List.take_add]
  · exact below_turn (below_turn (below_turn I.bel M.t S0 (fun j hj => by rcases hj with rfl | rfl <;> assumption)) t2 (by omega) (fun j hj => by rw [hj]; exact hc2)) t3 (by omega) (fun j hj => own_ge I.o hj)

set_option maxRecDepth 100000 in
set_option maxHeartbeats 1000000 in
theorem QueueTexts.main {w : World} (A : Option Addr) (n cap : Nat) (l : List ByteArray) (hl : Rd1 w A n (strs l)) (room : Nat) (piece : Int) (hn : n ≤ 100) (h1 : 1 ≤ room) (h2 : room ≤ 1024) (hp : 1 ≤ piece) (hp2 : piece ≤ 9223372036854775807) :
    Calls Try.prog 5 #[.slice A n cap, .int .i64 room, .int .i64 piece] w fun e w' => e = .returned (.bool true) ∧ Below w.heap.size w w' := by
  have hne1 := QS.new_ok 100 w (by omega) (by omega)
  rw [show ((100 : Nat) : Int) = 100 from rfl] at hne1
  have hll : l.length = n := by simpa using hl.1
  have HLL := Lib.hid hll
  clear hll
  go_enter Try.func5, Try.ntmps5
  go_wp2_with fail
  refine hne1.mono ?_
  rintro e w1 ⟨g, c, rfl, hg, hc, q1, b1⟩
  clear hne1
  go_wp2_with fail
  refine (QS.new_ok room w1 h1 h2).mono ?_
  rintro e w2 ⟨g2, c2, rfl, hg2, hc2, q2, b2⟩
  go_wp2_with (go_at_call 8; refine (lives_true _).mono ?_; rintro e w3 ⟨rfl, b3⟩)
  have qa3 : QS.At w3 g c 100 [] false := (q1.turn (Turn.of_below b2 (fun _ => False)) (fun h => h) (fun h => h)).turn (Turn.of_below b3 (fun _ => False)) (fun h => h) (fun h => h)
  have qb3 : QS.At w3 g2 c2 room [] false := q2.turn (Turn.of_below b3 (fun _ => False)) (fun h => h) (fun h => h)
  have S1 := b1.size
  have b13 : Below w.heap.size w w3 := (b1.trans (b2.mono S1)).trans (b3.mono (by have := b2.size; omega))
  have hgl := lt_of_heap q1.1
  have hcl : c < w1.heap.size := by obtain ⟨_, _, _, h⟩ := q1; exact lt_of_heap h
  have hgc2 : g ≠ c2 := by omega
  have hcc2 : c ≠ c2 := by omega
  have hgg2 : g ≠ g2 := by omega
  have hcg2 : c ≠ g2 := by omega
  have hg20 : w.heap.size ≤ g2 := by omega
  have hc20 : w.heap.size ≤ c2 := by omega
  clear hg2 hc2 hgl hcl q1 q2 b1 b2 b3
  go_loopw [11] (fun i wr => ∃ k : Nat, k ≤ n ∧ i = .int .i64 k ∧ TInv1 w g c g2 c2 room l k wr) (fun i _ => n - (intOf i).toNat)
  case atStart => exact ⟨0, Nat.zero_le _, rfl, qa3, qb3, b13⟩
  case round =>
    clear qa3 qb3 b13
    obtain ⟨k, hk, rfl, I⟩ := hrel
    by_cases hlt : k < n
    · obtain ⟨x, hx⟩ : ∃ x, x = l.getD k ByteArray.empty := ⟨_, rfl⟩
      obtain ⟨ad, rfl, hadb, hcell0⟩ := hl.at2 hlt
      rw [getD_map (xs := l) ByteArray.empty (by have := HLL.out; omega), ← hx] at hcell0
      have hcell := cell_belowv hcell0 I.bel (by rw [add_block]; exact hadb)
      have HX := Lib.hid hx
      have HP := Lib.hid (QS.put_room I.a (by have := HLL.out; simp; omega) x)
      have HL := Lib.hid hl
      clear hx hcell0 hl
      go_wp2_with (go_at_call 18; refine HP.out.mono ?_; rintro e w4 ⟨rfl, hat, t1⟩)
      go_roundw
      case rel =>
        refine ⟨k + 1, by omega, by go_num, ?_, ?_, ?_⟩
        · rw [take_snoc l ByteArray.empty (by have := HLL.out; omega), ← HX.out, strs, List.map_append]; exact hat
        · exact I.b.turn t1 (fun e => hcg2 e.symm) (fun e => hcc2 e.symm)
        · exact below_turn I.bel t1 I.bel.size (fun j hj => by rw [hj]; exact hc)
      case measure => simp [intOf]; omega
    · have hle := HLL.out
      have Ia := I.a
      rw [List.take_of_length_le (by omega)] at Ia
      have Ib := I.b
      have Ibel := I.bel
      clear hle I
      go_wp2
      go_loopw [12, 13] (fun v i wr => ∃ k : Nat, k ≤ 200 ∧ i = .int .i64 k ∧ ∃ m, min k l.length ≤ m ∧ TInv2 w g c g2 c2 room l m v wr) (fun _ i _ => 200 - (intOf i).toNat)
      case atStart => exact ⟨0, by omega, rfl, 0, by omega, Nat.zero_le _, Ia, Ib, World.ownsRow_nil _ _ _ _, Ibel⟩
      case round =>
        clear Ia Ib Ibel
        obtain ⟨k', hk', rfl, m, hkm, I⟩ := hrel
        have hm := I.le
        by_cases hlt2 : k' < 200
        · obtain ⟨mv, hmv⟩ : ∃ mv, mv = QS.moveN piece false room (l.drop m).length ([] : List ByteArray).length := ⟨_, rfl⟩
          have hmove := QS.move_at (l.drop m) [] piece I.a I.b hgg2 hcc2 (by have := HLL.out; simp; omega) (by simp) h2
          rw [← hmv] at hmove
          have HMV := Lib.hid hmove
          have e1 : mv = min piece.toNat (min (l.length - m) room) := by rw [hmv]; simp [QS.moveN]
          have f1 : (mv : Int) ≤ piece := by omega
          have f2 : mv ≤ room := by omega
          have f3 : mv ≤ l.length - m := by omega
          have HLN := Lib.hid (show ((l.drop m).take mv).length = mv by simp; omega)
          have f4 : min (k' + 1) l.length ≤ m + mv := by omega
          clear hmove e1 hmv
          go_wp2_with (first
            | (go_at_call 19; refine HMV.out.mono ?_; rintro e w4 ⟨rfl, M⟩; have hmb := M.b; rw [List.nil_append] at hmb; have t14 := M.t)
            | (go_at_call 20; refine (QS.all_at ((l.drop m).take mv) (by have := HLL.out; simp; omega) hmb).mono ?_; rintro e w5 ⟨va, rfl, hoa, qb5, t5⟩; rw [HLN.out] at hoa; obtain ⟨Aa, ca, rfl⟩ := own_slice hoa; have RA := (Rd1.of_own hoa).2)
            | (at_builtin; refine wp_appendL w.heap.size rfl (.tmp 88) (.tmp 90) 43 9 (.string ByteArray.empty) 1 16 rfl Try.underlying43 QS.info_e rfl (by omega) (by omega) _ m _ rfl Aa mv ca (strs ((l.drop m).take mv)) rfl (by rw [List.length_map, HLN.out, Nat.mul_one]) (fun h => by obtain ⟨ad, e, _, h⟩ := RA.2.2 h; exact ⟨ad, e, h⟩) (by intro u hu; simp only [strs, List.mem_map] at hu; obtain ⟨z, _, rfl⟩ := hu; rfl) (I.own t14 t5) (by have := I.bel.size; have := t14.size; have := t5.size; omega) (by have := HLL.out; simp; omega) ?_; intro v' w6 ho t6 hor))
          go_roundw
          case rel => exact ⟨k' + 1, by omega, by go_num, m + mv, f4, I.step hc hc20 hgc2 hcc2 f3 M qb5 t5 ho t6⟩
          case measure => simp [intOf]; omega
        · obtain rfl : m = n := by have := HLL.out; omega
          have o := I.o
          obtain ⟨Ao, co, rfl⟩ := own_slice o
          have R := (Rd1.of_own o).2
          rw [List.take_of_length_le (by have := HLL.out; omega)] at R
          have RL := hl.below I.bel
          have hms := fun w => QS.move_same w g 5
          have BL := I.bel
          have HMS := Lib.hid hms
          clear hms I o hkm hm hl
          go_wp2_with (go_at_call 19; refine (HMS.out _).mono ?_; rintro e w4 ⟨rfl, rfl⟩)
          go_loopw [15] (fun i ws => ∃ k : Nat, k ≤ m ∧ i = .int .i64 k ∧ ∃ j, ws = wr.drewN j) (fun i _ => m - (intOf i).toNat)
          case atStart => exact ⟨0, Nat.zero_le _, rfl, 0, rfl⟩
          case round =>
            obtain ⟨q, hq, rfl, j, rfl⟩ := hrel
            by_cases hqlt : q < m
            · obtain ⟨a1, rfl, h1⟩ := R.at_ hqlt
              obtain ⟨a2, rfl, h2⟩ := RL.at_ hqlt
              rw [getD_map (xs := l) ByteArray.empty (by have := HLL.out; omega)] at h1 h2
              generalize l.getD q ByteArray.empty = x at h1 h2
              clear R RL
              go_wp2
              go_quiet (fail)
              go_wp2
              go_roundw
              case rel => exact ⟨q + 1, by omega, by go_num, _, rfl⟩
              case measure => simp [intOf]; omega
            · go_wp2
              go_ret
              exact ⟨rfl, below_drewN BL _⟩

theorem QueueTexts.other (A : Option Addr) (n cap : Nat) (room piece : Int) (w : World) (hn : n ≤ 9223372036854775807) (h : 100 < n ∨ room < 1 ∨ 1024 < room ∨ piece < 1) :
    Calls Try.prog 5 #[.slice A n cap, .int .i64 room, .int .i64 piece] w fun e w' => e = .returned (.bool true) ∧ Below w.heap.size w w' := by
  by_cases h1 : (100 : Int) < n
  · go_enter Try.func5, Try.ntmps5
    go_wp2_with (go_at_call 8; refine (lives_true _).mono ?_; rintro e w1 ⟨rfl, b1⟩)
    go_ret
    exact ⟨rfl, b1⟩
  · by_cases h2 : room < 1
    · go_enter Try.func5, Try.ntmps5
      go_wp2_with (go_at_call 8; refine (lives_true _).mono ?_; rintro e w1 ⟨rfl, b1⟩)
      go_ret
      exact ⟨rfl, b1⟩
    · by_cases h3 : 1024 < room
      · go_enter Try.func5, Try.ntmps5
        go_wp2_with (go_at_call 8; refine (lives_true _).mono ?_; rintro e w1 ⟨rfl, b1⟩)
        go_ret
        exact ⟨rfl, b1⟩
      · have h4 : piece < 1 := by omega
        clear h
        go_enter Try.func5, Try.ntmps5
        go_wp2_with (go_at_call 8; refine (lives_true _).mono ?_; rintro e w1 ⟨rfl, b1⟩)
        go_ret
        exact ⟨rfl, b1⟩

theorem QueueTexts.walk {w : World} (A : Option Addr) (n cap : Nat) (l : List ByteArray) (hl : Rd1 w A n (strs l)) (room : Int) (_ : (Lit.int .i64 room).wf = true) (piece : Int) (wp : (Lit.int .i64 piece).wf = true) :
    Calls Try.prog 5 #[.slice A n cap, .int .i64 room, .int .i64 piece] w fun e w' => e = .returned (.bool true) ∧ Below w.heap.size w w' := by
  have hw := bounds_i64 wp
  by_cases h : 100 < n ∨ room < 1 ∨ 1024 < room ∨ piece < 1
  · exact QueueTexts.other A n cap room piece w hl.2.1 h
  · obtain ⟨m, rfl⟩ := Int.eq_ofNat_of_zero_le (show 0 ≤ room by omega)
    exact QueueTexts.main A n cap l hl m piece (by omega) (by omega) (by omega) (by omega) (by omega)
end Go.Proofs.Ytncapimnlgncpaa
