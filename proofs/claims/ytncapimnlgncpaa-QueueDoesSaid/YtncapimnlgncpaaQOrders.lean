/- QueueOrders: the walk. -/
import Derived.Test.YtncapimnlgncpaaQL
import Derived.Test.YtncapimnlgncpaaR
import Derived.OpenShut
namespace Go.Proofs.Ytncapimnlgncpaa
open Go.Conc Go.RowKit

theorem own_ne_chan {w : World} {base : Nat} {e : TypeId} {size n : Nat} {v : Value} {xs : List Value} (h : w.ownsRow base e size v n xs) {c cap s r : Nat} {buf : Array Value} {cl tm : Bool} (hc : w.heap[c]? = some (.chan cap buf cl s r tm)) : ∀ k, v.ownBlock = some k → ¬ k = c := by
  intro k hk e
  subst e
  rcases h.2 with ⟨rfl, _⟩ | ⟨g, cap', cur, rfl, _, hg, _⟩
  · cases hk
  · obtain rfl : g = k := by simpa [Value.ownBlock] using hk
    rw [hg] at hc
    cases hc
theorem own_ne_typed {w : World} {base : Nat} {e t : TypeId} {size n : Nat} {v : Value} {xs : List Value} (h : w.ownsRow base e size v n xs) {g : Nat} {cs : Array Value} (hg : w.heap[g]? = some (.cells cs t (0, 0))) (hne : e ≠ t) : ∀ k, v.ownBlock = some k → ¬ k = g := by
  intro k hk e'
  subst e'
  rcases h.2 with ⟨rfl, _⟩ | ⟨g', cap', cur, rfl, _, hg', _⟩
  · cases hk
  · obtain rfl : g' = k := by simpa [Value.ownBlock] using hk
    rw [hg] at hg'
    injection hg' with hg'
    injection hg' with _ ht
    exact hne ht.symm
/-- Two rows of one's own lie apart. -/
def NeO (v v' : Value) : Prop := ∀ k, v.ownBlock = some k → v'.ownBlock ≠ some k
theorem NeO.symm {v v' : Value} (h : NeO v v') : NeO v' v := fun k hk e => h k e hk

abbrev ints (xs : List Int) : List Value := xs.map (Value.int .i64)

structure OInv (w0 : World) (g c room : Nat) (n : Nat) (ins outs xs : List Int) (k : Nat) (v9 v10 : Value) (wr : World) : Prop where
  eq : ins = outs ++ xs
  li : ins.length ≤ k
  lo : outs.length ≤ k
  lx : xs.length ≤ room
  q : QI.At wr g c room (ints xs) false
  o9 : wr.ownsRow w0.heap.size 3 1 v9 ins.length (ints ins)
  o10 : wr.ownsRow w0.heap.size 3 1 v10 outs.length (ints outs)
  ne : NeO v9 v10
  bel : Below w0.heap.size w0 wr

theorem OInv.put {w0 : World} {g c room n : Nat} {ins outs xs : List Int} {k : Nat} {v9 v10 : Value} {wr : World} (I : OInv w0 g c room n ins outs xs k v9 v10 wr) (hgc : w0.heap.size ≤ g ∧ w0.heap.size ≤ c) {x : Int} {w1 w2 : World} {v9' : Value} (hr : xs.length < room)
    (hat : QI.At w1 g c room (ints xs ++ [Value.int .i64 x]) false) (t1 : Turn (· = c) wr w1) (h9 : w2.ownsRow w0.heap.size 3 1 v9' (ins.length + 1) (ints ins ++ [Value.int .i64 x])) (t2 : Turn (fun j => v9.ownBlock = some j) w1 w2)
    (hor : v9'.ownBlock = v9.ownBlock ∨ ∃ b, v9'.ownBlock = some b ∧ w1.heap.size ≤ b) : OInv w0 g c room n (ins ++ [x]) outs (xs ++ [x]) (k + 1) v9' v10 w2 := by
  obtain ⟨_, s, r, hc⟩ := id I.q
  have h10 := own_turn I.o10 t1 (own_ne_chan I.o10 hc)
  have h9' := own_turn I.o9 t1 (own_ne_chan I.o9 hc)
  obtain ⟨hg1, s', r', hc1⟩ := id hat
  have h10' := own_turn h10 t2 (fun j hj e => I.ne j e hj)
  have S0 := I.bel.size
  have S1 := t1.size
  refine ⟨by rw [I.eq]; simp, by have := I.li; simp; omega, by have := I.lo; omega, by simp; omega, ?_, ?_, h10', ?_, ?_⟩
  · have := hat.turn t2 (fun e => own_ne_typed h9' hg1 (by decide) _ e rfl) (fun e => own_ne_chan h9' hc1 _ e rfl)
    simpa using this
  · simpa using h9
  · intro j hj
    rcases hor with e | ⟨b, e, hb⟩
    · exact I.ne j (e ▸ hj)
    · rw [e] at hj
      obtain rfl : b = j := by simpa using hj
      intro hj10
      have := (h10.lt _ hj10).2
      omega
  · exact below_turn (below_turn I.bel t1 S0 (fun j hj => by rw [hj]; exact hgc.2)) t2 (Nat.le_trans S0 S1) (fun j hj => own_ge I.o9 hj)
theorem OInv.next {w0 : World} {g c room n : Nat} {ins outs xs : List Int} {k : Nat} {v9 v10 : Value} {wr : World} (I : OInv w0 g c room n ins outs xs k v9 v10 wr) : OInv w0 g c room n ins outs xs (k + 1) v9 v10 wr :=
  ⟨I.eq, by have := I.li; omega, by have := I.lo; omega, I.lx, I.q, I.o9, I.o10, I.ne, I.bel⟩
theorem OInv.take {w0 : World} {g c room n : Nat} {ins outs xs : List Int} {y : Int} {k : Nat} {v9 v10 : Value} {wr : World} (I : OInv w0 g c room n ins outs (y :: xs) k v9 v10 wr) (hk : outs.length + 1 ≤ k) (hgc : w0.heap.size ≤ g ∧ w0.heap.size ≤ c) {w1 w2 : World} {v10' : Value}
    (hat : QI.At w1 g c room (ints xs) false) (t1 : Turn (· = c) wr w1) (h10 : w2.ownsRow w0.heap.size 3 1 v10' (outs.length + 1) (ints outs ++ [Value.int .i64 y])) (t2 : Turn (fun j => v10.ownBlock = some j) w1 w2)
    (hor : v10'.ownBlock = v10.ownBlock ∨ ∃ b, v10'.ownBlock = some b ∧ w1.heap.size ≤ b) : OInv w0 g c room n ins (outs ++ [y]) xs k v9 v10' w2 := by
  obtain ⟨_, s, r, hc⟩ := id I.q
  have h9 := own_turn I.o9 t1 (own_ne_chan I.o9 hc)
  have h10' := own_turn I.o10 t1 (own_ne_chan I.o10 hc)
  obtain ⟨hg1, s', r', hc1⟩ := id hat
  have h9' := own_turn h9 t2 (fun j hj e => I.ne j hj e)
  have S0 := I.bel.size
  have S1 := t1.size
  refine ⟨by rw [I.eq]; simp, I.li, by simp; omega, by have := I.lx; simp at this; omega, ?_, h9', ?_, ?_, ?_⟩
  · exact hat.turn t2 (fun e => own_ne_typed h10' hg1 (by decide) _ e rfl) (fun e => own_ne_chan h10' hc1 _ e rfl)
  · simpa using h10
  · intro j hj hj10
    rcases hor with e | ⟨b, e, hb⟩
    · exact I.ne j hj (e ▸ hj10)
    · rw [e] at hj10
      obtain rfl : b = j := by simpa using hj10
      have := (h9.lt _ hj).2
      omega
  · exact below_turn (below_turn I.bel t1 S0 (fun j hj => by rw [hj]; exact hgc.2)) t2 (Nat.le_trans S0 S1) (fun j hj => own_ge I.o10 hj)


set_option maxHeartbeats 1000000 in
theorem QueueOrders.main {w : World} (room : Nat) (h1 : 1 ≤ room) (h2 : room ≤ 1024) (A : Option Addr) (n cap : Nat) (l : List Int) (hl : Rd1 w A n (ints l)) (every : Int) (hn : n ≤ 300) (he : 1 ≤ every) (we : every ≤ 9223372036854775807) :
    Calls Try.prog 3 #[.int .i64 room, .slice A n cap, .int .i64 every] w fun e w' => e = .returned (.bool true) ∧ Below w.heap.size w w' := by
  have hne := QI.new_ok room w h1 h2
  have hll : l.length = n := by simpa using hl.1
  have HLL := Lib.hid hll
  clear hll
  go_enter Try.func3, Try.ntmps3
  go_wp2_with fail
  refine hne.mono ?_
  rintro e w1 ⟨g, c, rfl, hg, hc, q1, b1⟩
  clear hne
  go_wp2_with (go_at_call 8; refine (lives_true _).mono ?_; rintro e w2 ⟨rfl, b2⟩)
  have q2 : QI.At w2 g c room [] false := q1.turn (Turn.of_below b2 (fun _ => False)) (fun h => h) (fun h => h)
  have b12 : Below w.heap.size w w2 := b1.trans (b2.mono b1.size)
  go_loopw [9, 10, 11] (fun v9 v10 i wr => ∃ k : Nat, k ≤ n ∧ i = .int .i64 k ∧ ∃ ins outs xs, OInv w g c room n ins outs xs k v9 v10 wr) (fun _ _ i _ => n - (intOf i).toNat)
  case atStart =>
    exact ⟨0, Nat.zero_le _, rfl, [], [], [], rfl, by simp, by simp, by simp, q2, World.ownsRow_nil _ _ _ _, World.ownsRow_nil _ _ _ _, (fun k hk => by cases hk), b12⟩
  case round =>
    clear q1 b1 q2 b12 b2
    obtain ⟨k, hk, rfl, ins, outs, xs, I⟩ := hrel
    by_cases hlt : k < n
    · obtain ⟨x, hx⟩ : ∃ x, x = l.getD k 0 := ⟨_, rfl⟩
      obtain ⟨ad, rfl, hadb, hcell0⟩ := hl.at2 hlt
      rw [getD_map (xs := l) 0 (by have := HLL.out; omega), ← hx] at hcell0
      have hcell := cell_belowv hcell0 I.bel (by rw [add_block]; exact hadb)
      clear hcell0
      have HX := Lib.hid hx
      have HL := Lib.hid hl
      clear hx hl
      have hq := I.q
      obtain ⟨_, s, r, hch⟩ := id hq
      have LO := I.lo
      have LI := I.li
      by_cases hr : xs.length < room
      · have HP := Lib.hid (QI.put_room hq (by simpa using hr) x)
        obtain ⟨y, ys, hys⟩ : ∃ y ys, xs ++ [x] = y :: ys := by cases xs with | nil => exact ⟨_, _, rfl⟩ | cons a b => exact ⟨_, _, rfl⟩
        have HY := Lib.hid hys
        clear hys hq
        by_cases hev : (k : Int) % every = 0
        · have hb : ((k : Int) % every == 0) = true := beq_iff_eq.2 hev
          clear hev
          go_wp2_with (first | (go_at_call 9; refine HP.out.mono ?_; rintro e w3 ⟨rfl, hat, t1⟩; have hcell3 := cell_turn hcell t1 (by rw [add_block]; omega)) | (at_builtin; refine wp_append1 w.heap.size rfl (.tmp 51) (.tmp 56) 22 3 (.int .i64 0) 1 8 rfl Try.underlying22 QI.info_e rfl (by omega) (by omega) _ ins.length _ [.int .i64 x] rfl rfl rfl (by simp [Value.oneCell']) (own_turn I.o9 t1 (own_ne_chan I.o9 hch)) (Nat.le_trans I.bel.size t1.size) (by omega) ?_; intro v9' w4 h9 t2 hor; have J := I.put ⟨hg, hc⟩ hr hat t1 h9 t2 hor; rw [HY.out] at J; obtain ⟨_, s', r', hch'⟩ := id J.q) | (go_at_call 10; refine (QI.take_some y (ints ys) J.q).mono ?_; rintro e w5 ⟨rfl, hat5, t5⟩) | (at_builtin; refine wp_append1 w.heap.size rfl (.tmp 68) (.tmp 70) 22 3 (.int .i64 0) 1 8 rfl Try.underlying22 QI.info_e rfl (by omega) (by omega) _ outs.length _ [.int .i64 y] rfl rfl rfl (by simp [Value.oneCell']) (own_turn J.o10 t5 (own_ne_chan J.o10 hch')) (Nat.le_trans J.bel.size t5.size) (by omega) ?_; intro v10' w6 h10 t6 hor6))
          go_roundw
          case rel => exact ⟨k + 1, by omega, by go_num, _, _, _, J.take (by omega) ⟨hg, hc⟩ hat5 t5 h10 t6 hor6⟩
          case measure => simp [intOf]; omega
        · have hb : ((k : Int) % every == 0) = false := beq_eq_false_iff_ne.2 hev
          clear hev
          go_wp2_with (first | (go_at_call 9; refine HP.out.mono ?_; rintro e w3 ⟨rfl, hat, t1⟩; have hcell3 := cell_turn hcell t1 (by rw [add_block]; omega)) | (at_builtin; refine wp_append1 w.heap.size rfl (.tmp 51) (.tmp 56) 22 3 (.int .i64 0) 1 8 rfl Try.underlying22 QI.info_e rfl (by omega) (by omega) _ ins.length _ [.int .i64 x] rfl rfl rfl (by simp [Value.oneCell']) (own_turn I.o9 t1 (own_ne_chan I.o9 hch)) (Nat.le_trans I.bel.size t1.size) (by omega) ?_; intro v9' w4 h9 t2 hor; have J := I.put ⟨hg, hc⟩ hr hat t1 h9 t2 hor; rw [HY.out] at J; obtain ⟨_, s', r', hch'⟩ := id J.q))
          go_roundw
          case rel => exact ⟨k + 1, by omega, by go_num, _, _, _, J⟩
          case measure => simp [intOf]; omega
      · have HP := Lib.hid (QI.put_full hq (by simp; omega) x)
        obtain ⟨y, ys, rfl⟩ : ∃ y ys, xs = y :: ys := by
          cases xs with
          | nil => simp at hr; omega
          | cons a b => exact ⟨_, _, rfl⟩
        have J := I.next
        have hch' := hch
        clear hq hr
        by_cases hev : (k : Int) % every = 0
        · have hb : ((k : Int) % every == 0) = true := beq_iff_eq.2 hev
          clear hev
          go_wp2_with (first | (go_at_call 9; refine HP.out.mono ?_; rintro e w3 ⟨rfl, rfl⟩) | (go_at_call 10; refine (QI.take_some y (ints ys) J.q).mono ?_; rintro e w5 ⟨rfl, hat5, t5⟩) | (at_builtin; refine wp_append1 w.heap.size rfl (.tmp 68) (.tmp 70) 22 3 (.int .i64 0) 1 8 rfl Try.underlying22 QI.info_e rfl (by omega) (by omega) _ outs.length _ [.int .i64 y] rfl rfl rfl (by simp [Value.oneCell']) (own_turn J.o10 t5 (own_ne_chan J.o10 hch')) (Nat.le_trans J.bel.size t5.size) (by omega) ?_; intro v10' w6 h10 t6 hor6))
          go_roundw
          case rel => exact ⟨k + 1, by omega, by go_num, _, _, _, J.take (by omega) ⟨hg, hc⟩ hat5 t5 h10 t6 hor6⟩
          case measure => simp [intOf]; omega
        · have hb : ((k : Int) % every == 0) = false := beq_eq_false_iff_ne.2 hev
          clear hev
          go_wp2_with (first | (go_at_call 9; refine HP.out.mono ?_; rintro e w3 ⟨rfl, rfl⟩))
          go_roundw
          case rel => exact ⟨k + 1, by omega, by go_num, _, _, _, J⟩
          case measure => simp [intOf]; omega
    · have LO := I.lo
      have LI := I.li
      have LX := I.lx
      have hxl : xs.length ≤ 1024 := by omega
      obtain ⟨_, s, r, hch⟩ := id I.q
      obtain ⟨A9, c9, rfl⟩ := own_slice I.o9
      have EQ := Lib.hid I.eq
      go_wp2_with (first
        | (go_at_call 11; refine (QI.all_at xs hxl I.q).mono ?_; rintro e w3 ⟨va, rfl, hoa, q3, t3⟩; obtain ⟨Aa, ca, rfl⟩ := own_slice hoa; have RA := (Rd1.of_own hoa).2)
        | (at_builtin; refine wp_appendL w.heap.size rfl (.tmp 72) (.tmp 74) 22 3 (.int .i64 0) 1 8 rfl Try.underlying22 QI.info_e rfl (by omega) (by omega) _ outs.length _ rfl Aa xs.length ca (ints xs) rfl (by simp) (fun h => by obtain ⟨ad, e, _, h⟩ := RA.2.2 h; exact ⟨ad, e, h⟩) (by intro u hu; simp only [ints, List.mem_map] at hu; obtain ⟨z, _, rfl⟩ := hu; rfl) (own_turn I.o10 t3 (own_ne_chan I.o10 hch)) (Nat.le_trans I.bel.size t3.size) (by omega) ?_; intro v10' w4 h10 t4 hor; have o9' := own_turn I.o9 t3 (own_ne_chan I.o9 hch); have R9 := (Rd1.of_own (own_turn o9' t4 (fun j hj e => I.ne j hj e))).2; obtain ⟨A10, c10, rfl⟩ := own_slice h10; have R10 := (Rd1.of_own h10).2; rw [← List.map_append] at R10; obtain ⟨hg3, _, _, hc3⟩ := id q3; have o10' := own_turn I.o10 t3 (own_ne_chan I.o10 hch); have q4 := q3.turn t4 (fun e => own_ne_typed o10' hg3 (by decide) _ e rfl) (fun e => own_ne_chan o10' hc3 _ e rfl))
        | (go_at_call 12; refine (same_true ins (outs ++ xs) R9 R10 EQ.out).mono ?_; rintro e w5 ⟨rfl, j, rfl⟩)
        | (go_at_call 13; refine (QI.len_at (w := w4.drewN j) q4).mono ?_; rintro e w6 ⟨rfl, rfl⟩))
      go_ret
      refine ⟨rfl, ?_⟩
      have b3 := below_turn I.bel t3 I.bel.size (fun j hj => by rw [hj]; exact hc)
      exact below_turn b3 (t4.drewN j) (Nat.le_trans I.bel.size t3.size) (fun k hk => own_ge I.o10 hk)

theorem QueueOrders.other (room : Int) (A : Option Addr) (n cap : Nat) (every : Int) (w : World) (hn : n ≤ 9223372036854775807) (h : (room < 1 ∨ 1024 < room) ∨ 300 < n ∨ every < 1) :
    Calls Try.prog 3 #[.int .i64 room, .slice A n cap, .int .i64 every] w fun e w' => e = .returned (.bool true) ∧ Below w.heap.size w w' := by
  by_cases hr : room < 1 ∨ 1024 < room
  · go_enter Try.func3, Try.ntmps3
    go_wp2_with fail
    refine (QI.new_bad room w hr).mono ?_
    rintro e w1 ⟨rfl, rfl⟩
    go_wp2_with fail
    refine (lives_true _).mono ?_
    rintro e w2 ⟨rfl, b2⟩
    go_wp2_with fail
    refine (lives_true _).mono ?_
    rintro e w3 ⟨rfl, b3⟩
    go_wp2
    go_ret
    exact ⟨rfl, b2.trans (b3.mono b2.size)⟩
  · obtain ⟨m, rfl⟩ := Int.eq_ofNat_of_zero_le (show 0 ≤ room by omega)
    have h' : 300 < n ∨ every < 1 := h.resolve_left hr
    have hm := QI.new_ok m w (by omega) (by omega)
    clear h hr
    by_cases hn3 : (300 : Int) < n
    · go_enter Try.func3, Try.ntmps3
      go_wp2_with fail
      refine hm.mono ?_
      rintro e w1 ⟨g, c, rfl, hg, hc, q1, b1⟩
      go_wp2_with fail
      refine (lives_true _).mono ?_
      rintro e w2 ⟨rfl, b2⟩
      go_wp2_with fail
      refine (lives_true _).mono ?_
      rintro e w3 ⟨rfl, b3⟩
      go_wp2
      go_ret
      exact ⟨rfl, b1.trans ((b2.trans (b3.mono b2.size)).mono b1.size)⟩
    · have he : every < 1 := by omega
      go_enter Try.func3, Try.ntmps3
      go_wp2_with fail
      refine hm.mono ?_
      rintro e w1 ⟨g, c, rfl, hg, hc, q1, b1⟩
      go_wp2_with fail
      refine (lives_true _).mono ?_
      rintro e w2 ⟨rfl, b2⟩
      go_wp2_with fail
      refine (lives_true _).mono ?_
      rintro e w3 ⟨rfl, b3⟩
      go_wp2
      go_ret
      exact ⟨rfl, b1.trans ((b2.trans (b3.mono b2.size)).mono b1.size)⟩

theorem QueueOrders.walk {w : World} (room : Int) (_ : (Lit.int .i64 room).wf = true) (A : Option Addr) (n cap : Nat) (l : List Int) (hl : Rd1 w A n (ints l)) (every : Int) (we : (Lit.int .i64 every).wf = true) :
    Calls Try.prog 3 #[.int .i64 room, .slice A n cap, .int .i64 every] w fun e w' => e = .returned (.bool true) ∧ Below w.heap.size w w' := by
  have hw := bounds_i64 we
  by_cases h : (room < 1 ∨ 1024 < room) ∨ 300 < n ∨ every < 1
  · exact QueueOrders.other room A n cap every w hl.2.1 h
  · obtain ⟨m, rfl⟩ := Int.eq_ofNat_of_zero_le (show 0 ≤ room by omega)
    exact QueueOrders.main m (by omega) (by omega) A n cap l hl every (by omega) (by omega) (by omega)
end Go.Proofs.Ytncapimnlgncpaa
