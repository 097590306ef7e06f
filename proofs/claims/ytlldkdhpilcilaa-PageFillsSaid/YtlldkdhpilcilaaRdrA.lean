/- the reader of a row's bytes. -/
import Derived.Test.YtlldkdhpilcilaaSort
import Derived.Test.YtlldkdhpilcilaaDec
import Derived.Laws.BytesArg
namespace Go.Proofs.Ytlldkdhpilcilaa
open Go.RowKit
set_option linter.unusedVariables false
set_option linter.unusedSimpArgs false

/-- The reader at block b: the bytes' slice, where it stands, whether it has gone wrong. -/
def RAt (w : World) (b : Nat) (A : Option Addr) (n c at_ : Nat) (bad : Bool) : Prop := w.heap[b]? = some (.cells #[.slice A n c, .int .i64 at_, .bool bad] 109)
theorem zeros_u8 (k : Nat) : madeCells #[Value.int .u8 0] k = (List.replicate k (Value.int .u8 0)).toArray := madeCells_one _ _
/-- What next gives: the bytes, where the reader stands then, whether it has gone wrong. -/
def NPost (w : World) (b : Nat) (A : Option Addr) (n c k : Nat) (bs' : List Int) (at' : Nat) (bad' : Bool) (e : Ending) (w' : World) : Prop :=
  ∃ A' c', e = .returned (.slice A' k c') ∧ Rd1 w' A' k (u8s bs') ∧ RAt w' b A n c at' bad' ∧ Turn (fun i => i = b) w w'
theorem zeros_rd {w : World} {g k : Nat} (h : w.heap[g]? = some (.cells (List.replicate k (Value.int .u8 0)).toArray 5)) (hk : k ≤ 100000) : Rd1 w (some ⟨g, 0, none⟩) k (u8s (List.replicate k 0)) :=
  ⟨by simp, by omega, fun _ => ⟨_, rfl, lt_of_heap h, fun j u hu => by
    have ea : (⟨g, 0, none⟩ : Addr).add j = ⟨g, j, none⟩ := by unfold Addr.add; split <;> simp_all
    rw [ea]
    exact (cell_of_blk h j).trans (by rw [List.getElem?_toArray]; simpa [u8s] using hu)⟩⟩
theorem alloc_at {W w : World} (hs : W.heap.size = w.heap.size) (o : Obj) : (W.alloc o).heap[w.heap.size]? = some o := by
  rw [← hs]
  exact heap_alloc_new W o
theorem next_was {w : World} {b n c at_ k : Nat} {A : Option Addr} (h : RAt w b A n c at_ true) (hk : k ≤ 100000) :
    Calls Try.prog 77 #[.pointer (some ⟨b, 0, none⟩), .int .i64 k] w (NPost w b A n c k (List.replicate k 0) at_ true) := by
  have c2 : w.cell? ⟨b, 2, none⟩ = some (.bool true) := cell_of_blk h 2
  have f2 : w.frozen? ⟨b, 2, none⟩ = false := free_of_blk h 2
  have HH := Lib.hid h
  have info8 := info_u8
  clear h
  go_enter Try.func77, Try.ntmps77
  go_wp2
  go_quiet (fail)
  go_wp2_with (at_make; refine wp_makeN rfl (.tmp 26) 23 5 (.int .u8 0) 1 rfl Try.underlying23 info8 rfl k rfl (by omega) (by omega) ?_)
  go_ret
  refine ⟨_, _, rfl, zeros_rd (alloc_at (by simp [World.setCell]) _) hk, ?_, ?_⟩
  · exact blk_alloc (blk_set (w := w.drewN _) HH.out 2 (.bool true)) _
  · exact (((Turn.refl (fun i => i = b) w).drewN _).setCell (.inl rfl) _).alloc _
theorem next_short {w : World} {b n c at_ k : Nat} {A : Option Addr} (h : RAt w b A n c at_ false) (hat : at_ ≤ n) (hn : n ≤ 100000) (hk : k ≤ 100000) (hs : n < at_ + k) :
    Calls Try.prog 77 #[.pointer (some ⟨b, 0, none⟩), .int .i64 k] w (NPost w b A n c k (List.replicate k 0) at_ true) := by
  have c0 : w.cell? ⟨b, 0, none⟩ = some (.slice A n c) := cell_of_blk h 0
  have c1 : w.cell? ⟨b, 1, none⟩ = some (.int .i64 at_) := cell_of_blk h 1
  have c2 : w.cell? ⟨b, 2, none⟩ = some (.bool false) := cell_of_blk h 2
  have f2 : w.frozen? ⟨b, 2, none⟩ = false := free_of_blk h 2
  have ht : decide ((n : Int) - at_ < k) = true := by simp; omega
  have HH := Lib.hid h
  have info8 := info_u8
  clear h
  go_enter Try.func77, Try.ntmps77
  go_wp2
  go_quiet (fail)
  go_wp2_with (at_make; refine wp_makeN rfl (.tmp 26) 23 5 (.int .u8 0) 1 rfl Try.underlying23 info8 rfl k rfl (by omega) (by omega) ?_)
  go_ret
  refine ⟨_, _, rfl, zeros_rd (alloc_at (by simp [World.setCell]) _) hk, ?_, ?_⟩
  · exact blk_alloc (blk_set (w := w.drewN _) HH.out 2 (.bool true)) _
  · exact (((Turn.refl (fun i => i = b) w).drewN _).setCell (.inl rfl) _).alloc _
theorem next_ok {w : World} {b n c at_ k : Nat} {ad : Addr} (bs : List Int) (hr : Rd1 w (some ad) n (u8s bs)) (h : RAt w b (some ad) n c at_ false) (hab : ad.block ≠ b) (hn : n ≤ 100000) (hnc : n ≤ c) (hc : c ≤ 9223372036854775807) (hs : at_ + k ≤ n) :
    Calls Try.prog 77 #[.pointer (some ⟨b, 0, none⟩), .int .i64 k] w (NPost w b (some ad) n c k ((bs.drop at_).take k) (at_ + k) false) := by
  have c0 : w.cell? ⟨b, 0, none⟩ = some (.slice (some ad) n c) := cell_of_blk h 0
  have c1 : w.cell? ⟨b, 1, none⟩ = some (.int .i64 at_) := cell_of_blk h 1
  have c2 : w.cell? ⟨b, 2, none⟩ = some (.bool false) := cell_of_blk h 2
  have f1 : w.frozen? ⟨b, 1, none⟩ = false := free_of_blk h 1
  have ht : decide ((n : Int) - at_ < k) = false := by simp; omega
  have hk1 : at_ + k ≤ c := by omega
  have hk2 : at_ ≤ at_ + k := by omega
  have HH := Lib.hid (And.intro h hr)
  clear h hr
  go_enter Try.func77, Try.ntmps77
  go_wp2
  go_quiet (fail)
  go_wp2
  go_quiet (fail)
  go_wp2
  · obtain rfl : c = at_ := by assumption
    go_ret
    have hk0 : k = 0 := by omega
    refine ⟨_, _, rfl, ⟨by have := HH.out.2.1; simp at this ⊢; omega, by omega, fun h => absurd h (by omega)⟩, blk_set (w := w.drewN _) HH.out.1 1 _, ?_⟩
    exact (((Turn.refl (fun i => i = b) w).drewN _).setCell (.inl rfl) _).drewN _
  · go_ret
    have T : ∀ q v q2, Turn (fun i => i = b) w (((w.drewN q).setCell ⟨b, 1, none⟩ v).drewN q2) := fun q v q2 => (((Turn.refl (fun i => i = b) w).drewN q).setCell (.inl rfl) v).drewN q2
    have R := (HH.out.2.drop (h := at_) (by omega)).take (h := k) (by omega)
    rw [← List.map_drop, ← List.map_take] at R
    refine ⟨_, _, rfl, R.turn (T _ _ _) (fun a e => ?_), blk_set (w := w.drewN _) HH.out.1 1 _, T _ _ _⟩
    obtain rfl := Option.some.inj e
    rw [add_block]
    exact hab
end Go.Proofs.Ytlldkdhpilcilaa
namespace Go.Proofs.Ytlldkdhpilcilaa
open Go.RowKit
set_option linter.unusedVariables false
set_option linter.unusedSimpArgs false

theorem byte_ok {w : World} {b n c at_ : Nat} {ad : Addr} (bs : List Int) (hr : Rd1 w (some ad) n (u8s bs)) (h : RAt w b (some ad) n c at_ false) (hab : ad.block ≠ b) (hn : n ≤ 100000) (hnc : n ≤ c) (hc : c ≤ 9223372036854775807) (hs : at_ < n) (x : Int) (hx : x = bs.getD at_ 0) (h0 : 0 ≤ x) (h1 : x ≤ 255) :
    Calls Try.prog 73 #[.pointer (some ⟨b, 0, none⟩)] w fun e w' => e = .returned (.int .i64 x) ∧ RAt w' b (some ad) n c (at_ + 1) false ∧ Turn (fun i => i = b) w w' := by
  have hbl : bs.length = n := by simpa using hr.1
  have hd : (bs.drop at_).take 1 = [x] := by
    rw [drop_cons bs 0 (show at_ < bs.length by omega), hx]
    rfl
  have HN := next_ok (k := 1) bs hr h hab hn hnc hc (by omega)
  rw [hd] at HN
  have HN := Lib.hid HN
  clear hr h hx hd hbl
  go_enter Try.func73, Try.ntmps73
  go_wp2_with (go_at_call 77; refine HN.out.mono ?_; rintro e w1 ⟨A', c', rfl, r1, a1, t1⟩; obtain ⟨ad1, rfl, had1, hc1⟩ := r1.at2 (k := 0) (by omega); have hc2 : w1.cell? (ad1.add 0) = some (.int .u8 x) := hc1.trans rfl; have hc3 : w1.cell? ad1 = some (.int .u8 x) := by simpa [Addr.add] using hc2)
  go_ret
  exact ⟨by trivial, a1, t1⟩
theorem byte_bad {w : World} {b n c at_ : Nat} {A : Option Addr} {bad : Bool} (h : RAt w b A n c at_ bad) (hat : at_ ≤ n) (hn : n ≤ 100000) (hs : bad = true ∨ n ≤ at_) :
    Calls Try.prog 73 #[.pointer (some ⟨b, 0, none⟩)] w fun e w' => e = .returned (.int .i64 0) ∧ RAt w' b A n c at_ true ∧ Turn (fun i => i = b) w w' := by
  have HN : Calls Try.prog 77 #[.pointer (some ⟨b, 0, none⟩), .int .i64 ((1 : Nat) : Int)] w (NPost w b A n c 1 (List.replicate 1 0) at_ true) := by
    cases bad with
    | true => exact next_was h (by omega)
    | false => exact next_short h hat hn (by omega) (by rcases hs with h | h; cases h; omega)
  have HN := Lib.hid HN
  clear h hs
  go_enter Try.func73, Try.ntmps73
  go_wp2_with (go_at_call 77; refine HN.out.mono ?_; rintro e w1 ⟨A', c', rfl, r1, a1, t1⟩; obtain ⟨ad1, rfl, had1, hc1⟩ := r1.at2 (k := 0) (by omega); have hc2 : w1.cell? (ad1.add 0) = some (.int .u8 0) := hc1.trans rfl; have hc3 : w1.cell? ad1 = some (.int .u8 0) := by simpa [Addr.add] using hc2)
  go_ret
  exact ⟨by trivial, a1, t1⟩
end Go.Proofs.Ytlldkdhpilcilaa
namespace Go.Proofs.Ytlldkdhpilcilaa
open Go.RowKit
set_option linter.unusedVariables false
set_option linter.unusedSimpArgs false

/-- What next gives: the bytes, where the reader stands, whether it has gone wrong. -/
def nextS (bs : List Int) (n a k : Nat) (bad : Bool) : List Int × Nat × Bool := if bad = true ∨ n < a + k then (List.replicate k 0, a, true) else ((bs.drop a).take k, a + k, false)
def byteS (bs : List Int) (n a : Nat) (bad : Bool) : Int × Nat × Bool := ((nextS bs n a 1 bad).1.getD 0 0, (nextS bs n a 1 bad).2)
/-- A reader of bytes. -/
structure Rdg (w : World) (b : Nat) (ad : Addr) (bs : List Int) (n c a : Nat) (bad : Bool) : Prop where
  rd : Rd1 w (some ad) n (u8s bs)
  isb : isB bs
  ne : ad.block ≠ b
  at_ : RAt w b (some ad) n c a bad
  le : a ≤ n
  cap : n ≤ c
  c64 : c ≤ 9223372036854775807
  n5 : n ≤ 100000
theorem Rdg.len {w : World} {b : Nat} {ad : Addr} {bs : List Int} {n c a : Nat} {bad : Bool} (h : Rdg w b ad bs n c a bad) : bs.length = n := by simpa using h.rd.1
theorem nextS_le (bs : List Int) (n a k : Nat) (bad : Bool) (h : a ≤ n) : (nextS bs n a k bad).2.1 ≤ n := by
  unfold nextS
  split <;> simp <;> omega
theorem isB_zeros (k : Nat) : isB (List.replicate k 0) := fun y hy => by
  obtain rfl := List.eq_of_mem_replicate hy
  omega
theorem nextS_isB (bs : List Int) (n a k : Nat) (bad : Bool) (h : isB bs) : isB (nextS bs n a k bad).1 := by
  unfold nextS
  split
  · exact isB_zeros k
  · exact (h.drop a).take k
theorem nextS_len (bs : List Int) (n a k : Nat) (bad : Bool) (h : bs.length = n) : (nextS bs n a k bad).1.length = k := by
  unfold nextS
  split
  · simp
  · simp; omega
theorem byteS_isB (bs : List Int) (n a : Nat) (bad : Bool) (h : isB bs) (hl : bs.length = n) : 0 ≤ (byteS bs n a bad).1 ∧ (byteS bs n a bad).1 ≤ 255 := by
  refine nextS_isB bs n a 1 bad h _ ?_
  have := nextS_len bs n a 1 bad hl
  show (nextS bs n a 1 bad).1.getD 0 0 ∈ _
  rw [List.getD_eq_getElem?_getD, List.getElem?_eq_getElem (by omega)]
  exact List.getElem_mem _
theorem next_any {w : World} {b n c a k : Nat} {ad : Addr} {bad : Bool} (bs : List Int) (R : Rdg w b ad bs n c a bad) (hk : k ≤ 100000) :
    Calls Try.prog 77 #[.pointer (some ⟨b, 0, none⟩), .int .i64 k] w (NPost w b (some ad) n c k (nextS bs n a k bad).1 (nextS bs n a k bad).2.1 (nextS bs n a k bad).2.2) := by
  unfold nextS
  split
  · next h =>
    cases bad with
    | true => exact next_was R.at_ hk
    | false => exact next_short R.at_ R.le R.n5 hk (by rcases h with h | h; cases h; exact h)
  · next h =>
    obtain rfl : bad = false := by cases bad <;> simp_all
    exact next_ok bs R.rd R.at_ R.ne R.n5 R.cap R.c64 (by simp at h; omega)
theorem Rdg.next {w w' : World} {b n c a k : Nat} {ad : Addr} {bad : Bool} {bs : List Int} (R : Rdg w b ad bs n c a bad) {a' : Nat} {bad' : Bool} (h : RAt w' b (some ad) n c a' bad') (ht : Turn (fun i => i = b) w w') (e : a' = (nextS bs n a k bad).2.1) : Rdg w' b ad bs n c a' bad' :=
  ⟨R.rd.turn ht (fun ad' e => by obtain rfl := Option.some.inj e; exact R.ne), R.isb, R.ne, h, by rw [e]; exact nextS_le _ _ _ _ _ R.le, R.cap, R.c64, R.n5⟩
theorem Rdg.below {w w' : World} {b n c a : Nat} {ad : Addr} {bad : Bool} {bs : List Int} (R : Rdg w b ad bs n c a bad) (h : Below w.heap.size w w') : Rdg w' b ad bs n c a bad :=
  ⟨R.rd.below h, R.isb, R.ne, blk_below R.at_ h (lt_of_heap R.at_), R.le, R.cap, R.c64, R.n5⟩
theorem Rdg.turn {w w' : World} {b n c a : Nat} {ad : Addr} {bad : Bool} {bs : List Int} {S : Nat → Prop} (R : Rdg w b ad bs n c a bad) (h : Turn S w w') (h1 : ¬ S b) (h2 : ¬ S ad.block) : Rdg w' b ad bs n c a bad :=
  ⟨R.rd.turn h (fun ad' e => by obtain rfl := Option.some.inj e; exact h2), R.isb, R.ne, h.heap R.at_ h1, R.le, R.cap, R.c64, R.n5⟩
theorem byte_any {w : World} {b n c a : Nat} {ad : Addr} {bad : Bool} (bs : List Int) (R : Rdg w b ad bs n c a bad) :
    Calls Try.prog 73 #[.pointer (some ⟨b, 0, none⟩)] w fun e w' => ∃ x : Nat, (x : Int) = (byteS bs n a bad).1 ∧ x ≤ 255 ∧ e = .returned (.int .i64 x) ∧ Rdg w' b ad bs n c (byteS bs n a bad).2.1 (byteS bs n a bad).2.2 ∧ Turn (fun i => i = b) w w' := by
  have hb := byteS_isB bs n a bad R.isb R.len
  by_cases h : bad = true ∨ n < a + 1
  · have e : byteS bs n a bad = (0, a, true) := by unfold byteS nextS; rw [if_pos h]; rfl
    rw [e]
    refine (byte_bad R.at_ R.le R.n5 (by rcases h with h | h; exact .inl h; exact .inr (by omega))).mono ?_
    rintro e w' ⟨rfl, h1, t1⟩
    exact ⟨0, rfl, by omega, rfl, ⟨R.rd.turn t1 (fun ad' e => by obtain rfl := Option.some.inj e; exact R.ne), R.isb, R.ne, h1, R.le, R.cap, R.c64, R.n5⟩, t1⟩
  · obtain rfl : bad = false := by cases bad <;> simp_all
    have e : byteS bs n a false = (bs.getD a 0, a + 1, false) := by
      unfold byteS nextS
      rw [if_neg h]
      have hl := R.len
      rw [drop_cons bs 0 (show a < bs.length by simp at h; omega)]
      rfl
    rw [e] at hb ⊢
    refine (byte_ok bs R.rd R.at_ R.ne R.n5 R.cap R.c64 (by simp at h; omega) _ rfl hb.1 hb.2).mono ?_
    rintro e w' ⟨rfl, h1, t1⟩
    refine ⟨(bs.getD a 0).toNat, by simp only at hb ⊢; omega, by simp only at hb; omega, ?_, ⟨R.rd.turn t1 (fun ad' e => by obtain rfl := Option.some.inj e; exact R.ne), R.isb, R.ne, h1, by simp at h; omega, R.cap, R.c64, R.n5⟩, t1⟩
    have : (((bs.getD a 0).toNat : Nat) : Int) = bs.getD a 0 := by simp only at hb; omega
    rw [this]

/-- What value gives. -/
def valS (bs : List Int) (n a : Nat) : V × Nat × Bool :=
  let x := byteS bs n a false
  if x.1 = 1 then (let y := byteS bs n x.2.1 x.2.2; (⟨1, y.1, ⟨#[]⟩⟩, y.2))
  else if x.1 = 2 then (let y := nextS bs n x.2.1 7 x.2.2; (⟨2, bigE y.1 - 9007199254740992, ⟨#[]⟩⟩, y.2))
  else if x.1 = 3 then (let y := byteS bs n x.2.1 x.2.2; let z := nextS bs n y.2.1 y.1.toNat y.2.2; (⟨3, 0, strOf z.1⟩, z.2))
  else (⟨x.1, 0, ⟨#[]⟩⟩, x.2)
theorem conv_rd {w : World} {A : Option Addr} {n c : Nat} {bs : List Int} (h : Rd1 w A n (u8s bs)) : (convert 23 9 (.slice A n c)).run Try.prog w = .ok (.string (strOf bs)) w := by
  rw [run_convert_bytes_string w 23 9 5 _ n c Try.underlying23 Try.underlying5 Try.underlying9 ]
  rcases Nat.eq_zero_or_pos n with h0 | h0
  · subst h0
    obtain rfl : bs = [] := List.eq_nil_of_length_eq_zero (by simpa using h.1)
    cases A with
    | none => simp [Conv.bytesToString]; rfl
    | some ad =>
      rw [run_bytesToString w ad 0 c [] (by exact run_loadCells_list (P := Try.prog) w ad [] (fun j v hj => by simp at hj))]
      rfl
  · obtain ⟨ad, rfl, _, hc⟩ := h.2.2 h0
    have hl : (loadCells ad n).run Try.prog w = .ok (bs.map (Value.int .u8)).toArray w := by
      have := run_loadCells_list (P := Try.prog) w ad (bs.map (Value.int .u8)) (fun j v hj => hc j v hj)
      have hn : (bs.map (Value.int .u8)).length = n := h.1
      rwa [hn] at this
    rw [run_bytesToString w ad n c bs hl, foldl_push_bytes]
    simp [strOf, ByteArray.empty, ByteArray.emptyWithCapacity]
    rfl
end Go.Proofs.Ytlldkdhpilcilaa
