/- what must come of every program: it does. -/
import Derived.Test.YtlldkdhpilcilaaSplit2
namespace Go.Proofs.Ytlldkdhpilcilaa
open Go.RowKit

theorem refint (w : World) (x : Int) : Calls Try.prog 47 #[.int .i64 x] w fun e w' => e = .returned (.agg #[.int .i64 2, .int .i64 x, .string ⟨#[]⟩]) ∧ Below w.heap.size w w' := by
  go_enter Try.func47, Try.ntmps47
  go_wp2
  exact ⟨rfl, _, results_cell_row (p := 2) (ty := 76) rfl _ _ w.heap.size 76 _ (0, 0) _ rfl (heap_alloc_new w _) Try.underlying76 rfl (by kernel_rfl), rfl, (Below.refl _ _).alloc (Nat.le_refl _) _⟩
theorem RdL.two {w : World} {A : Option Addr} {n c : Nat} {r : List V} (h : RdV w A n r) :
    RdL (w.alloc (.cells #[.slice A n c, .slice none 0 0] 24)) (some ⟨w.heap.size, 0, none⟩) 2 [.slice A n c, .slice none 0 0] [r, []] := by
  have hb := heap_alloc_new w (.cells #[Value.slice A n c, .slice none 0 0] 24)
  refine ⟨⟨rfl, by omega, fun _ => ⟨_, rfl, by simp, ?_⟩⟩, rfl, ?_⟩
  · intro j u hu
    rcases j with _ | _ | j
    · exact (cell_of_blk hb 0).trans (by simpa using hu)
    · exact (cell_of_blk hb 1).trans (by simpa using hu)
    · simp at hu
  · intro i r' hr
    rcases i with _ | _ | i
    · obtain rfl : r = r' := by simpa using hr
      exact ⟨A, n, c, rfl, h.below ((Below.refl _ _).alloc (Nat.le_refl _) _)⟩
    · obtain rfl : [] = r' := by simpa using hr
      exact ⟨none, 0, 0, rfl, RdV.nil _⟩
    · simp at hr
theorem RdV.of_own_eq {w : World} {base : Nat} {e : TypeId} {A : Option Addr} {n m c : Nat} {r : List V} {xs : List Value} (h : w.ownsRow base e 3 (.slice A m c) n xs) (hx : xs = cellsR r) (hs : ∀ v ∈ r, v.s.size ≤ 9223372036854775807) : m = n ∧ RdV w A n r := by
  subst hx
  exact RdV.of_own h hs
theorem Rd1.nil (w : World) : Rd1 w none 0 [] := ⟨rfl, by omega, fun h => absurd h (by omega)⟩
theorem live_split {w : World} {A : Option Addr} {n c : Nat} {r : List V} (h : RdV w A n r) :
    Calls Try.prog 23 #[.int .u64 7, .int .i64 0, .int .i64 1, .slice (some ⟨w.heap.size, 0, none⟩) 2 2, .slice none 0 0] (w.alloc (.cells #[.slice A n c, .slice none 0 0] 24))
      fun e w' => ∃ g A' c', e = .returned (.tuple #[.slice (some ⟨g, 0, none⟩) 1 1, .int .i64 0]) ∧ w'.cell? ⟨g, 0, none⟩ = some (.slice A' 2 c') ∧ Below w.heap.size w w' := by
  have hs := split_walk (F := 1) (c := 2) (cc := 0) 7 0 [] (RdL.two (c := c) h) (Rd1.nil _) (by omega) (by omega) (by omega) (by omega) (by omega) (by omega)
  have eE : firstE [] [r, []] = 0 := rfl
  have eN : ∀ q : List V, (partN 7 0 ((1 : Nat) : Int) q).toNat = 0 := by
    intro q
    have := part_range 7 0 ((1 : Nat) : Int) q (by omega) (by omega)
    omega
  have eP : partsOf 1 ([Value.slice A n c, .slice none 0 0].zip (numsOf 7 0 ((1 : Nat) : Int) [] [r, []])) = [[.slice A n c, .slice none 0 0]] := by
    simp only [numsOf, List.map_cons, List.map_nil, eN]
    rfl
  rw [eE, eP] at hs
  refine hs.mono ?_
  rintro e w' (⟨_, g, hs, rfl, O, b⟩ | ⟨h, _⟩)
  · obtain ⟨x, rfl⟩ : ∃ x, hs = [x] := by
      have := O.len
      match hs, this with
      | [x], _ => exact ⟨x, rfl⟩
    have o := O.own 0 x _ rfl rfl
    obtain ⟨A', c', rfl⟩ := own_slice o
    exact ⟨g, A', c', rfl, cell_of_blk O.blk 0, ((Below.refl _ _).alloc (Nat.le_refl _) _).trans (b.mono (by simp))⟩
  · exact absurd rfl h
theorem hash_nil : hashB 0 [] = 14695981038468906945 := by kernel_rfl
theorem bytes_nil (w : World) : Calls Try.prog 15 #[.int .u64 0, .slice none 0 0] w fun e w' => e = .returned (.int .u64 14695981038468906945) ∧ Below w.heap.size w w' := by
  have h := bytes_walk (w := w) (c := 0) 0 [] (Rd1.nil w)
  rw [hash_nil] at h
  exact h
theorem lives_walk (w : World) : Calls Try.prog 13 #[] w fun e w' => e = .returned (.bool true) ∧ Below w.heap.size w w' := by
  have hlive := fun (W : World) A c r (h : RdV W A 1 r) => live_split (c := c) h
  obtain ⟨r, hr⟩ : ∃ r : List V, r = [⟨2, 5, ⟨#[]⟩⟩] := ⟨_, rfl⟩
  have hok : rowOk r = true := by rw [hr]; decide
  obtain ⟨H, hH⟩ : ∃ H, H = hashB 7 (encR r) := ⟨_, rfl⟩
  obtain ⟨PN, hPN⟩ : ∃ PN, PN = partN 7 1 64 r := ⟨_, rfl⟩
  have HRow := Lib.hid (fun (W : World) A c (h : RdV W A 1 r) => hH ▸ row_ok (c := c) 7 r h hok)
  have HPart := Lib.hid (fun (W : World) A c (h : RdV W A 1 r) => hPN ▸ part_ok (c := c) 7 1 64 r h hok (by omega) (by omega) (by omega) (by omega))
  have HRPart := Lib.hid (fun (W : World) A c (h : RdV W A 1 r) => hPN ▸ refpart_ok (c := c) 7 1 64 r h hok (by omega) (by omega) (by omega) (by omega))
  have HArg := Lib.hid (fun (W : World) v => part_arg W 7 9 1 v (by omega))
  have HSplit := Lib.hid (fun (W : World) A c (h : RdV W A 1 r) => hlive W A c r h)
  have HPut := Lib.hid (fun (W : World) A c (h : RdV W A 1 r) => refput (c := c) r h hok)
  have HRB := Lib.hid (fun (W : World) A c (h : Rd1 W A (encR r).length (u8s (encR r))) => hH ▸ refbytes (c := c) 7 (encR r) h)
  have HB := Lib.hid bytes_nil
  have HI := Lib.hid (refint w 5)
  have HC := Lib.hid (show [Value.int .i64 2, .int .i64 5, .string ⟨#[]⟩] = cellsR r by rw [hr]; rfl)
  have HS := Lib.hid (show ∀ v ∈ r, v.s.size ≤ 9223372036854775807 by rw [hr]; intro v hv; obtain rfl := List.mem_singleton.1 hv; exact Nat.zero_le _)
  clear hlive hr hok hH hPN
  go_enter Try.func13, Try.ntmps13
  go_wp2_with (go_at_call 47; refine HI.out.mono ?_; rintro e w1 ⟨rfl, b1⟩)
  have ob := World.ownsRow_lit (base := w.heap.size) (e := 76) (size := 3) w1 #[.int .i64 2, .int .i64 5, .string ⟨#[]⟩] 1 b1.size (by simp [maxLen]) (by simp)
  have r1 := (RdV.of_own_eq ob HC.out HS.out).2
  have B1 : Below w.heap.size w (w1.alloc (.cells #[.int .i64 2, .int .i64 5, .string ⟨#[]⟩] 76)) := b1.alloc b1.size _
  clear ob
  go_wp2_with (first
    | (go_at_call 14; refine (HRow.out _ _ _ r1).mono ?_; rintro e w2 ⟨rfl, b⟩; have B2 := B1.trans (b.mono B1.size); have r2 := r1.below b; clear b)
    | (go_at_call 19; (with_reducible refine (HPart.out _ _ _ r2).mono ?_); rintro e w3 ⟨rfl, b⟩; have B3 := B2.trans (b.mono B2.size); have r3 := r2.below b; clear b)
    | (go_at_call 23; refine (HSplit.out _ _ _ r3).mono ?_; rintro e w4 ⟨g, A4, c4, rfl, cc4, b⟩; have B4 := B3.trans (b.mono B3.size); have r4 := r3.below b; clear b)
    | (go_at_call 19; refine (HArg.out _ _).mono ?_; rintro e w5 ⟨rfl, hw⟩; obtain rfl := hw.symm; clear hw)
    | (go_at_call 18; refine (HPut.out _ _ _ r4).mono ?_; rintro e w6 ⟨v6, rfl, o6, b⟩; obtain ⟨A6, c6, rfl⟩ := own_slice o6; have r6 := (Rd1.of_own o6).2; have C6 := b; clear o6 b)
    | (go_at_call 16; refine (HRB.out _ _ _ r6).mono ?_; rintro e w7 ⟨rfl, b⟩; have C7 := C6.trans (b.mono C6.size); clear b)
    | (go_at_call 15; refine (HB.out _).mono ?_; rintro e w8 ⟨rfl, b⟩; have C8 := C7.trans (b.mono C7.size); clear b)
    | (go_at_call 21; refine (HRPart.out _ _ _ (r4.below C8)).mono ?_; rintro e w9 ⟨rfl, b⟩; have C9 := C8.trans (b.mono C8.size); have cc9 := cell_belowv cc4 C9 (World.block_lt_of_cell? w4 _ cc4); clear b))
  go_ret
  exact ⟨by trivial, B4.trans (C9.mono B4.size)⟩
end Go.Proofs.Ytlldkdhpilcilaa
