/- A queue's Move, and All of a nil queue. -/
import Derived.Test.YtncapimnlgncpaaQAI
namespace Go.Proofs.Ytncapimnlgncpaa
open Go.Conc Go.RowKit
namespace QI

theorem all_nil (w : World) : Calls Try.prog 11 #[.pointer none] w fun e w' => e = .returned (.slice none 0 0) ∧ w = w' := by
  go_enter Try.func11, Try.ntmps11
  go_wp2
  refine wp_loop_once ?_
  go_wp2_with (go_at_call 10; refine (take_nil _).mono ?_; rintro e w1 ⟨rfl, rfl⟩)
  go_ret
  exact ⟨rfl, rfl⟩

theorem move_nil (w : World) (n : Int) : Calls Try.prog 24 #[.pointer none, .pointer none, .int .i64 n] w fun e w' => e = .returned (.int .i64 0) ∧ w = w' := by
  go_enter Try.func24, Try.ntmps24
  go_wp2
  go_ret
  exact ⟨rfl, rfl⟩

theorem size_q : ∃ j, Try.prog.info? 54 = some j ∧ j.size ≠ 0 := by
  have h : (Try.prog.info? 54).map (·.size) = some 2 := by kernel_rfl
  obtain ⟨j, hj, hs⟩ := Option.map_eq_some_iff.1 h
  exact ⟨j, hj, by rw [hs]; decide⟩
theorem move_same (w : World) (g : Nat) (n : Int) : Calls Try.prog 24 #[.pointer (some ⟨g, 0, none⟩), .pointer (some ⟨g, 0, none⟩), .int .i64 n] w fun e w' => e = .returned (.int .i64 0) ∧ w = w' := by
  obtain ⟨j, hj, _⟩ := size_q
  have hs := fun (w : World) => run_eql_ptr_same (P := Try.prog) (w := w) (⟨g, 0, none⟩ : Addr) Try.underlying23 hj
  clear hj
  go_enter Try.func24, Try.ntmps24
  go_wp2
  go_ret
  exact ⟨rfl, rfl⟩

/-- How many are moved. -/
def moveN (most : Int) (cl2 : Bool) (cap2 nx ny : Nat) : Nat := if cl2 then 0 else min most.toNat (min nx (cap2 - ny))

structure MoveInv (w0 : World) (g c cap : Nat) (cl : Bool) (g2 c2 cap2 : Nat) (cl2 : Bool) (xs ys : List Int) (most : Int) (k : Nat) (wr : World) : Prop where
  le : k ≤ moveN most cl2 cap2 xs.length ys.length
  a : At wr g c cap ((xs.drop k).map (Value.int .i64)) cl
  b : At wr g2 c2 cap2 ((ys ++ xs.take k).map (Value.int .i64)) cl2
  t : Turn (fun j => j = c ∨ j = c2) w0 wr

theorem move_at {w : World} {g c cap : Nat} {cl : Bool} {g2 c2 cap2 : Nat} {cl2 : Bool} (xs ys : List Int) (most : Int) (ha : At w g c cap (xs.map (Value.int .i64)) cl) (hb : At w g2 c2 cap2 (ys.map (Value.int .i64)) cl2)
    (hg : g ≠ g2) (hc : c ≠ c2) (hx : xs.length ≤ 1024) (hy : ys.length ≤ cap2) (hcap : cap2 ≤ 1024) :
    Calls Try.prog 24 #[.pointer (some ⟨g, 0, none⟩), .pointer (some ⟨g2, 0, none⟩), .int .i64 most] w fun e w' => e = .returned (.int .i64 (moveN most cl2 cap2 xs.length ys.length)) ∧
      MoveInv w g c cap cl g2 c2 cap2 cl2 xs ys most (moveN most cl2 cap2 xs.length ys.length) w' := by
  obtain ⟨j, hj, hjs⟩ := size_q
  have hs := run_eql_ptr_other (P := Try.prog) (w := w) (a := ⟨g, 0, none⟩) (b := ⟨g2, 0, none⟩) Try.underlying23 hj hjs (fun e => hg (by injection e)) ha.1 hb.1
  have hgc2 : g ≠ c2 := by
    rintro rfl
    obtain ⟨_, _, _, h2⟩ := hb
    rw [ha.1] at h2
    cases h2
  have hg2c : g2 ≠ c := by
    rintro rfl
    obtain ⟨_, _, _, h2⟩ := ha
    rw [hb.1] at h2
    cases h2
  clear hj hjs
  go_enter Try.func24, Try.ntmps24
  go_wp2
  clear hs
  go_loopw [7] (fun n wr => ∃ k : Nat, n = .int .i64 k ∧ MoveInv w g c cap cl g2 c2 cap2 cl2 xs ys most k wr) (fun n _ => xs.length - (intOf n).toNat)
  case atStart => exact ⟨0, rfl, ⟨Nat.zero_le _, ha, by simpa using hb, Turn.refl _ _⟩⟩
  case round =>
    obtain ⟨k, rfl, I⟩ := hrel
    have hle := I.le
    unfold moveN at hle
    have hlb : ((ys ++ xs.take k).map (Value.int .i64)).length = ys.length + min k xs.length := by simp
    by_cases hlt : (k : Int) < most
    case neg =>
      have hk : k = moveN most cl2 cap2 xs.length ys.length := by
        unfold moveN
        split at hle
        · rename_i h; rw [if_pos h]; omega
        · rename_i h; rw [if_neg h]; omega
      clear hlb hle
      go_wp2
      go_ret
      rw [← hk]
      exact ⟨rfl, I⟩
    case pos =>
      cases cl2 with
      | true =>
        have hk : k = moveN most true cap2 xs.length ys.length := by unfold moveN; simp at hle ⊢; exact hle
        clear hlb hle
        go_wp2_with (go_at_call 21; refine (room_closed I.b).mono ?_; rintro e w1 ⟨rfl, rfl⟩)
        go_ret
        rw [← hk]
        exact ⟨rfl, I⟩
      | false =>
        simp only [Bool.false_eq_true, if_false] at hle
        have hr := room_open I.b (by rw [hlb]; omega) hcap
        rw [hlb, show ys.length + min k xs.length = ys.length + k from by omega] at hr
        obtain ⟨r, hr0⟩ : ∃ r : Int, r = (cap2 : Int) - ((ys.length + k : Nat) : Int) := ⟨_, rfl⟩
        rw [← hr0] at hr
        have hR := Lib.hid hr
        clear hr hlb
        by_cases hfull : cap2 ≤ ys.length + k
        · have hk : k = moveN most false cap2 xs.length ys.length := by unfold moveN; simp; omega
          have hz : r ≤ 0 := by omega
          have HK := Lib.hid hk
          clear hr0 hk hle hfull
          go_wp2_with (go_at_call 21; refine hR.out.mono ?_; rintro e w1 ⟨rfl, n, rfl⟩)
          go_ret
          rw [← HK.out]
          exact ⟨rfl, I.le, I.a, I.b, I.t.drewN _⟩
        · have hz : 0 < r := by omega
          by_cases hxs : k < xs.length
          · have hat := I.a
            rw [List.drop_eq_getElem_cons hxs, List.map_cons] at hat
            have hbt := I.b
            have hlen : ((ys ++ xs.take k).map (Value.int .i64)).length < cap2 := by simp; omega
            have hle' : k + 1 ≤ moveN most false cap2 xs.length ys.length := by unfold moveN; simp; omega
            have HLE := Lib.hid hle'
            have hmove : ∀ w1 w2, At w1 g c cap ((xs.drop (k + 1)).map (Value.int .i64)) cl → Turn (· = c) wr w1 → At w2 g2 c2 cap2 ((ys ++ xs.take k).map (Value.int .i64) ++ [(Value.int .i64) xs[k]]) false → Turn (· = c2) w1 w2 →
                MoveInv w g c cap cl g2 c2 cap2 false xs ys most (k + 1) w2 := fun w1 w2 a1 t1 b2 t2 =>
              ⟨HLE.out, a1.turn t2 hgc2 hc, by rw [List.take_succ_eq_append_getElem hxs, ← List.append_assoc, List.map_append]; exact b2, (I.t.then_ t1 (fun j h => .inl (.inl h))).then_ t2 (fun j h => .inl (.inr h))⟩
            have HM := Lib.hid hmove
            clear hr0 hle hfull hle' hmove
            go_wp2_with (first
              | (go_at_call 21; refine hR.out.mono ?_; rintro e w1 ⟨rfl, n, rfl⟩)
              | (go_at_call 10; refine (take_some (w := wr.drewN n) _ _ hat).mono ?_; rintro e w2 ⟨rfl, hat2, ht2⟩)
              | (go_at_call 9; refine (put_room (At.turn hbt (show Turn (· = c) wr w2 from ⟨ht2.os, ht2.tape, ht2.output, ht2.size, ht2.block⟩) hg2c (fun e => hc e.symm)) hlen _).mono ?_; rintro e w3 ⟨rfl, hbt3, ht3⟩))
            go_roundw
            case rel => exact ⟨k + 1, by go_num, HM.out w2 _ hat2 ⟨ht2.os, ht2.tape, ht2.output, ht2.size, ht2.block⟩ hbt3 ht3⟩
            case measure => simp [intOf]; omega
          · have hke : k = xs.length := by omega
            have hk : k = moveN most false cap2 xs.length ys.length := by unfold moveN; simp; omega
            have HK := Lib.hid hk
            have hat := I.a
            rw [List.drop_of_length_le (by omega), List.map_nil] at hat
            have hI : MoveInv w g c cap cl g2 c2 cap2 false xs ys most k wr := I
            have HI := Lib.hid hI
            clear hr0 hk hle hfull hke hI I
            go_wp2_with (first
              | (go_at_call 21; refine hR.out.mono ?_; rintro e w1 ⟨rfl, n, rfl⟩)
              | (go_at_call 10; refine (take_empty (w := wr.drewN n) hat).mono ?_; rintro e w2 ⟨rfl, rfl⟩))
            go_ret
            rw [← HK.out]
            exact ⟨rfl, HI.out.le, HI.out.a, HI.out.b, HI.out.t.drewN _⟩
end QI
end Go.Proofs.Ytncapimnlgncpaa
