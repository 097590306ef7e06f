/- the document's bytes of a row. -/
import Derived.Test.YtlldkdhpilcilaaRPut
namespace Go.Proofs.Ytlldkdhpilcilaa
open Go.RowKit

theorem refput {w : World} {A : Option Addr} {n c : Nat} (r : List V) (hr : RdV w A n r) (hk : rowOk r = true) :
    Calls Try.prog 18 #[.slice A n c] w fun e w' => ∃ v, e = .returned v ∧ w'.ownsRow w.heap.size 5 1 v (encR r).length (u8s (encR r)) ∧ Below w.heap.size w w' := by
  simp only [rowOk, Bool.and_eq_true, decide_eq_true_eq] at hk
  obtain ⟨hle, hall⟩ := hk
  have hlen := hr.len
  have hn : n ≤ 32 := by omega
  have HALL := Lib.hid hall
  have HLEN := Lib.hid hlen
  have hw8 : IntKind.u8.wrap (n : Int) = n := u8_small (by omega) (by omega)
  clear hle hall hlen
  go_enter Try.func18, Try.ntmps18
  go_wp2
  have hown : (w.alloc (.cells #[.int .u8 n] 5)).ownsRow w.heap.size 5 1 (.slice (some ⟨w.heap.size, 0, none⟩) 1 1) (1 + ((r.take 0).flatMap encV).length) (u8s ((n : Int) :: (r.take 0).flatMap encV)) := by
    have := World.ownsRow_lit (base := w.heap.size) (e := 5) (size := 1) w #[.int .u8 n] 1 (Nat.le_refl _) (by simp [maxLen]) (by simp)
    simpa [u8s] using this
  have bel1 : Below w.heap.size w (w.alloc (.cells #[.int .u8 n] 5)) := (Below.refl _ _).alloc (Nat.le_refl _) _
  go_loopw [3, 4] (fun b i wr => ∃ k : Nat, k ≤ n ∧ i = .int .i64 k ∧ wr.ownsRow w.heap.size 5 1 b (1 + ((r.take k).flatMap encV).length) (u8s ((n : Int) :: (r.take k).flatMap encV)) ∧ Below w.heap.size w wr) (fun _ i _ => n - (intOf i).toNat)
  case atStart => exact ⟨0, Nat.zero_le _, rfl, hown, bel1⟩
  case round =>
    clear hown bel1
    obtain ⟨k, hkn, rfl, ho, bel⟩ := hrel
    by_cases hlt : k < n
    · obtain ⟨ad, v, rfl, had, hv, hs, d0, d1, d2⟩ := hr.at_ bel hlt
      have HV := Lib.hid hv
      have hvo : vOk v = true := by
        have := HALL.out
        rw [List.all_eq_true] at this
        obtain ⟨hl, e⟩ := List.getElem?_eq_some_iff.1 hv
        exact this v (e ▸ List.getElem_mem hl)
      have hle : ((r.take k).flatMap encV).length ≤ 32 * 66 := by
        have := encs_length_le (r.take k) (take_all k HALL.out)
        have h2 : (r.take k).length ≤ 32 := by simp; omega
        omega
      have sz := bel.size
      have next : ∀ (W : World) (v' : Value), W.ownsRow w.heap.size 5 1 v' (1 + ((r.take k).flatMap encV).length + (encV v).length) (u8s ((n : Int) :: (r.take k).flatMap encV) ++ u8s (encV v)) → W.ownsRow w.heap.size 5 1 v' (1 + ((r.take (k + 1)).flatMap encV).length) (u8s ((n : Int) :: (r.take (k + 1)).flatMap encV)) := by
        intro W v' h
        rw [flat_snoc HV.out]
        simpa [u8s, Nat.add_assoc] using h
      obtain ⟨N, hN⟩ : ∃ N, N = 1 + ((r.take k).flatMap encV).length := ⟨_, rfl⟩
      obtain ⟨bs, hbs⟩ : ∃ bs, bs = u8s ((n : Int) :: (r.take k).flatMap encV) := ⟨_, rfl⟩
      rw [← hN, ← hbs] at ho next
      have NX := Lib.hid next
      have hN2 : N ≤ 3000 := by omega
      clear hr hv hle next hN hbs
      obtain ⟨A0, c0, rfl⟩ := own_slice ho
      obtain ⟨kk, m, s⟩ := v
      have h := of_decide_eq_true hvo
      clear hvo
      dsimp only at h d0 d1 d2 hs
      rcases h with ⟨rfl, rfl, _⟩ | ⟨rfl, h2, _⟩ | ⟨rfl, h2, h3, _⟩ | ⟨rfl, rfl, h2⟩
      · go_wp2_with (first | (at_builtin; refine wp_append1 (W := wr.alloc (.cells #[.int .i64 0, .int .i64 0, .string s] 76)) w.heap.size rfl (.tmp 22) (.tmp 26) 23 5 (.int .u8 0) 1 1 rfl Try.underlying23 info_u8 rfl (by omega) (by omega) (.slice A0 N c0) N _ [.int .u8 (0)] rfl rfl (by simp) rfl (by simp [Value.oneCell']) (ho.alloc _) (by simp; omega) (by omega) ?_; intro v1 w1 h1 t1 hor; obtain ⟨A1, c1, rfl⟩ := own_slice h1; have e0 := t1.heap (k := wr.heap.size) (heap_alloc_new wr _) (fun e => by have := (ho.lt _ e).2; omega); have e1 := cell_of_blk e0 0; have e2 := cell_of_blk e0 1; have e3 := cell_of_blk e0 2; clear e0))
        have B1 : Below w.heap.size w w1 := below_turn (bel.alloc sz _) t1 (by simp; omega) (fun k hk => own_ge ho hk)
        have h4 := NX.out _ _ h1
        go_roundw
        case rel => exact ⟨k + 1, by omega, by go_num, h4, B1⟩
        case measure => simp [intOf]; omega
      · go_wp2_with (first
          | (at_builtin; refine wp_append1 (W := wr.alloc (.cells #[.int .i64 1, .int .i64 m, .string s] 76)) w.heap.size rfl (.tmp 22) (.tmp 26) 23 5 (.int .u8 0) 1 1 rfl Try.underlying23 info_u8 rfl (by omega) (by omega) (.slice A0 N c0) N _ [.int .u8 (1)] rfl rfl (by simp) rfl (by simp [Value.oneCell']) (ho.alloc _) (by simp; omega) (by omega) ?_; intro v1 w1 h1 t1 hor; obtain ⟨A1, c1, rfl⟩ := own_slice h1; have e0 := t1.heap (k := wr.heap.size) (heap_alloc_new wr _) (fun e => by have := (ho.lt _ e).2; omega); have e1 := cell_of_blk e0 0; have e2 := cell_of_blk e0 1; have e3 := cell_of_blk e0 2; clear e0)
          | (at_builtin; refine wp_append1 w.heap.size rfl (.tmp 32) (.tmp 36) 23 5 (.int .u8 0) 1 1 rfl Try.underlying23 info_u8 rfl (by omega) (by omega) (.slice A1 (N + 1) c1) (N + 1) _ [.int .u8 m] rfl rfl (by simp) (by simp) (by simp [Value.oneCell']) h1 (Nat.le_trans (by simp; omega) t1.size) (by omega) ?_; intro v2 w2 g2 t2 _))
        have B1 : Below w.heap.size w w1 := below_turn (bel.alloc sz _) t1 (by simp; omega) (fun k hk => own_ge ho hk)
        have sz1 : w.heap.size ≤ w1.heap.size := Nat.le_trans (by simp; omega) t1.size
        have B2 : Below w.heap.size w w2 := below_turn B1 t2 sz1 (fun k hk => own_ge h1 hk)
        have h4 := NX.out w2 v2 (by simpa [encV, u8s, Nat.add_assoc] using g2)
        go_roundw
        case rel => exact ⟨k + 1, by omega, by go_num, h4, B2⟩
        case measure => simp [intOf]; omega
      · go_wp2_with ((at_builtin; refine wp_append1 (W := wr.alloc (.cells #[.int .i64 2, .int .i64 m, .string s] 76)) w.heap.size rfl (.tmp 22) (.tmp 26) 23 5 (.int .u8 0) 1 1 rfl Try.underlying23 info_u8 rfl (by omega) (by omega) (.slice A0 N c0) N _ [.int .u8 (2)] rfl rfl (by simp) rfl (by simp [Value.oneCell']) (ho.alloc _) (by simp; omega) (by omega) ?_; intro v1 w1 h1 t1 hor; obtain ⟨A1, c1, rfl⟩ := own_slice h1; have e0 := t1.heap (k := wr.heap.size) (heap_alloc_new wr _) (fun e => by have := (ho.lt _ e).2; omega); have e1 := cell_of_blk e0 0; have e2 := cell_of_blk e0 1; have e3 := cell_of_blk e0 2; clear e0))
        have B1 : Below w.heap.size w w1 := below_turn (bel.alloc sz _) t1 (by simp; omega) (fun k hk => own_ge ho hk)
        have sz1 : w.heap.size ≤ w1.heap.size := Nat.le_trans (by simp; omega) t1.size
        obtain ⟨mm, hm⟩ : ∃ mm, mm = m + 9007199254740992 := ⟨_, rfl⟩
        rw [← hm]
        have m0 : 0 ≤ mm := by omega
        have m1 : mm < 18014398509481984 := by omega
        have HMM := Lib.hid hm
        clear hm ho hor t1
        go_loopw [3, 7] (fun b i wq => ∃ j : Nat, j ≤ 7 ∧ i = .int .i64 (6 - (j : Int)) ∧ wq.ownsRow w.heap.size 5 1 b (N + 1 + j) (bs ++ u8s (2 :: (be7 mm).take j)) ∧ Below w.heap.size w wq) (fun _ i _ => (intOf i + 1).toNat)
        case atStart => exact ⟨0, by omega, rfl, by simpa [u8s] using h1, B1⟩
        case round =>
          obtain ⟨j, hj, he, hq, belq⟩ := hrel
          obtain ⟨A2, c2, rfl⟩ := own_slice hq
          have sq := belq.size
          by_cases hjlt : j < 7
          · rcases (show j = 0 ∨ j = 1 ∨ j = 2 ∨ j = 3 ∨ j = 4 ∨ j = 5 ∨ j = 6 by omega) with rfl | rfl | rfl | rfl | rfl | rfl | rfl
            · obtain rfl : u7 = .int .i64 6 := he
              go_wp2_with (at_builtin; refine wp_append1 w.heap.size rfl (.tmp 47) (.tmp 53) 23 5 (.int .u8 0) 1 1 rfl Try.underlying23 info_u8 rfl (by omega) (by omega) (.slice A2 (N + 1 + 0) c2) (N + 1 + 0) _ [_] rfl rfl (by simp) rfl (by simp [Value.oneCell']) hq sq (by omega) ?_; intro v3 w3 h3 t3 _)
              have h4 : w3.ownsRow w.heap.size 5 1 v3 (N + 1 + 1) (bs ++ u8s (2 :: (be7 mm).take 1)) := by
                rw [be7_snoc (k := 0) mm (by omega) (by simp only [be7, List.getD_cons_zero]; omega)] at h3
                exact h3
              go_roundw
              case rel => exact ⟨1, by omega, rfl, h4, below_turn belq t3 sq (fun k hk => own_ge hq hk)⟩
              case measure => simp [intOf]
            · obtain rfl : u7 = .int .i64 5 := he
              go_wp2_with (at_builtin; refine wp_append1 w.heap.size rfl (.tmp 47) (.tmp 53) 23 5 (.int .u8 0) 1 1 rfl Try.underlying23 info_u8 rfl (by omega) (by omega) (.slice A2 (N + 1 + 1) c2) (N + 1 + 1) _ [_] rfl rfl (by simp) rfl (by simp [Value.oneCell']) hq sq (by omega) ?_; intro v3 w3 h3 t3 _)
              have h4 : w3.ownsRow w.heap.size 5 1 v3 (N + 1 + 2) (bs ++ u8s (2 :: (be7 mm).take 2)) := by
                rw [be7_snoc (k := 1) mm (by omega) (by simp only [be7, List.getD_cons_succ, List.getD_cons_zero])] at h3
                exact h3
              go_roundw
              case rel => exact ⟨2, by omega, rfl, h4, below_turn belq t3 sq (fun k hk => own_ge hq hk)⟩
              case measure => simp [intOf]
            · obtain rfl : u7 = .int .i64 4 := he
              go_wp2_with (at_builtin; refine wp_append1 w.heap.size rfl (.tmp 47) (.tmp 53) 23 5 (.int .u8 0) 1 1 rfl Try.underlying23 info_u8 rfl (by omega) (by omega) (.slice A2 (N + 1 + 2) c2) (N + 1 + 2) _ [_] rfl rfl (by simp) rfl (by simp [Value.oneCell']) hq sq (by omega) ?_; intro v3 w3 h3 t3 _)
              have h4 : w3.ownsRow w.heap.size 5 1 v3 (N + 1 + 3) (bs ++ u8s (2 :: (be7 mm).take 3)) := by
                rw [be7_snoc (k := 2) mm (by omega) (by simp only [be7, List.getD_cons_succ, List.getD_cons_zero])] at h3
                exact h3
              go_roundw
              case rel => exact ⟨3, by omega, rfl, h4, below_turn belq t3 sq (fun k hk => own_ge hq hk)⟩
              case measure => simp [intOf]
            · obtain rfl : u7 = .int .i64 3 := he
              go_wp2_with (at_builtin; refine wp_append1 w.heap.size rfl (.tmp 47) (.tmp 53) 23 5 (.int .u8 0) 1 1 rfl Try.underlying23 info_u8 rfl (by omega) (by omega) (.slice A2 (N + 1 + 3) c2) (N + 1 + 3) _ [_] rfl rfl (by simp) rfl (by simp [Value.oneCell']) hq sq (by omega) ?_; intro v3 w3 h3 t3 _)
              have h4 : w3.ownsRow w.heap.size 5 1 v3 (N + 1 + 4) (bs ++ u8s (2 :: (be7 mm).take 4)) := by
                rw [be7_snoc (k := 3) mm (by omega) (by simp only [be7, List.getD_cons_succ, List.getD_cons_zero])] at h3
                exact h3
              go_roundw
              case rel => exact ⟨4, by omega, rfl, h4, below_turn belq t3 sq (fun k hk => own_ge hq hk)⟩
              case measure => simp [intOf]
            · obtain rfl : u7 = .int .i64 2 := he
              go_wp2_with (at_builtin; refine wp_append1 w.heap.size rfl (.tmp 47) (.tmp 53) 23 5 (.int .u8 0) 1 1 rfl Try.underlying23 info_u8 rfl (by omega) (by omega) (.slice A2 (N + 1 + 4) c2) (N + 1 + 4) _ [_] rfl rfl (by simp) rfl (by simp [Value.oneCell']) hq sq (by omega) ?_; intro v3 w3 h3 t3 _)
              have h4 : w3.ownsRow w.heap.size 5 1 v3 (N + 1 + 5) (bs ++ u8s (2 :: (be7 mm).take 5)) := by
                rw [be7_snoc (k := 4) mm (by omega) (by simp only [be7, List.getD_cons_succ, List.getD_cons_zero])] at h3
                exact h3
              go_roundw
              case rel => exact ⟨5, by omega, rfl, h4, below_turn belq t3 sq (fun k hk => own_ge hq hk)⟩
              case measure => simp [intOf]
            · obtain rfl : u7 = .int .i64 1 := he
              go_wp2_with (at_builtin; refine wp_append1 w.heap.size rfl (.tmp 47) (.tmp 53) 23 5 (.int .u8 0) 1 1 rfl Try.underlying23 info_u8 rfl (by omega) (by omega) (.slice A2 (N + 1 + 5) c2) (N + 1 + 5) _ [_] rfl rfl (by simp) rfl (by simp [Value.oneCell']) hq sq (by omega) ?_; intro v3 w3 h3 t3 _)
              have h4 : w3.ownsRow w.heap.size 5 1 v3 (N + 1 + 6) (bs ++ u8s (2 :: (be7 mm).take 6)) := by
                rw [be7_snoc (k := 5) mm (by omega) (by simp only [be7, List.getD_cons_succ, List.getD_cons_zero])] at h3
                exact h3
              go_roundw
              case rel => exact ⟨6, by omega, rfl, h4, below_turn belq t3 sq (fun k hk => own_ge hq hk)⟩
              case measure => simp [intOf]
            · obtain rfl : u7 = .int .i64 0 := he
              go_wp2_with (at_builtin; refine wp_append1 w.heap.size rfl (.tmp 47) (.tmp 53) 23 5 (.int .u8 0) 1 1 rfl Try.underlying23 info_u8 rfl (by omega) (by omega) (.slice A2 (N + 1 + 6) c2) (N + 1 + 6) _ [_] rfl rfl (by simp) rfl (by simp [Value.oneCell']) hq sq (by omega) ?_; intro v3 w3 h3 t3 _)
              have h4 : w3.ownsRow w.heap.size 5 1 v3 (N + 1 + 7) (bs ++ u8s (2 :: (be7 mm).take 7)) := by
                rw [be7_snoc (k := 6) mm (by omega) (by simp only [be7, List.getD_cons_succ, List.getD_cons_zero])] at h3
                exact h3
              go_roundw
              case rel => exact ⟨7, by omega, rfl, h4, below_turn belq t3 sq (fun k hk => own_ge hq hk)⟩
              case measure => simp [intOf]
          · obtain rfl : j = 7 := by omega
            obtain rfl : u7 = .int .i64 (-1) := he
            have h4 := NX.out wr (.slice A2 (N + 1 + 7) c2) (by
              rw [HMM.out] at hq
              simpa [encV, u8s, be7, Nat.add_assoc] using hq)
            go_wp2
            go_roundw
            case rel => exact ⟨k + 1, by omega, by go_num, h4, belq⟩
            case measure => simp [intOf]; omega
      · have hw9 : IntKind.u8.wrap (s.size : Int) = s.size := u8_small (by omega) (by omega)
        go_wp2_with (first
          | (at_builtin; refine wp_append1 (W := wr.alloc (.cells #[.int .i64 3, .int .i64 0, .string s] 76)) w.heap.size rfl (.tmp 22) (.tmp 26) 23 5 (.int .u8 0) 1 1 rfl Try.underlying23 info_u8 rfl (by omega) (by omega) (.slice A0 N c0) N _ [.int .u8 (3)] rfl rfl (by simp) rfl (by simp [Value.oneCell']) (ho.alloc _) (by simp; omega) (by omega) ?_; intro v1 w1 h1 t1 hor; obtain ⟨A1, c1, rfl⟩ := own_slice h1; have e0 := t1.heap (k := wr.heap.size) (heap_alloc_new wr _) (fun e => by have := (ho.lt _ e).2; omega); have e1 := cell_of_blk e0 0; have e2 := cell_of_blk e0 1; have e3 := cell_of_blk e0 2; clear e0)
          | (at_builtin; refine wp_append1 w.heap.size rfl (.tmp 57) (.tmp 62) 23 5 (.int .u8 0) 1 1 rfl Try.underlying23 info_u8 rfl (by omega) (by omega) (.slice A1 (N + 1) c1) (N + 1) _ [.int .u8 s.size] rfl rfl (by simp) (by simp) (by simp [Value.oneCell']) h1 (Nat.le_trans (by simp; omega) t1.size) (by omega) ?_; intro v2 w2 g2 t2 _; obtain ⟨A2, c2, rfl⟩ := own_slice g2; have f3 := cell_turn e3 t2 (fun e => by have e' : (Value.slice A1 (N + 1) c1).ownBlock = some wr.heap.size := e; rcases hor with h | ⟨b, h, hb⟩ <;> first | (have := (ho.lt _ (h ▸ e')).2; omega) | (rw [h] at e'; injection e' with e'; simp at hb; omega)))
          | (at_builtin; refine wp_appendS w.heap.size rfl (.tmp 64) (.tmp 66) 23 9 5 rfl Try.underlying23 Try.underlying9 info_u8 (.slice A2 (N + 1 + 1) c2) (N + 1 + 1) _ rfl s rfl g2 (Nat.le_trans (Nat.le_trans (by simp; omega) t1.size) t2.size) (by omega) ?_; intro v3 w3 g3 t3))
        have B1 : Below w.heap.size w w1 := below_turn (bel.alloc sz _) t1 (by simp; omega) (fun k hk => own_ge ho hk)
        have sz1 : w.heap.size ≤ w1.heap.size := Nat.le_trans (by simp; omega) t1.size
        have B2 : Below w.heap.size w w2 := below_turn B1 t2 sz1 (fun k hk => own_ge h1 hk)
        have B3 : Below w.heap.size w w3 := below_turn B2 t3 (Nat.le_trans sz1 t2.size) (fun k hk => own_ge g2 hk)
        have h4 := NX.out w3 v3 (by
          rw [strCells_bytes] at g3
          have eN : N + (encV ⟨3, 0, s⟩).length = N + 1 + 1 + s.size := by simp [encV, bytesOf_length]; omega
          rw [eN]
          simpa [encV, u8s, Nat.add_assoc] using g3)
        go_roundw
        case rel => exact ⟨k + 1, by omega, by go_num, h4, B3⟩
        case measure => simp [intOf]; omega
    · obtain rfl : k = n := by omega
      have ho3 : wr.ownsRow w.heap.size 5 1 u3 (encR r).length (u8s (encR r)) := by
        rw [List.take_of_length_le (by have := HLEN.out; omega)] at ho
        simpa [encR, HLEN.out, Nat.add_comm] using ho
      clear hr
      go_wp2
      go_ret
      exact ⟨_, rfl, ho3, bel⟩
end Go.Proofs.Ytlldkdhpilcilaa
