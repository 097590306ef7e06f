/- row.put. -/
import Derived.Test.YtlldkdhpilcilaaOps
namespace Go.Proofs.Ytlldkdhpilcilaa
open Go.RowKit

theorem be7_snoc {bs : List Value} {c : Int} (m : Int) {k : Nat} {y : Int} (hk : k < 7) (hy : y = (be7 m).getD k 0) : bs ++ u8s (c :: (be7 m).take k) ++ [.int .u8 y] = bs ++ u8s (c :: (be7 m).take (k + 1)) := by
  rw [take_snoc (be7 m) 0 (by simpa [be7] using hk), hy]
  simp [u8s]
theorem put_null {w : World} {B n : Nat} {bv : Value} {bs : List Value} (s : ByteArray) (HO : w.ownsRow B 5 1 bv n bs) (hB : B ≤ w.heap.size) (hn : n ≤ 100000) :
    Calls Try.prog 60 #[bv, .agg #[.int .i64 0, .int .i64 0, .string s]] w fun e w' => ∃ v', e = .returned v' ∧ w'.ownsRow B 5 1 v' (n + 1) (bs ++ u8s [0]) ∧ Below B w w' := by
  obtain ⟨A, c, rfl⟩ := own_slice HO
  go_enter Try.func60, Try.ntmps60
  go_wp2_with (first | (at_builtin; refine wp_append1 (W := w.alloc (.cells #[.int .i64 0, .int .i64 0, .string s] 76)) B rfl (.tmp 7) (.tmp 11) 23 5 (.int .u8 0) 1 1 rfl Try.underlying23 info_u8 rfl (by omega) (by omega) (.slice A n c) (n) _ [.int .u8 (0)] rfl rfl (by simp) rfl (by simp [Value.oneCell']) (HO.alloc _) (by simp; omega) (by omega) ?_; intro v1 w1 h1 t1 hor; obtain ⟨A1, c1, rfl⟩ := own_slice h1; have d0 := t1.heap (k := w.heap.size) (heap_alloc_new w _) (fun e => by have := (HO.lt _ e).2; omega); have d1 := cell_of_blk d0 0; have d2 := cell_of_blk d0 1; have d3 := cell_of_blk d0 2; clear d0))
  go_ret
  refine ⟨_, rfl, by simpa using h1, ?_⟩
  exact below_turn ((Below.refl _ _).alloc hB _) t1 (by simp; omega) (fun k hk => own_ge HO hk)
theorem put_int {w : World} {B n : Nat} {bv : Value} {bs : List Value} (x : Int) (s : ByteArray) (HO : w.ownsRow B 5 1 bv n bs) (hB : B ≤ w.heap.size) (hn : n ≤ 100000) (h1 : -9007199254740991 ≤ x) (h2 : x ≤ 9007199254740991) :
    Calls Try.prog 60 #[bv, .agg #[.int .i64 2, .int .i64 x, .string s]] w fun e w' => ∃ v', e = .returned v' ∧ w'.ownsRow B 5 1 v' (n + 8) (bs ++ u8s (2 :: be7 (x + 9007199254740992))) ∧ Below B w w' := by
  obtain ⟨A, c, rfl⟩ := own_slice HO
  go_enter Try.func60, Try.ntmps60
  go_wp2_with (first | (at_builtin; refine wp_append1 (W := w.alloc (.cells #[.int .i64 2, .int .i64 x, .string s] 76)) B rfl (.tmp 7) (.tmp 11) 23 5 (.int .u8 0) 1 1 rfl Try.underlying23 info_u8 rfl (by omega) (by omega) (.slice A n c) (n) _ [.int .u8 (2)] rfl rfl (by simp) rfl (by simp [Value.oneCell']) (HO.alloc _) (by simp; omega) (by omega) ?_; intro v1 w1 h1 t1 hor; obtain ⟨A1, c1, rfl⟩ := own_slice h1; have d0 := t1.heap (k := w.heap.size) (heap_alloc_new w _) (fun e => by have := (HO.lt _ e).2; omega); have d1 := cell_of_blk d0 0; have d2 := cell_of_blk d0 1; have d3 := cell_of_blk d0 2; clear d0))
  have B1 : Below B w w1 := below_turn ((Below.refl _ _).alloc hB _) t1 (by simp; omega) (fun k hk => own_ge HO hk)
  have sz1 := t1.size
  obtain ⟨m, hm⟩ : ∃ m, m = x + 9007199254740992 := ⟨_, rfl⟩
  rw [← hm]
  have m0 : 0 ≤ m := by omega
  have m1 : m < 18014398509481984 := by omega
  have HMM := Lib.hid hm
  clear hm
  go_loopw [0, 29] (fun b i wr => ∃ k : Nat, k ≤ 7 ∧ i = .int .i64 k ∧ wr.ownsRow B 5 1 b (n + 1 + k) (bs ++ u8s (2 :: (be7 m).take k)) ∧ Below B w wr ∧ B ≤ wr.heap.size) (fun _ i _ => 7 - (intOf i).toNat)
  case atStart => exact ⟨0, by omega, rfl, by simpa using h1, B1, by have := B1.size; omega⟩
  case round =>
    obtain ⟨k, hk, rfl, ho, bel, sz⟩ := hrel
    obtain ⟨A2, c2, rfl⟩ := own_slice ho
    by_cases hlt : k < 7
    · have hK := Lib.hid hk
      rcases (show k = 0 ∨ k = 1 ∨ k = 2 ∨ k = 3 ∨ k = 4 ∨ k = 5 ∨ k = 6 by omega) with rfl | rfl | rfl | rfl | rfl | rfl | rfl
      · go_wp2_with (at_builtin; refine wp_append1 B rfl (.tmp 32) (.tmp 39) 23 5 (.int .u8 0) 1 1 rfl Try.underlying23 info_u8 rfl (by omega) (by omega) (.slice A2 (n + 1 + 0) c2) (n + 1 + 0) _ [_] rfl rfl (by simp) rfl (by simp [Value.oneCell']) ho sz (by omega) ?_; intro v3 w3 h3 t3 _)
        go_roundw
        case rel => exact ⟨1, by omega, rfl, by rw [be7_snoc (k := 0) m (by omega) (by simp only [be7, List.getD_cons_zero]; omega)] at h3; exact h3, below_turn bel t3 sz (fun k hk => own_ge ho hk), Nat.le_trans sz t3.size⟩
        case measure => simp [intOf]
      · go_wp2_with (at_builtin; refine wp_append1 B rfl (.tmp 32) (.tmp 39) 23 5 (.int .u8 0) 1 1 rfl Try.underlying23 info_u8 rfl (by omega) (by omega) (.slice A2 (n + 1 + 1) c2) (n + 1 + 1) _ [_] rfl rfl (by simp) rfl (by simp [Value.oneCell']) ho sz (by omega) ?_; intro v3 w3 h3 t3 _)
        go_roundw
        case rel => exact ⟨2, by omega, rfl, by rw [be7_snoc (k := 1) m (by omega) (by simp only [be7, List.getD_cons_succ, List.getD_cons_zero])] at h3; exact h3, below_turn bel t3 sz (fun k hk => own_ge ho hk), Nat.le_trans sz t3.size⟩
        case measure => simp [intOf]
      · go_wp2_with (at_builtin; refine wp_append1 B rfl (.tmp 32) (.tmp 39) 23 5 (.int .u8 0) 1 1 rfl Try.underlying23 info_u8 rfl (by omega) (by omega) (.slice A2 (n + 1 + 2) c2) (n + 1 + 2) _ [_] rfl rfl (by simp) rfl (by simp [Value.oneCell']) ho sz (by omega) ?_; intro v3 w3 h3 t3 _)
        go_roundw
        case rel => exact ⟨3, by omega, rfl, by rw [be7_snoc (k := 2) m (by omega) (by simp only [be7, List.getD_cons_succ, List.getD_cons_zero])] at h3; exact h3, below_turn bel t3 sz (fun k hk => own_ge ho hk), Nat.le_trans sz t3.size⟩
        case measure => simp [intOf]
      · go_wp2_with (at_builtin; refine wp_append1 B rfl (.tmp 32) (.tmp 39) 23 5 (.int .u8 0) 1 1 rfl Try.underlying23 info_u8 rfl (by omega) (by omega) (.slice A2 (n + 1 + 3) c2) (n + 1 + 3) _ [_] rfl rfl (by simp) rfl (by simp [Value.oneCell']) ho sz (by omega) ?_; intro v3 w3 h3 t3 _)
        go_roundw
        case rel => exact ⟨4, by omega, rfl, by rw [be7_snoc (k := 3) m (by omega) (by simp only [be7, List.getD_cons_succ, List.getD_cons_zero])] at h3; exact h3, below_turn bel t3 sz (fun k hk => own_ge ho hk), Nat.le_trans sz t3.size⟩
        case measure => simp [intOf]
      · go_wp2_with (at_builtin; refine wp_append1 B rfl (.tmp 32) (.tmp 39) 23 5 (.int .u8 0) 1 1 rfl Try.underlying23 info_u8 rfl (by omega) (by omega) (.slice A2 (n + 1 + 4) c2) (n + 1 + 4) _ [_] rfl rfl (by simp) rfl (by simp [Value.oneCell']) ho sz (by omega) ?_; intro v3 w3 h3 t3 _)
        go_roundw
        case rel => exact ⟨5, by omega, rfl, by rw [be7_snoc (k := 4) m (by omega) (by simp only [be7, List.getD_cons_succ, List.getD_cons_zero])] at h3; exact h3, below_turn bel t3 sz (fun k hk => own_ge ho hk), Nat.le_trans sz t3.size⟩
        case measure => simp [intOf]
      · go_wp2_with (at_builtin; refine wp_append1 B rfl (.tmp 32) (.tmp 39) 23 5 (.int .u8 0) 1 1 rfl Try.underlying23 info_u8 rfl (by omega) (by omega) (.slice A2 (n + 1 + 5) c2) (n + 1 + 5) _ [_] rfl rfl (by simp) rfl (by simp [Value.oneCell']) ho sz (by omega) ?_; intro v3 w3 h3 t3 _)
        go_roundw
        case rel => exact ⟨6, by omega, rfl, by rw [be7_snoc (k := 5) m (by omega) (by simp only [be7, List.getD_cons_succ, List.getD_cons_zero])] at h3; exact h3, below_turn bel t3 sz (fun k hk => own_ge ho hk), Nat.le_trans sz t3.size⟩
        case measure => simp [intOf]
      · go_wp2_with (at_builtin; refine wp_append1 B rfl (.tmp 32) (.tmp 39) 23 5 (.int .u8 0) 1 1 rfl Try.underlying23 info_u8 rfl (by omega) (by omega) (.slice A2 (n + 1 + 6) c2) (n + 1 + 6) _ [_] rfl rfl (by simp) rfl (by simp [Value.oneCell']) ho sz (by omega) ?_; intro v3 w3 h3 t3 _)
        go_roundw
        case rel => exact ⟨7, by omega, rfl, by rw [be7_snoc (k := 6) m (by omega) (by simp only [be7, List.getD_cons_succ, List.getD_cons_zero])] at h3; exact h3, below_turn bel t3 sz (fun k hk => own_ge ho hk), Nat.le_trans sz t3.size⟩
        case measure => simp [intOf]
    · obtain rfl : k = 7 := by omega
      have HM := Lib.hid (And.intro ho bel)
      clear ho
      go_wp2
      go_ret
      refine ⟨_, rfl, ?_, HM.out.2⟩
      have h7 := HM.out.1
      rw [HMM.out] at h7
      exact h7
theorem below_drew {B : Nat} {a w : World} (h : Below B a w) : Below B a w.drew := ⟨h.os, h.tape, h.output, h.size, h.block⟩
theorem u8_small {n : Int} (h0 : 0 ≤ n) (h1 : n ≤ 255) : IntKind.u8.wrap n = n := by
  simp [IntKind.wrap, IntKind.bits, IntKind.signed]
  omega
theorem put_bool {w : World} {B n : Nat} {bv : Value} {bs : List Value} (x : Int) (s : ByteArray) (HO : w.ownsRow B 5 1 bv n bs) (hB : B ≤ w.heap.size) (hn : n ≤ 100000) (h0 : 0 ≤ x) (h01 : x ≤ 1) :
    Calls Try.prog 60 #[bv, .agg #[.int .i64 1, .int .i64 x, .string s]] w fun e w' => ∃ v', e = .returned v' ∧ w'.ownsRow B 5 1 v' (n + 2) (bs ++ u8s [1, x]) ∧ Below B w w' := by
  obtain ⟨A, c, rfl⟩ := own_slice HO
  go_enter Try.func60, Try.ntmps60
  go_wp2_with (first
    | (at_builtin; refine wp_append1 (W := w.alloc (.cells #[.int .i64 1, .int .i64 x, .string s] 76)) B rfl (.tmp 7) (.tmp 11) 23 5 (.int .u8 0) 1 1 rfl Try.underlying23 info_u8 rfl (by omega) (by omega) (.slice A n c) (n) _ [.int .u8 (1)] rfl rfl (by simp) rfl (by simp [Value.oneCell']) (HO.alloc _) (by simp; omega) (by omega) ?_; intro v1 w1 h1 t1 hor; obtain ⟨A1, c1, rfl⟩ := own_slice h1; have d0 := t1.heap (k := w.heap.size) (heap_alloc_new w _) (fun e => by have := (HO.lt _ e).2; omega); have d1 := cell_of_blk d0 0; have d2 := cell_of_blk d0 1; have d3 := cell_of_blk d0 2; clear d0)
    | (at_builtin; refine wp_append1 B rfl (.tmp 17) (.tmp 21) 23 5 (.int .u8 0) 1 1 rfl Try.underlying23 info_u8 rfl (by omega) (by omega) (.slice A1 (n + 1) c1) (n + 1) _ [.int .u8 x] rfl rfl (by simp) rfl (by simp [Value.oneCell']) h1 (Nat.le_trans (by simp; omega) t1.size) (by omega) ?_; intro v2 w2 h2 t2 _))
  go_ret
  refine ⟨_, rfl, by simpa [u8s] using h2, ?_⟩
  have sz : B ≤ (w.alloc (.cells #[.int .i64 1, .int .i64 x, .string s] 76)).heap.size := by simp; omega
  exact below_turn (below_turn ((Below.refl _ _).alloc hB _) t1 sz (fun k hk => own_ge HO hk)) t2 (Nat.le_trans sz t1.size) (fun k hk => own_ge h1 hk)
theorem bytesOf_length (s : ByteArray) : (bytesOf s).length = s.size := by simp [bytesOf]
set_option maxHeartbeats 1000000 in
theorem put_text {w : World} {B n : Nat} {bv : Value} {bs : List Value} (s : ByteArray) (HO : w.ownsRow B 5 1 bv n bs) (hB : B ≤ w.heap.size) (hn : n ≤ 100000) (hs : s.size ≤ 64) :
    Calls Try.prog 60 #[bv, .agg #[.int .i64 3, .int .i64 0, .string s]] w fun e w' => ∃ v', e = .returned v' ∧ w'.ownsRow B 5 1 v' (n + 2 + s.size) (bs ++ u8s (3 :: (s.size : Int) :: bytesOf s)) ∧ Below B w w' := by
  obtain ⟨A, c, rfl⟩ := own_slice HO
  go_enter Try.func60, Try.ntmps60
  go_wp2_with (first
    | (at_builtin; refine wp_append1 (W := w.alloc (.cells #[.int .i64 3, .int .i64 0, .string s] 76)) B rfl (.tmp 7) (.tmp 11) 23 5 (.int .u8 0) 1 1 rfl Try.underlying23 info_u8 rfl (by omega) (by omega) (.slice A n c) (n) _ [.int .u8 (3)] rfl rfl (by simp) rfl (by simp [Value.oneCell']) (HO.alloc _) (by simp; omega) (by omega) ?_; intro v1 w1 h1 t1 hor; obtain ⟨A1, c1, rfl⟩ := own_slice h1; have d0 := t1.heap (k := w.heap.size) (heap_alloc_new w _) (fun e => by have := (HO.lt _ e).2; omega); have d1 := cell_of_blk d0 0; have d2 := cell_of_blk d0 1; have d3 := cell_of_blk d0 2; clear d0))
  have sz1 : B ≤ w1.heap.size := Nat.le_trans (by simp; omega) t1.size
  have d3' : w1.drew.cell? ⟨w.heap.size, 2, none⟩ = some (.string s) := d3
  have hne : ∀ k, (Value.slice A1 (n + 1) c1).ownBlock = some k → k ≠ w.heap.size := by
    intro k hk e
    rcases hor with h | ⟨b, h, hb⟩
    · have := (HO.lt k (h ▸ hk)).2
      omega
    · rw [h] at hk
      injection hk with hk
      simp at hb
      omega
  have B1 : Below B w w1 := below_turn ((Below.refl _ _).alloc hB _) t1 (by simp; omega) (fun k hk => own_ge HO hk)
  have HH := Lib.hid (And.intro hne B1)
  clear hor hne B1 t1
  have h1d : w1.drew.ownsRow B 5 1 (.slice A1 (n + 1) c1) (n + 1) (bs ++ [Value.int .u8 3]) := h1
  have d3a : (w1.alloc (.cells #[.int .u8 s.size] 5)).cell? ⟨w.heap.size, 2, none⟩ = some (.string s) := (World.cell?_alloc_lt _ _ _ (World.block_lt_of_cell? w1 _ d3)).trans d3
  have hw8 : IntKind.u8.wrap (s.size : Int) = s.size := u8_small (by omega) (by omega)
  go_region_law (first
    | (refine step_of_wp rfl (show Oper.wp _ _ _ (w1.drew.alloc (.cells #[.int .u8 s.size] 5)) _ _ from op_append1 (W := w1.drew) B (.tmp 44) (.tmp 49) 23 5 (.int .u8 0) 1 1 rfl Try.underlying23 info_u8 rfl (by omega) (by omega) (.slice A1 (n + 1) c1) (n + 1) (bs ++ [Value.int .u8 3]) [Value.int .u8 s.size] rfl rfl (by simp) rfl (by simp [Value.oneCell']) h1d sz1 (by omega) ?_); intro v2 w2 h2 t2 hor2; obtain ⟨A2, c2, rfl⟩ := own_slice h2; have e3 := cell_turn d3' t2 (fun e => HH.out.1 _ e rfl))
    | (refine step_of_wp rfl (op_appendS B (.tmp 50) (.tmp 52) 23 9 5 rfl Try.underlying23 Try.underlying9 info_u8 (.slice A2 (n + 1 + 1) c2) (n + 1 + 1) _ rfl s rfl h2 (Nat.le_trans sz1 t2.size) (by omega) ?_); intro v3 w3 h3 t3))
  all_goals
    go_wp2
    go_ret
    refine ⟨_, rfl, ?_, below_turn (below_turn (below_drew HH.out.2) t2 sz1 (fun k hk => own_ge h1 hk)) t3 (Nat.le_trans sz1 t2.size) (fun k hk => own_ge h2 hk)⟩
    rw [strCells_bytes] at h3
    simpa [u8s] using h3
end Go.Proofs.Ytlldkdhpilcilaa
