/- row.Put: a row's bytes. -/
import Derived.Test.YtlldkdhpilcilaaRow
import Derived.Test.YtlldkdhpilcilaaPut
namespace Go.Proofs.Ytlldkdhpilcilaa
open Go.RowKit

theorem encV_length_le (v : V) (h : vOk v = true) : (encV v).length ≤ 66 := by
  have h := of_decide_eq_true h
  unfold encV
  split
  · simp
  · split
    · simp [be7]
    · split
      · simp only [List.length_cons, bytesOf_length]
        omega
      · simp
theorem put_walk {w : World} {B n : Nat} {bv : Value} {bs : List Value} (v : V) (hv : vOk v = true) (HO : w.ownsRow B 5 1 bv n bs) (hB : B ≤ w.heap.size) (hn : n ≤ 100000) :
    Calls Try.prog 60 #[bv, .agg #[.int .i64 v.k, .int .i64 v.n, .string v.s]] w fun e w' => ∃ v', e = .returned v' ∧ w'.ownsRow B 5 1 v' (n + (encV v).length) (bs ++ u8s (encV v)) ∧ Below B w w' := by
  obtain ⟨k, m, s⟩ := v
  have h := of_decide_eq_true hv
  dsimp only at h ⊢
  rcases h with ⟨rfl, rfl, _⟩ | ⟨rfl, h2, _⟩ | ⟨rfl, h2, h3, _⟩ | ⟨rfl, rfl, h2⟩
  · exact put_null s HO hB hn
  · exact put_bool m s HO hB hn (by omega) (by omega)
  · exact put_int m s HO hB hn h2 h3
  · have := put_text s HO hB hn h2
    have e : n + (encV ⟨3, 0, s⟩).length = n + 2 + s.size := by simp [encV, bytesOf_length]; omega
    rw [e]
    exact this
theorem encs_length_le (r : List V) (h : r.all vOk = true) : (r.flatMap encV).length ≤ r.length * 66 := by
  induction r with
  | nil => simp
  | cons v r ih =>
    rw [List.all_cons, Bool.and_eq_true] at h
    have h1 := encV_length_le v h.1
    have h2 := ih h.2
    simp only [List.flatMap_cons, List.length_append, List.length_cons]
    omega
theorem flat_snoc {r : List V} {k : Nat} {v : V} (h : r[k]? = some v) : (r.take (k + 1)).flatMap encV = (r.take k).flatMap encV ++ encV v := by
  obtain ⟨hl, e⟩ := List.getElem?_eq_some_iff.1 h
  rw [List.take_succ_eq_append_getElem hl, e, List.flatMap_append]
  simp
theorem take_all {r : List V} {p : V → Bool} (k : Nat) (h : r.all p = true) : (r.take k).all p = true := by
  rw [List.all_eq_true] at h ⊢
  exact fun x hx => h x (List.mem_of_mem_take hx)

theorem rput_bad {w : World} {A : Option Addr} {n c : Nat} (r : List V) (hr : RdV w A n r) (hk : rowOk r = false) :
    Calls Try.prog 48 #[.slice A n c] w fun e w' => e = .returned (.tuple #[.slice none 0 0, .int .i64 20]) ∧ Below w.heap.size w w' := by
  have hc := rcheck (c := c) r hr
  rw [show rErr r = 20 by simp [rErr, hk]] at hc
  have HC := Lib.hid hc
  clear hc hr hk
  go_enter Try.func48, Try.ntmps48
  go_wp2_with (go_at_call 59; refine HC.out.mono ?_; rintro e w1 ⟨rfl, b1⟩)
  go_ret2
  exact ⟨rfl, b1⟩

theorem rput_ok {w : World} {A : Option Addr} {n c : Nat} (r : List V) (hr : RdV w A n r) (hk : rowOk r = true) :
    Calls Try.prog 48 #[.slice A n c] w fun e w' => ∃ v, e = .returned (.tuple #[v, .int .i64 0]) ∧ w'.ownsRow w.heap.size 5 1 v (encR r).length (u8s (encR r)) ∧ Below w.heap.size w w' := by
  have hc := rcheck (c := c) r hr
  rw [show rErr r = 0 by simp [rErr, hk]] at hc
  have HC := Lib.hid hc
  simp only [rowOk, Bool.and_eq_true, decide_eq_true_eq] at hk
  obtain ⟨hle, hall⟩ := hk
  have hlen := hr.len
  have hn : n ≤ 32 := by omega
  have HALL := Lib.hid hall
  have HLEN := Lib.hid hlen
  have hw8 : IntKind.u8.wrap (n : Int) = n := u8_small (by omega) (by omega)
  clear hc hle hall hlen
  go_enter Try.func48, Try.ntmps48
  go_wp2_with (go_at_call 59; refine HC.out.mono ?_; rintro e w1 ⟨rfl, b1⟩)
  have hown : (w1.alloc (.cells #[.int .u8 n] 5)).ownsRow w.heap.size 5 1 (.slice (some ⟨w1.heap.size, 0, none⟩) 1 1) (1 + ((r.take 0).flatMap encV).length) (u8s ((n : Int) :: (r.take 0).flatMap encV)) := by
    have := World.ownsRow_lit (base := w.heap.size) (e := 5) (size := 1) w1 #[.int .u8 n] 1 b1.size (by simp [maxLen]) (by simp)
    simpa [u8s] using this
  have bel1 : Below w.heap.size w (w1.alloc (.cells #[.int .u8 n] 5)) := b1.alloc b1.size _
  go_loopw [5, 19] (fun b i wr => ∃ k : Nat, k ≤ n ∧ i = .int .i64 k ∧ wr.ownsRow w.heap.size 5 1 b (1 + ((r.take k).flatMap encV).length) (u8s ((n : Int) :: (r.take k).flatMap encV)) ∧ Below w.heap.size w wr) (fun _ i _ => n - (intOf i).toNat)
  case atStart => exact ⟨0, Nat.zero_le _, rfl, hown, bel1⟩
  case round =>
    clear hown bel1 b1
    obtain ⟨k, hkn, rfl, ho, bel⟩ := hrel
    by_cases hlt : k < n
    · obtain ⟨ad, v, rfl, had, hv, hs, d0, d1, d2⟩ := hr.at_ bel hlt
      have HV := Lib.hid hv
      have hvo : vOk v = true := by
        have := HALL.out
        rw [List.all_eq_true] at this
        obtain ⟨hl, e⟩ := List.getElem?_eq_some_iff.1 hv
        exact this v (e ▸ List.getElem_mem hl)
      have hle : ((r.take k).flatMap encV).length ≤ 32 * 66 := by
        have := encs_length_le (r.take k) (take_all k HALL.out)
        have h2 : (r.take k).length ≤ 32 := by simp; omega
        omega
      have HP := Lib.hid (fun (W : World) (HO : W.ownsRow w.heap.size 5 1 u5 (1 + ((r.take k).flatMap encV).length) (u8s ((n : Int) :: (r.take k).flatMap encV))) (hB : w.heap.size ≤ W.heap.size) => put_walk v hvo HO hB (by omega))
      have sz := bel.size
      clear hr hv hvo hle
      go_wp2_with (go_at_call 60; refine (HP.out _ (ho.alloc _) (by simp; omega)).mono ?_; rintro e w2 ⟨v', rfl, ho2, b2⟩)
      have ho3 : w2.ownsRow w.heap.size 5 1 v' (1 + ((r.take (k + 1)).flatMap encV).length) (u8s ((n : Int) :: (r.take (k + 1)).flatMap encV)) := by
        rw [flat_snoc HV.out]
        simpa [u8s, Nat.add_assoc] using ho2
      have b3 : Below w.heap.size w w2 := (bel.alloc sz _).trans b2
      go_roundw
      case rel => exact ⟨k + 1, by omega, by go_num, ho3, b3⟩
      case measure => simp [intOf]; omega
    · obtain rfl : k = n := by omega
      have ho3 : wr.ownsRow w.heap.size 5 1 u5 (encR r).length (u8s (encR r)) := by
        rw [List.take_of_length_le (by have := HLEN.out; omega)] at ho
        simpa [encR, HLEN.out, Nat.add_comm] using ho
      clear hr
      go_wp2
      go_ret2
      exact ⟨_, rfl, ho3, bel⟩
end Go.Proofs.Ytlldkdhpilcilaa
