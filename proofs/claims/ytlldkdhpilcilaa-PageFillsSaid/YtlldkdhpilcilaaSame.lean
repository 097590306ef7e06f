/- the same rows are the same. -/
import Derived.Test.YtlldkdhpilcilaaSplit2
namespace Go.Proofs.Ytlldkdhpilcilaa
open Go.RowKit

theorem less_irrefl : ∀ x : List UInt8, Op.bytesLess x x = false
  | [] => by simp [Op.bytesLess]
  | a :: x => by simp [Op.bytesLess, less_irrefl x]
theorem cmp1_same (v : V) (w : World) (hs : v.s.size ≤ 9223372036854775807) : Calls Try.prog 63 #[.agg #[.int .i64 v.k, .int .i64 v.n, .string v.s], .agg #[.int .i64 v.k, .int .i64 v.n, .string v.s]] w fun e w' => e = .returned (.int .i64 0) ∧ Below w.heap.size w w' := by
  obtain ⟨k, n, s⟩ := v
  dsimp only
  have hb := less_irrefl s.toList
  go_enter Try.func63, Try.ntmps63
  go_wp2
  go_ret
  exact ⟨rfl, ((Below.refl _ _).alloc (Nat.le_refl _) _).alloc (by simp) _⟩
theorem cmp_same {w : World} {A A2 : Option Addr} {n c c2 : Nat} (r : List V) (hr : RdV w A n r) (hr2 : RdV w A2 n r) :
    Calls Try.prog 54 #[.slice A n c, .slice A2 n c2] w fun e w' => e = .returned (.int .i64 0) ∧ Below w.heap.size w w' := by
  have hn := hr.max
  go_enter Try.func54, Try.ntmps54
  go_wp2
  go_loopw [5] (fun i wr => ∃ k : Nat, k ≤ n ∧ i = .int .i64 k ∧ Below w.heap.size w wr) (fun i _ => n - (intOf i).toNat)
  case atStart => exact ⟨0, by omega, rfl, Below.refl _ _⟩
  case round =>
    obtain ⟨k, hk, rfl, bel⟩ := hrel
    by_cases hlt : k < n
    · obtain ⟨ad, v, rfl, had, hv, hs, d0, d1, d2⟩ := hr.at_ bel hlt
      obtain ⟨ad2, v2, rfl, had2, hv2, hs2, e0, e1, e2⟩ := hr2.at_ bel hlt
      obtain rfl : v = v2 := by rw [hv] at hv2; exact Option.some.inj hv2
      have HC := Lib.hid (fun W => cmp1_same v W hs)
      clear hr hr2 hv hv2
      go_wp2
      go_region_with (go_at_call 63; refine (HC.out _).mono ?_; rintro e w1 ⟨rfl, b1⟩)
      all_goals
        have b2 : Below w.heap.size w w1 := (below_drew bel).trans (b1.mono bel.size)
        go_wp2
        go_roundw
      all_goals first
        | exact ⟨k + 1, by omega, by go_num, b2⟩
        | (simp [intOf]; omega)
    · clear hr hr2
      go_wp2
      go_ret
      exact ⟨rfl, bel⟩
theorem same_same {w : World} {A A2 : Option Addr} {n c c2 : Nat} (r : List V) (hr : RdV w A n r) (hr2 : RdV w A2 n r) :
    Calls Try.prog 42 #[.slice A n c, .slice A2 n c2] w fun e w' => e = .returned (.bool true) ∧ Below w.heap.size w w' := by
  have HC := Lib.hid (cmp_same (c := c) (c2 := c2) r hr hr2)
  clear hr hr2
  go_enter Try.func42, Try.ntmps42
  go_wp2_with (go_at_call 54; refine HC.out.mono ?_; rintro e w1 ⟨rfl, b1⟩)
  go_ret
  exact ⟨by trivial, b1⟩
/-- Headers that can be read, all of them. -/
def RdHs (w : World) (hds : List Value) : Prop := ∀ (i : Nat) h, hds[i]? = some h → ∃ B m c r, h = Value.slice B m c ∧ RdV w B m r
theorem RdHs.below {w w' : World} {hds : List Value} (h : RdHs w hds) (hb : Below w.heap.size w w') : RdHs w' hds := fun i x hx => by
  obtain ⟨B, m, c, r, e, h2⟩ := h i x hx
  exact ⟨B, m, c, r, e, h2.below hb⟩
theorem samelist_same {w : World} {A A2 : Option Addr} {n c c2 : Nat} (hds : List Value) (ha : Rd1 w A n hds) (hb : Rd1 w A2 n hds) (hh : RdHs w hds) :
    Calls Try.prog 27 #[.slice A n c, .slice A2 n c2] w fun e w' => e = .returned (.bool true) ∧ Below w.heap.size w w' := by
  have hn := ha.2.1
  go_enter Try.func27, Try.ntmps27
  go_wp2
  go_loopw [5] (fun i wr => ∃ k : Nat, k ≤ n ∧ i = .int .i64 k ∧ Below w.heap.size w wr) (fun i _ => n - (intOf i).toNat)
  case atStart => exact ⟨0, by omega, rfl, Below.refl _ _⟩
  case round =>
    obtain ⟨k, hk, rfl, bel⟩ := hrel
    by_cases hlt : k < n
    · obtain ⟨ad, rfl, had, hc⟩ := (ha.below bel).at2 hlt
      obtain ⟨ad2, rfl, had2, hc2⟩ := (hb.below bel).at2 hlt
      have hkl : k < hds.length := by have := ha.1; omega
      obtain ⟨h0, hh0⟩ : ∃ h0, hds[k]? = some h0 := ⟨_, List.getElem?_eq_getElem hkl⟩
      obtain ⟨B, m, cc, r, rfl, hrv⟩ := (hh.below bel) k h0 hh0
      rw [hh0] at hc hc2
      have HS := Lib.hid (fun (W : World) (b : Below wr.heap.size wr W) => same_same (c := cc) (c2 := cc) r (hrv.below b) (hrv.below b))
      have HB0 := Lib.hid (below_drew (Below.refl wr.heap.size wr))
      clear ha hb hh hh0 hrv
      go_wp2
      go_region_with (go_at_call 42; refine (HS.out _ HB0.out).mono ?_; rintro e w1 ⟨rfl, b1⟩)
      all_goals
        have b2 : Below w.heap.size w w1 := (below_drew bel).trans (b1.mono bel.size)
        go_wp2
        go_roundw
      all_goals first
        | exact ⟨k + 1, by omega, by go_num, b2⟩
        | (simp [intOf]; omega)
    · clear ha hb hh
      go_wp2
      go_ret
      exact ⟨by trivial, bel⟩
end Go.Proofs.Ytlldkdhpilcilaa
