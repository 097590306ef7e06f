/- the ledger: Total. -/
import Derived.Test.YtagknfjgokiidaaLG
namespace Go.Proofs.Ytagknfjgokiidaa
open Go.RowKit Go.Maps
set_option linter.unusedVariables false
set_option linter.unusedSimpArgs false

theorem dOf_at' (L : List (Int × Nat)) (n : Int) (zd : DataW Unit) : (dOf L).atKey (.int .i64 n) zd = match findA L n with | some b => .lit (.int .i64 b) | none => zd := by
  unfold dOf DataW.atKey findA
  dsimp only
  rw [List.find?_map]
  have : (fun p : Lit × DataW Unit => p.1.sameKey (.int .i64 n)) ∘ (fun x : Int × Nat => ((Lit.int .i64 x.1, DataW.lit (.int .i64 x.2)) : Lit × DataW Unit)) = fun x => x.1 == n := by
    funext x
    simp [sameKey_int]
  rw [this]
  cases L.find? fun x => x.1 == n <;> rfl
def remS (l : List Acc) (left : Lit → Bool) : Int := sumL l fun a => if left (.int .i64 a.n) then a.held else 0
theorem remS_start (B : Int → Nat) (l : List Acc) : remS l (Maps.has (dOf (l.map fun a => (a.n, B a.n)))) = sumL l (·.held) := by
  refine sumL_congr fun a ha => ?_
  rw [if_pos]
  unfold dOf Maps.has
  dsimp only
  rw [List.any_eq_true]
  exact ⟨(.int .i64 a.n, .lit (.int .i64 (B a.n))), List.mem_map.2 ⟨(a.n, B a.n), List.mem_map.2 ⟨a, ha, rfl⟩, rfl⟩, by simp [sameKey_int]⟩
theorem remS_end {left : Lit → Bool} (h : ∀ k, left k = false) : ∀ l : List Acc, remS l left = 0 := by
  intro l
  unfold remS
  induction l with
  | nil => rfl
  | cons x t ih => rw [sumL_cons, ih, if_neg (by rw [h]; decide)]; rfl
theorem remS_step {left : Lit → Bool} {l : List Acc} (ho : l.Pairwise (fun x y => x.n < y.n)) {a : Acc} (ha : a ∈ l) (hl : left (.int .i64 a.n) = true) : remS l left = remS l (fun z => left z && !z.sameKey (.int .i64 a.n)) + a.held := by
  unfold remS
  induction l with
  | nil => simp at ha
  | cons x t ih =>
    obtain ⟨h1, h2⟩ := List.pairwise_cons.1 ho
    rw [sumL_cons, sumL_cons]
    rcases List.mem_cons.1 ha with rfl | hm
    · rw [if_pos hl, if_neg (by simp [sameKey_int])]
      have : (sumL t fun b => if left (.int .i64 b.n) then b.held else 0) = sumL t fun b => if (left (.int .i64 b.n) && !(Lit.int .i64 b.n).sameKey (.int .i64 a.n)) then b.held else 0 := sumL_congr fun b hb => by
        have := h1 b hb
        have e : ((Lit.int .i64 b.n).sameKey (.int .i64 a.n)) = false := by rw [sameKey_int]; simp; omega
        rw [e]
        simp
      rw [this]
      dsimp only
      omega
    · have h3 := h1 a hm
      have e : ((Lit.int .i64 x.n).sameKey (.int .i64 a.n)) = false := by rw [sameKey_int]; simp; omega
      rw [ih h2 hm]
      simp only [e, Bool.not_false, Bool.and_true]
      omega
theorem remS_bound {l : List Acc} (h : ∀ x ∈ l, 0 ≤ x.held) (left : Lit → Bool) : 0 ≤ remS l left ∧ remS l left ≤ sumL l (·.held) := by
  refine ⟨sumL_nonneg fun x hx => ?_, sumL_le fun x hx => ?_⟩
  · have := h x hx
    split <;> omega
  · have := h x hx
    split <;> omega
theorem ptr_inv (v : Value) (y : DataW Unit × List MemPlace) (hv : ptrE v = some y) : ∃ c, v = Value.pointer c := by
  unfold ptrE at hv
  split at hv
  · exact ⟨none, rfl⟩
  · exact ⟨some _, rfl⟩
  · cases hv
theorem ltotal {w : World} {bl bm : Nat} {B : Int → Nat} {s : Ls} (H : Lst w bl bm B s) (ho : s.l.Pairwise (fun x y => x.n < y.n)) (hh : ∀ x ∈ s.l, 0 ≤ x.held) (hT : s.total ≤ 16384) : Calls Try.prog 35 #[.pointer (some ⟨bl, 0, Option.none⟩)] w fun e w' => e = .returned (.int .i64 s.total) ∧ Below w.heap.size w w' := by
  have HR := Lib.hid (lready H ho)
  have c0 := cell_of_blk H.led 0
  have hown := H.map
  have HH := Lib.hid H
  have HO := Lib.hid ho
  have HA := Lib.hid hh
  have HL := Lib.hid hT
  clear H ho hh hT
  go_enter Try.func35, Try.ntmps35
  go_wp2_with (first
    | (go_at_call 48; refine HR.out.mono ?_; rintro e w2 ⟨rfl, hw2⟩; obtain rfl := hw2.symm; clear hw2)
    | (at_range; refine wpList_range_own _ rfl _ 88 rfl 3 85 KI Try.underlying88 _ bm s.l.length _ rfl hown ?_; intro w0 hrg0 hg0 hs0)
    | go_in)
  go_frame
  go_loopw [3] (fun v wr => ∃ (left : Lit → Bool) (cnt : Nat) (t : Int), v = .int .i64 t ∧ wr.ranges Try.prog 3 ptrE bm w.heap.size s.l.length (dOf (s.l.map fun a => (a.n, B a.n))) left cnt ∧ Hid (t + remS s.l left = s.total) ∧ Hid (Below w.heap.size w wr))
    (fun _ wr => wr.rangeLeft bm w.heap.size)
  case atStart =>
    refine ⟨_, _, 0, rfl, hrg0, ?_, ?_⟩
    · show _ = _
      rw [remS_start]
      unfold Ls.total
      omega
    · exact ((Turn.refl (fun _ => False) w).grown hg0 (fun k hk => by cases hk)).below (Nat.le_refl _) (fun k hk => hk.elim)
  case round =>
    obtain ⟨left, cnt, t, rfl, hrg, HT, HB⟩ := hrel
    go_wp2_with (first
      | (at_next; refine wpList_next_ranges _ rfl _ rfl 3 KI ptrE (Value.int .i64) Value.pointer (fun key kl hkey => by obtain ⟨x, rfl, _⟩ := Maps.keyOf_int_inv Try.underlying3 hkey; exact ⟨x, rfl⟩) ptr_inv bm w.heap.size s.l.length _ _ _ rfl hrg ?_ ?_)
      | go_in)
    · intro hc0 hl0
      have ht := HT.out
      rw [remS_end hl0] at ht
      obtain rfl : t = s.total := by omega
      clear hrg ht
      go_wp2
      go_ret
      exact ⟨rfl, HB.out⟩
    · intro x c kl yd ys w1 cnt1 hkey hlx hRy hat hrg1 hlt hg1 hs1 hen
      obtain ⟨x', ex, rfl, hwx⟩ := Maps.keyOf_int_inv Try.underlying3 hkey
      cases ex
      obtain ⟨a, ha, hxa, rfl⟩ : ∃ a ∈ s.l, x = a.n ∧ c = some ⟨B a.n, 0, none⟩ := by
        have h1 := hat .nil
        have h2 := hat (.lit (.bool true))
        rw [dOf_at', findA_map] at h1 h2
        cases hf : s.l.find? (fun a => a.n == x) with
        | none =>
          rw [hf] at h1 h2
          simp at h1 h2
          rw [← h1] at h2
          cases h2
        | some a =>
          rw [hf] at h1
          simp at h1
          have hxa : a.n = x := by simpa using List.find?_some hf
          subst h1
          obtain ⟨m, e, em⟩ := ptrE_inv_lit hRy
          injection e with e
          refine ⟨a, List.mem_of_find?_eq_some hf, hxa.symm, ?_⟩
          obtain rfl : m = B a.n := (Int.ofNat.inj em).symm
          exact e
      subst hxa
      have hb1 : Below w.heap.size w w1 := (((Turn.refl (fun _ => False) w).then_ (S2 := fun _ => False) (Turn.of_below HB.out _) (fun _ h => h.elim)).grown hg1 (fun k hk => .inr (by injection hk with hk; omega))).below (Nat.le_refl _) (fun k hk => hk.elim)
      have hst := remS_step HO.out ha hlx
      have hbd := remS_bound HA.out (fun z => left z && !z.sameKey (.int .i64 a.n)) (l := s.l)
      have htl := HL.out
      have hah := HA.out a ha
      have ht := HT.out
      unfold Ls.total at ht htl
      have hc2 : w1.cell? ⟨B a.n, 2, none⟩ = some (.int .i64 a.held) := cell_of_blk (blk_below (HH.out.acc a ha) hb1 (lt_of_heap (HH.out.acc a ha))) 2
      have hm0 : wr.rangeLeft bm w.heap.size = cnt := hrg.left_eq
      have hm1 : w1.rangeLeft bm w.heap.size = cnt1 := hrg1.left_eq
      have hlo : 0 ≤ t + a.held := by omega
      have hhi : t + a.held ≤ 100000 := by omega
      have HT1 := Lib.hid (show (t + a.held) + remS s.l (fun z => left z && !z.sameKey (.int .i64 a.n)) = s.total by unfold Ls.total; omega)
      have HB1 := Lib.hid hb1
      have HM := Lib.hid (show w1.rangeLeft bm w.heap.size < wr.rangeLeft bm w.heap.size by omega)
      clear hst hbd htl ht hah hb1 hat hRy hlx hg1 hkey hm0 hm1 hrg
      go_wp2
      go_roundw
      case measure => exact HM.out
      exact ⟨_, cnt1, t + a.held, rfl, hrg1, HT1, HB1⟩
theorem ltotal' {w : World} {bl bm : Nat} {B : Int → Nat} {s : Ls} {G : Int} (H : Lst w bl bm B s) (K : LOk G s) : Calls Try.prog 35 #[.pointer (some ⟨bl, 0, Option.none⟩)] w fun e w' => e = .returned (.int .i64 s.total) ∧ Below w.heap.size w w' :=
  ltotal H K.ord (fun x hx => (K.acc x hx).1) (by have := K.total_le; have := K.grantG; omega)
end Go.Proofs.Ytagknfjgokiidaa
