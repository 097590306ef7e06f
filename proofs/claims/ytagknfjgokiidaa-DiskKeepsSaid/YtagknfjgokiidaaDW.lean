/- the disk: New. -/
import Derived.Test.YtagknfjgokiidaaDH
namespace Go.Proofs.Ytagknfjgokiidaa
open Go.RowKit Go.Maps
set_option linter.unusedVariables false
set_option linter.unusedSimpArgs false
set_option maxRecDepth 6000

/-- Numbers that are read. -/
def RdI (w : World) (A : Option Addr) (n : Nat) (F : List Int) : Prop :=
  F.length = n ∧ n ≤ 9223372036854775807 ∧ (∀ x ∈ F, (Lit.int .i64 x).wf = true) ∧ (0 < n → ∃ ad, A = some ad ∧ ad.block < w.heap.size ∧ ∀ j x, F[j]? = some x → w.cell? (ad.add j) = some (.int .i64 x))
theorem add_blk (a : Addr) (n : Nat) : (a.add n).block = a.block := by unfold Addr.add; split <;> rfl
theorem RdI.below {w w' : World} {A : Option Addr} {n : Nat} {F : List Int} (h : RdI w A n F) (hb : Below w.heap.size w w') : RdI w' A n F := by
  refine ⟨h.1, h.2.1, h.2.2.1, fun hn => ?_⟩
  obtain ⟨ad, e, hlt, hc⟩ := h.2.2.2 hn
  exact ⟨ad, e, Nat.lt_of_lt_of_le hlt hb.size, fun i x hx => (hb.cell (by rw [add_blk]; exact hlt)).trans (hc i x hx)⟩
theorem RdI.nil (w : World) : RdI w none 0 [] := ⟨rfl, by omega, by simp, fun h => absurd h (by omega)⟩
theorem Flt.step {w w' : World} {bf : Nat} {F : List Int} {nn : Nat} {D : DataW Value} {x : Int} (h1 : OwnM w bf nn D) (h2 : nn ≤ F.length) (h3 : ∀ n : Int, D.atKey (.int .i64 n) (.held (.bool false)) = .held (.bool (F.contains n)))
    (h : OwnM w' bf (nn + 1) (D.put (.int .i64 x) (.held (.bool true)))) : Flt w' bf (F ++ [x]) := by
  refine ⟨_, _, h, by simp; omega, fun n => ?_⟩
  by_cases e : n = x
  · subst e
    rw [Maps.atKey_put_same (World.ownsMap.isMap h1) (by simp [WideAt.IsKeyLit])]
    simp
  · rw [Maps.atKey_put_other (by simpa using e), h3]
    simp [e]
theorem dnew_yes {w : World} {g : Int} {A : Option Addr} {k c : Nat} {F : List Int} (h1 : 0 ≤ g) (h2 : g ≤ 16384) (hr : RdI w A k F) :
    Calls Try.prog 11 #[.int .i64 g, .slice A k c] w fun e w' => ∃ bd, e = .returned (.tuple #[dp bd, .int .i64 0]) ∧ Ch w (fun _ => False) (DR bd g F Ds.new) w' := by
  have hk := hr.2.1
  have hmk1 := run_makeMap (P := Try.prog) 65 w
  have hmk2 := run_makeMap (P := Try.prog) 66 (w.alloc (.map #[] 0))
  have HR := Lib.hid hr
  clear hr
  go_enter Try.func11, Try.ntmps11
  go_wp2
  go_loopw [22] (fun y wr => ∃ (i : Nat), i ≤ k ∧ y = .int .i64 (i : Int) ∧ Hid (wr.heap[w.heap.size + 2]? = some (dskObj w.heap.size (w.heap.size + 1) g Ds.new)) ∧ Hid (OwnM wr w.heap.size 0 (mOf [])) ∧ Hid (Flt wr (w.heap.size + 1) (F.take i)) ∧ Hid (Below w.heap.size w wr) ∧ w.heap.size + 3 ≤ wr.heap.size) (fun y _ => k - (intOf y).toNat)
  case atStart =>
    have b1 : Below w.heap.size w (w.alloc (.map #[] 0)) := (Below.refl _ _).alloc (Nat.le_refl _) _
    have hm1 : OwnM (w.alloc (.map #[] 0)) w.heap.size 0 (mOf []) := World.ownsMap_made w _ _ _
    have hm2 : OwnM ((w.alloc (.map #[] 0)).alloc (.map #[] 0)) (w.heap.size + 1) 0 (mOf []) := by
      have := World.ownsMap_made (w.alloc (.map #[] 0)) Try.prog 3 hv
      rw [show (w.alloc (.map #[] 0)).heap.size = w.heap.size + 1 from by simp] at this
      exact this
    refine ⟨0, by omega, rfl, ?_, World.ownsMap.alloc (World.ownsMap.alloc hm1 _) _, ⟨0, _, World.ownsMap.alloc hm2 _, by simp, fun n => by rw [mOf_at]; simp [findV]⟩, (b1.alloc (by simp) _).alloc (by simp; omega) _, by simp⟩
    have := heap_alloc_new ((w.alloc (.map #[] 0)).alloc (.map #[] 0)) (dskObj w.heap.size (w.heap.size + 1) g Ds.new)
    rw [show ((w.alloc (.map #[] 0)).alloc (.map #[] 0)).heap.size = w.heap.size + 2 from by simp] at this
    exact this
  case round =>
    obtain ⟨i, hi, rfl, HO, HM, HF, HB, hz⟩ := hrel
    by_cases hlt : i < k
    · obtain ⟨nn, D, o1, o2, o3⟩ := HF.out
      obtain ⟨ad, rfl, had, hc⟩ := (HR.out.below HB.out).2.2.2 (by omega)
      obtain ⟨x, hx⟩ : ∃ x, F[i]? = some x := ⟨_, List.getElem?_eq_getElem (by have := HR.out.1; omega)⟩
      have hcell := hc i x hx
      have hwx := HR.out.2.2.1 x (List.mem_of_getElem? hx)
      have hnn : nn ≤ i := by simp at o2; omega
      obtain ⟨w5, hrun, hown5, hturn5⟩ := World.ownsMap.store o1 K64 Try.underlying66 (by simp only [maxLen]; omega) (k64 (n := x) hwx) (val := .bool true) (d := .held (.bool true)) (ps := []) rfl
      have c4 : wr.cell? ⟨w.heap.size + 2, 4, none⟩ = some (.map (some (w.heap.size + 1))) := cell_of_blk HO.out 4
      have ht : Turn (fun k => k = w.heap.size + 1) wr w5 := (Turn.refl _ _).grown hturn5.grown (fun k hk => .inl (by injection hk with hk; exact hk.symm))
      have HF5 : Hid (Flt w5 (w.heap.size + 1) (F.take (i + 1))) := by
        have := Flt.step o1 o2 o3 hown5
        rw [List.take_add_one, hx]
        exact this
      have HM5 : Hid (OwnM w5 w.heap.size 0 (mOf [])) := OwnM.turn HM.out ht (by omega)
      have HO5 := Lib.hid (ht.heap HO.out (by omega))
      have HB5 := Lib.hid (below_turn HB.out ht (by omega) (fun k hk => by omega))
      have hz5 := ht.size
      clear o1 o2 o3 hc hx HF HM HO hown5 hturn5 ht
      go_wp2
      go_roundw
      case measure => simp [intOf]; omega
      exact ⟨i + 1, by omega, by go_num, HO5, HM5, HF5, HB5, by omega⟩
    · obtain rfl : i = k := by omega
      have HD : Hid (Ch w (fun _ => False) (DR (w.heap.size + 2) g F Ds.new) wr) := by
        have hf : F.take i = F := List.take_of_length_le (by have := HR.out.1; omega)
        refine ⟨DS (w.heap.size + 2) w.heap.size (w.heap.size + 1) (fun _ => nilS) Ds.new, ⟨_, _, _, ⟨HO.out, HM.out, by rw [← hf]; exact HF.out, by omega, by simp [Ds.new], by simp [Ds.new]⟩, rfl⟩, Turn.of_below HB.out _, ?_⟩
        rintro k (rfl | rfl | rfl | ⟨x, hx, _⟩)
        · right; omega
        · right; omega
        · right; omega
        · simp [Ds.new] at hx
      clear HO HM HF
      go_wp2
      go_ret2
      exact ⟨_, by trivial, HD.out⟩
end Go.Proofs.Ytagknfjgokiidaa
