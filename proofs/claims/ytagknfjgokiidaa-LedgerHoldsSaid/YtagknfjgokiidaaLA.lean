/- the ledger: Accounts. -/
import Derived.Test.YtagknfjgokiidaaLF
import Derived.Test.YtagknfjgokiidaaLI
namespace Go.Proofs.Ytagknfjgokiidaa
open Go.RowKit Go.Maps Go.Sort Go.Shelf
set_option linter.unusedVariables false
set_option linter.unusedSimpArgs false

theorem sortsA (m : Nat) : AnyZI.SortsIn Try.prog Try.sortedA_ren Fence.wide m :=
  ⟨fun blk off cap ss W hH hblk hsz => callsIn_wide.2 (AnyM.slices_Sort_int Try.sortA blk off cap ss W hH hblk hsz),
   fun p cap W => callsIn_wide.2 (AnyM.slices_Sort_int_none Try.sortA p cap W)⟩
theorem intKeys_dOf (L : List (Int × Nat)) : intKeys (dOf L) = L.map (·.1) := by
  unfold dOf intKeys
  dsimp only
  rw [List.map_map]
  rfl
theorem accounts_nil (w : World) : Calls Try.prog 30 #[.pointer Option.none] w fun e w' => e = .returned (.slice Option.none 0 0) ∧ w' = w := by
  have HR := Lib.hid (ready_nil w)
  go_enter Try.func30, Try.ntmps30
  go_wp2_with (go_at_call 48; refine HR.out.mono ?_; rintro e w1 ⟨rfl, hw⟩; obtain rfl := hw.symm; clear hw)
  go_ret
  exact ⟨rfl, rfl⟩
set_option maxHeartbeats 1000000 in
theorem accounts_yes {w : World} {bl bm : Nat} {made most : Int} {L : List (Int × Nat)} {A : Nat → Ac} (H : Led w bl bm made most L A) (hn : L.length ≤ 100000) :
    Calls Try.prog 30 #[.pointer (some ⟨bl, 0, Option.none⟩)] w fun e w' => ∃ v, e = .returned v ∧ w'.ownsRow w.heap.size 3 1 v L.length (L.map fun x => Value.int .i64 x.1) ∧ Below w.heap.size w w' := by
  have hfin : ∀ ss : List Int, ss.Perm (intKeys (dOf L)) → ss.length = L.length ∧ (ss.mergeSort (fun x y => decide (x ≤ y))).map encZ = L.map fun x => Value.int .i64 x.1 := by
    intro ss hp
    rw [intKeys_dOf] at hp
    refine ⟨by simpa using hp.length_eq, ?_⟩
    rw [show ss.mergeSort (fun x y => decide (x ≤ y)) = (L.map (·.1)).mergeSort (fun x y => decide (x ≤ y)) from mergeSort_of_perm_i hp, List.mergeSort_of_pairwise, List.map_map]
    · rfl
    · refine List.pairwise_map.2 (H.ord.imp ?_)
      intro a b h
      simp
      omega
  have hbl := H.map.lt
  have hmax : Maps.size (dOf L) ≤ maxLen := by rw [dOf_size]; simp only [maxLen]; omega
  have hbytes : Maps.size (dOf L) * 8 ≤ 140737488355328 := by rw [dOf_size]; omega
  have hown := H.map
  refine (callsIn_wide (n := 6)).1 ?_
  have hseq : SeqGives Fence.wide 2 Try.prog 55 #[.pointer (some ⟨w.heap.size, 0, Option.none⟩)] encZ (fun ss => ss.Perm (intKeys (dOf L))) (Maps.size (dOf L)) (w.alloc (.cells #[.map (some bm)] 88)) :=
    AnyZI.keys_gives (ρ := Try.keysA_ren) { Try.keysA with } Fence.wide _ trivial rfl (by omega) w.heap.size bm L.length (dOf L) _ (by simp) (by simp) (by
      obtain ⟨es, clock, hb, Ft, hs, hD⟩ := hown
      exact ⟨es, clock, (Below.heap_alloc _ _ bm hbl).trans hb, Ft, hs, hD⟩)
  have cK : ∀ mb W, CallsIn Fence.wide 5 Try.prog 50 #[.map mb] W fun e w' => e = .returned (.func (.func 55) #[] #[.pointer (some ⟨W.heap.size, 0, Option.none⟩)]) ∧ w' = W.alloc (.cells #[.map mb] 88) := fun mb W => AnyZI.keys_in Try.keysA Fence.wide 5 trivial rfl mb W
  have cS := AnyZI.sorted_in Try.sortedA Fence.wide 5 trivial trivial trivial trivial rfl (by omega) (sortsA _) (enters_of Try.func53 (by kernel_rfl) rfl) 55 #[.pointer (some ⟨w.heap.size, 0, Option.none⟩)] trivial (enters_of Try.func55 (by kernel_rfl) rfl) _ _ hmax hbytes _ hseq
  change CallsIn _ _ Try.prog 45 _ _ _ at cS
  have cR : CallsIn Fence.wide 5 Try.prog 48 #[.pointer (some ⟨bl, 0, Option.none⟩)] w fun e w' => e = .returned (.bool true) ∧ w' = w := callsIn_wide.2 (ready_yes H)
  obtain ⟨c0, c1, c2, f1, f2, hb⟩ := H.cells
  clear H
  have hfK : Fence.wide.fn 50 := trivial
  have hfS : Fence.wide.fn 45 := trivial
  have hfR : Fence.wide.fn 48 := trivial
  refine callsIn_of_wp Try.func30 rfl trivial ?_ rfl
  simp only [Try.ntmps30, List.size_toArray, List.length_cons, List.length_nil, Nat.reduceAdd, Nat.reduceSub, Array.replicate_succ, Array.replicate_zero, List.push_toArray, List.append_toArray, List.nil_append, List.cons_append]
  gi_wp2_with (first
    | (gi_at_call 48; refine cR.mono ?_; rintro e w1 ⟨rfl, hw⟩; obtain rfl := hw.symm; clear hw)
    | (gi_at_call 50; refine (cK _ _).mono ?_; rintro e w' ⟨rfl, rfl⟩)
    | (gi_at_call 45; refine cS.mono ?_; rintro e w' ⟨v, ss, rfl, hS, hrow, hnil, hb⟩))
  go_ret
  obtain ⟨e1, e2⟩ := hfin ss hS
  rw [e1, e2] at hrow
  exact ⟨v, rfl, own_lower hrow (by simp), ((Below.refl _ w).alloc (Nat.le_refl _) _).trans (hb.mono (by simp))⟩
end Go.Proofs.Ytagknfjgokiidaa
