/- the disk: Files; all its calls, as what a thing becomes. -/
import Derived.Test.YtagknfjgokiidaaDE
import Derived.Test.YtagknfjgokiidaaDI
namespace Go.Proofs.Ytagknfjgokiidaa
open Go.RowKit Go.Maps Go.Sort Go.Shelf
set_option linter.unusedVariables false
set_option linter.unusedSimpArgs false
set_option maxRecDepth 6000

theorem sortsD (m : Nat) : AnyZI.SortsIn Try.prog Try.sortedD_ren Fence.wide m :=
  ⟨fun blk off cap ss W hH hblk hsz => callsIn_wide.2 (AnyM.slices_Sort_int Try.sortD blk off cap ss W hH hblk hsz),
   fun p cap W => callsIn_wide.2 (AnyM.slices_Sort_int_none Try.sortD p cap W)⟩
theorem intKeys_mOf (L : List (Int × Value)) : intKeys (mOf L) = L.map (·.1) := by
  unfold mOf intKeys
  dsimp only
  rw [List.map_map]
  rfl
section
variable {w : World} {bd bm bf : Nat} {V : Int → Value} {R : Int} {F : List Int} {s : Ds}
theorem dfiles (H : Dsk w bd bm bf V R F s) (ord : s.fs.Pairwise (fun x y => x.1 < y.1)) (hn : s.fs.length ≤ 100000) :
    Calls Try.prog 23 #[dp bd] w fun e w' => ∃ v, e = .returned v ∧ w'.ownsRow w.heap.size 3 1 v s.fs.length (s.fs.map fun x => Value.int .i64 x.1) ∧ Below w.heap.size w w' := by
  have hfin : ∀ ss : List Int, ss.Perm (intKeys (mOf (s.fs.map fun x => (x.1, V x.1)))) → ss.length = s.fs.length ∧ (ss.mergeSort (fun x y => decide (x ≤ y))).map encZ = s.fs.map fun x => Value.int .i64 x.1 := by
    intro ss hp
    rw [intKeys_mOf, List.map_map] at hp
    refine ⟨by simpa using hp.length_eq, ?_⟩
    rw [show ss.mergeSort (fun x y => decide (x ≤ y)) = (s.fs.map (·.1)).mergeSort (fun x y => decide (x ≤ y)) from mergeSort_of_perm_i hp, List.mergeSort_of_pairwise, List.map_map]
    · rfl
    · refine List.pairwise_map.2 (ord.imp ?_)
      intro a b h
      simp
      omega
  have hbl := H.map.lt
  have hmax : Maps.size (mOf (s.fs.map fun x => (x.1, V x.1))) ≤ maxLen := by rw [mOf_size, List.length_map]; simp only [maxLen]; omega
  have hbytes : Maps.size (mOf (s.fs.map fun x => (x.1, V x.1))) * 8 ≤ 140737488355328 := by rw [mOf_size, List.length_map]; omega
  have hown := H.map
  refine (callsIn_wide (n := 6)).1 ?_
  have hseq : SeqGives Fence.wide 2 Try.prog 54 #[.pointer (some ⟨w.heap.size, 0, Option.none⟩)] encZ (fun ss => ss.Perm (intKeys (mOf (s.fs.map fun x => (x.1, V x.1))))) (Maps.size (mOf (s.fs.map fun x => (x.1, V x.1)))) (w.alloc (.cells #[.map (some bm)] 65)) :=
    AnyZI.keys_gives (ρ := Try.keysD_ren) { Try.keysD with } Fence.wide _ trivial rfl (by omega) w.heap.size bm s.fs.length (mOf (s.fs.map fun x => (x.1, V x.1))) _ (by simp) (by simp) (by
      obtain ⟨es, clock, hb, Ft, hs, hD⟩ := hown
      exact ⟨es, clock, (Below.heap_alloc _ _ bm hbl).trans hb, Ft, hs, hD⟩)
  have cK : ∀ mb W, CallsIn Fence.wide 5 Try.prog 46 #[.map mb] W fun e w' => e = .returned (.func (.func 54) #[] #[.pointer (some ⟨W.heap.size, 0, Option.none⟩)]) ∧ w' = W.alloc (.cells #[.map mb] 65) := fun mb W => AnyZI.keys_in Try.keysD Fence.wide 5 trivial rfl mb W
  have cS := AnyZI.sorted_in Try.sortedD Fence.wide 5 trivial trivial trivial trivial rfl (by omega) (sortsD _) (enters_of Try.func53 (by kernel_rfl) rfl) 54 #[.pointer (some ⟨w.heap.size, 0, Option.none⟩)] trivial (enters_of Try.func54 (by kernel_rfl) rfl) _ _ hmax hbytes _ hseq
  change CallsIn _ _ Try.prog 45 _ _ _ at cS
  have cR : CallsIn Fence.wide 5 Try.prog 42 #[dp bd] w fun e w' => e = .returned (.bool true) ∧ w' = w := callsIn_wide.2 (dready H)
  obtain ⟨c0, c1, c2, c3, c4, c5, c6, c7, c8, hb⟩ := H.cells
  clear H
  have hfK : Fence.wide.fn 46 := trivial
  have hfS : Fence.wide.fn 45 := trivial
  have hfR : Fence.wide.fn 42 := trivial
  refine callsIn_of_wp Try.func23 rfl trivial ?_ rfl
  simp only [Try.ntmps23, List.size_toArray, List.length_cons, List.length_nil, Nat.reduceAdd, Nat.reduceSub, Array.replicate_succ, Array.replicate_zero, List.push_toArray, List.append_toArray, List.nil_append, List.cons_append]
  gi_wp2_with (first
    | (gi_at_call 42; refine cR.mono ?_; rintro e w1 ⟨rfl, hw⟩; obtain rfl := hw.symm; clear hw)
    | (gi_at_call 46; refine (cK _ _).mono ?_; rintro e w' ⟨rfl, rfl⟩)
    | (gi_at_call 45; refine cS.mono ?_; rintro e w' ⟨v, ss, rfl, hS, hrow, hnil, hb⟩))
  go_ret
  obtain ⟨e1, e2⟩ := hfin ss hS
  rw [e1, e2] at hrow
  exact ⟨v, rfl, own_lower hrow (by simp), ((Below.refl _ w).alloc (Nat.le_refl _) _).trans (hb.mono (by simp))⟩
end
/-- Bytes that are read. -/
def RdBy (w : World) (A : Option Addr) (k : Nat) (p : List Int) : Prop := p.length = k ∧ (0 < k → ∃ ad, A = some ad ∧ At8 w ad p)
theorem RdBy.below {w w' : World} {A : Option Addr} {k : Nat} {p : List Int} (h : RdBy w A k p) (hb : Below w.heap.size w w') : RdBy w' A k p :=
  ⟨h.1, fun hk => by obtain ⟨ad, e, ha⟩ := h.2 hk; exact ⟨ad, e, ha.below hb⟩⟩
theorem RdBy.of_own {w : World} {base : Nat} {A : Option Addr} {k c : Nat} {p : List Int} (h : w.ownsRow base 5 1 (.slice A k c) k (b8 p)) : RdBy w A k p := by
  have hl : p.length = k := by simpa using h.1
  refine ⟨hl, fun hk => ?_⟩
  rcases h.2 with ⟨e, e2⟩ | ⟨g, cap, cur, e, hb, hg, hnc, hm, _⟩
  · omega
  · injection e with e1 e3
    subst e1
    exact ⟨_, rfl, lt_of_heap hg, h.cells (g := g) rfl⟩
def Ds.readQ (F : List Int) (s : Ds) (n i : Int) : Pg := if s.readE F n i = 0 then s.readP n i else []
section
variable {w : World} {S : Nat → Prop} {bd : Nat} {R : Int} {F : List Int} {s : Ds}
theorem d_create (H : DR bd R F s w S) (K : DOk R s) (hm : s.made ≤ 1000000000) :
    Calls Try.prog 15 #[dp bd] w fun e w' => e = .returned (.tuple #[.int .i64 (if s.createE = 0 then s.made + 1 else 0), .int .i64 s.createE]) ∧ Ch w S (DR bd R F s.create) w' := by
  obtain ⟨bm, bf, V, h, rfl⟩ := H
  by_cases hl : 32768 ≤ s.fs.length
  · have e : s.createE = 2 := if_pos hl
    unfold Ds.create
    rw [e]
    refine (dcreate_full h hl).mono ?_
    rintro e w' ⟨rfl, rfl⟩
    exact ⟨rfl, Ch.same (DR_good _ _ _ _) ⟨_, _, _, h, rfl⟩ (Below.refl _ _)⟩
  · have e : s.createE = 0 := if_neg hl
    unfold Ds.create
    rw [e]
    exact dcreate_ok h (by omega) K.made hm (fun x hx => (K.num x hx).2)
theorem d_size (H : DR bd R F s w S) {n : Int} (hw : (Lit.int .i64 n).wf = true) :
    Calls Try.prog 19 #[dp bd, .int .i64 n] w fun e w' => e = .returned (.tuple #[.int .i64 ((s.find n).elim 0 fun l => (l.length : Int)), .int .i64 (if (s.find n).isSome then 0 else 4)]) ∧ w' = w := by
  obtain ⟨bm, bf, V, h, rfl⟩ := H
  cases hf : s.find n with
  | none => exact dsize_no h hw hf
  | some l => exact dsize_yes h hw hf
theorem d_files (H : DR bd R F s w S) (K : DOk R s) : Calls Try.prog 23 #[dp bd] w fun e w' => ∃ A c, e = .returned (.slice A s.fs.length c) ∧ w'.ownsRow w.heap.size 3 1 (.slice A s.fs.length c) s.fs.length (s.fs.map fun x => Value.int .i64 x.1) ∧ Below w.heap.size w w' := by
  obtain ⟨bm, bf, V, h, rfl⟩ := H
  refine (dfiles h K.ord (by have := K.len; omega)).mono ?_
  rintro e w' ⟨v, rfl, ho, b⟩
  obtain ⟨A, c, rfl⟩ := own_slice ho
  exact ⟨A, c, rfl, ho, b⟩
theorem d_del (H : DR bd R F s w S) (K : DOk R s) {n : Int} (hw : (Lit.int .i64 n).wf = true) :
    Calls Try.prog 18 #[dp bd, .int .i64 n] w fun e w' => e = .returned (.int .i64 (s.delE n)) ∧ Ch w S (DR bd R F (s.del n)) w' := by
  obtain ⟨bm, bf, V, h, rfl⟩ := H
  cases hf : s.find n with
  | none =>
    have e : s.delE n = 4 := by unfold Ds.delE; rw [hf]
    have e2 : s.del n = s := by unfold Ds.del; rw [hf]
    rw [e, e2]
    refine (ddel_no h hw hf).mono ?_
    rintro e w' ⟨rfl, rfl⟩
    exact ⟨rfl, Ch.same (DR_good _ _ _ _) ⟨_, _, _, h, rfl⟩ (Below.refl _ _)⟩
  | some l =>
    have e : s.delE n = 0 := by unfold Ds.delE; rw [hf]
    rw [e]
    exact ddel_yes h K hw hf
theorem d_app (H : DR bd R F s w S) (K : DOk R s) (hd : s.deeds ≤ 1000000000) {n : Int} (hw : (Lit.int .i64 n).wf = true) {A : Option Addr} {k c : Nat} {p : Pg} (hp : RdBy w A k p) (hne : ∀ ad, A = some ad → ¬ S ad.block) :
    Calls Try.prog 16 #[dp bd, .int .i64 n, .slice A k c] w fun e w' => e = .returned (.int .i64 (s.appE R F n p)) ∧ Ch w S (DR bd R F (s.app R F n p)) w' := by
  obtain ⟨bm, bf, V, h, rfl⟩ := H
  have same : Ch w (DS bd bm bf V s) (DR bd R F s) w := Ch.same (DR_good _ _ _ _) ⟨_, _, _, h, rfl⟩ (Below.refl _ _)
  have hkeep : ∀ {E : Int}, s.appE R F n p = E → E ≠ 0 → E ≠ 50 → s.app R F n p = s := fun e h1 h2 => by unfold Ds.app; rw [e, if_neg h1, if_neg h2]
  by_cases hk : k = 256
  · subst hk
    have hl : p.length = 256 := hp.1
    cases hf : s.find n with
    | none =>
      have e : s.appE R F n p = 4 := by unfold Ds.appE; rw [if_neg (by omega), hf]
      rw [hkeep e (by decide) (by decide), e]
      refine (dapp_none h hw hf).mono ?_
      rintro e w' ⟨rfl, rfl⟩
      exact ⟨rfl, same⟩
    | some l =>
      by_cases hu : R ≤ s.used
      · have e : s.appE R F n p = 2 := by unfold Ds.appE; rw [if_neg (by omega), hf]; exact if_pos hu
        rw [hkeep e (by decide) (by decide), e]
        refine (dapp_full h hw hf hu).mono ?_
        rintro e w' ⟨rfl, b⟩
        exact ⟨rfl, Ch.same (DR_good _ _ _ _) ⟨_, _, _, h, rfl⟩ b⟩
      · cases hc : F.contains (s.deeds + 1) with
        | true =>
          have e : s.appE R F n p = 50 := by unfold Ds.appE; rw [if_neg (by omega), hf]; dsimp only; rw [if_neg hu, hc]; rfl
          have e2 : s.app R F n p = s.deed_ := by unfold Ds.app; rw [e, if_neg (by decide), if_pos rfl]
          rw [e, e2]
          exact dapp_fault h K hd hw hf (by omega) hc
        | false =>
          have e : s.appE R F n p = 0 := by unfold Ds.appE; rw [if_neg (by omega), hf]; dsimp only; rw [if_neg hu, hc]; rfl
          have e2 : s.app R F n p = ⟨s.made, s.deeds + 1, s.reads, s.writes + 1, s.used + 1, max s.peak (s.used + 1), addPg s.fs n p⟩ := by unfold Ds.app; rw [if_pos e]
          rw [e, e2]
          obtain ⟨ad, rfl, ha⟩ := hp.2 (by omega)
          exact dapp_ok h K hd hw hf (by omega) hc ha hl (fun e => hne ad rfl (.inl e))
  · have e : s.appE R F n p = 1 := by unfold Ds.appE; exact if_pos (by rw [hp.1]; exact hk)
    rw [hkeep e (by decide) (by decide), e]
    refine (dapp_arg h hw hk).mono ?_
    rintro e w' ⟨rfl, rfl⟩
    exact ⟨rfl, same⟩
theorem row_nil (w : World) (e : TypeId) : w.ownsRow 0 e 1 (.slice none 0 0) 0 [] := ⟨rfl, .inl ⟨rfl, rfl⟩⟩
theorem Ch.plus_nil {w' : World} {R' : Res} (h : Ch w S R' w') (e : TypeId) : Ch w S (star R' (rowR e 1 (.slice none 0 0) 0 [])) w' := by
  obtain ⟨S', h1, h2, h3⟩ := h
  exact ⟨S', ⟨S', fun k => (Value.slice none 0 0).ownBlock = some k, h1, ⟨row_nil _ _, rfl⟩, fun k _ e => by simp [Value.ownBlock] at e, fun k => by simp [Value.ownBlock]⟩, h2, h3⟩
theorem d_read (H : DR bd R F s w S) (K : DOk R s) (hd : s.deeds ≤ 1000000000) {n i : Int} (hw : (Lit.int .i64 n).wf = true) :
    Calls Try.prog 20 #[dp bd, .int .i64 n, .int .i64 i] w fun e w' => ∃ v : Option Addr × Nat × Nat, e = .returned (.tuple #[.slice v.1 v.2.1 v.2.2, .int .i64 (s.readE F n i)]) ∧ Ch w S (star (DR bd R F (s.read F n i)) (rowR 5 1 (.slice v.1 v.2.1 v.2.2) v.2.1 (b8 (s.readQ F n i)))) w' := by
  obtain ⟨bm, bf, V, h, rfl⟩ := H
  have hE : s.readE F n i = 4 ∨ s.readE F n i = 50 ∨ s.readE F n i = 0 := by
    unfold Ds.readE
    cases s.find n with
    | none => exact .inl rfl
    | some l =>
      dsimp only
      split
      · exact .inl rfl
      · split
        · exact .inr (.inl rfl)
        · exact .inr (.inr rfl)
  rcases hE with e | e | e
  · have e2 : s.read F n i = s := by unfold Ds.read; rw [e, if_neg (by decide), if_neg (by decide)]
    have e3 : s.readQ F n i = [] := by unfold Ds.readQ; rw [e, if_neg (by decide)]
    rw [e, e2, e3]
    refine (dread_none h hw e).mono ?_
    rintro e w' ⟨rfl, rfl⟩
    exact ⟨(none, 0, 0), rfl, Ch.plus_nil (Ch.same (DR_good _ _ _ _) ⟨_, _, _, h, rfl⟩ (Below.refl _ _)) _⟩
  · have e2 : s.read F n i = s.deed_ := by unfold Ds.read; rw [e, if_neg (by decide), if_pos rfl]
    have e3 : s.readQ F n i = [] := by unfold Ds.readQ; rw [e, if_neg (by decide)]
    rw [e, e2, e3]
    refine (dread_fault h K hd hw e).mono ?_
    rintro e w' ⟨rfl, hc⟩
    exact ⟨(none, 0, 0), rfl, Ch.plus_nil hc _⟩
  · have e3 : s.readQ F n i = s.readP n i := by unfold Ds.readQ; rw [if_pos e]
    rw [e3]
    refine (dread_ok h K hd hw e).mono ?_
    rintro e' w' ⟨v, rfl, hc⟩
    exact ⟨(v.1, 256, v.2), by rw [e], hc⟩
end
theorem d_new_no {w : World} {g : Int} {A : Option Addr} {k c : Nat} (h : g < 0 ∨ 16384 < g) : Calls Try.prog 11 #[.int .i64 g, .slice A k c] w fun e w' => e = .returned (.tuple #[.pointer none, .int .i64 1]) ∧ w' = w := dnew_no h
end Go.Proofs.Ytagknfjgokiidaa
