/- the ledger: Open. -/
import Derived.Test.YtagknfjgokiidaaLK
namespace Go.Proofs.Ytagknfjgokiidaa
open Go.RowKit Go.Maps
set_option linter.unusedVariables false
set_option linter.unusedSimpArgs false

theorem Lst.grow {w w' : World} {bl bm nb : Nat} {B : Int → Nat} {s : Ls} {a : Acc} {G g : Int} (H : Lst w bl bm B s) (K : LOk G s) (ha : a ∈ s.l)
    (ht : Turn (fun k => k = bl ∨ k = bm ∨ k = B a.n) w w') (hnb : w.heap.size ≤ nb) (h1 : w'.heap[bl]? = some (.cells #[.map (some bm), .int .i64 (s.made + 1), .int .i64 s.most] 90 (0, 0)))
    (h2 : w'.heap[B a.n]? = some (acObj ((addKid g a).ac B))) (h3 : w'.heap[nb]? = some (acObj ⟨some (B a.n), g, 0, 0, 0, 0⟩)) (h4 : OwnA w' bm (s.l.length + 1) ((s.l.map fun a => (a.n, B a.n)) ++ [(s.made + 1, nb)])) :
    LPost w bl bm B s ⟨s.made + 1, s.most, updL s.l a.n (addKid g) ++ [⟨s.made + 1, some a.n, g, 0, 0, 0, 0⟩]⟩ w' := by
  obtain ⟨C, hB, hN⟩ : ∃ C : Int → Nat, (∀ k, k ≤ s.made → C k = B k) ∧ C (s.made + 1) = nb := ⟨fun m => if m = s.made + 1 then nb else B m, fun k hk => if_neg (by omega), if_pos rfl⟩
  have hacB : ∀ x ∈ s.l, ∀ f : Acc → Acc, (f x).ab = x.ab → (f x).ac C = (f x).ac B := by
    intro x hx f hf
    unfold Acc.ac
    rw [hf]
    have : x.ab.map C = x.ab.map B := by
      cases hab : x.ab with
      | none => rfl
      | some k =>
        obtain ⟨y, hy, e⟩ := List.mem_map.1 (K.abv x hx k hab)
        have := (K.num y hy).2
        simp only [Option.map_some]
        rw [hB _ (by omega)]
    rw [this]
  have back : ∀ x ∈ updL s.l a.n (addKid g), ∃ y ∈ s.l, x.n = y.n ∧ (x = y ∧ y.n ≠ a.n ∨ y = a ∧ x = addKid g a) := by
    intro x hx
    rcases updL_mem hx with ⟨hx, hne⟩ | ⟨y, hy, e, rfl⟩
    · exact ⟨x, hx, rfl, .inl ⟨rfl, hne⟩⟩
    · obtain rfl := ord_inj K.ord hy ha e
      exact ⟨y, hy, rfl, .inr ⟨rfl, rfl⟩⟩
  refine ⟨C, ⟨h1, ?_, ?_, ?_⟩, ht.mono ?_, ?_⟩
  · dsimp only
    have e : ∀ (C : Int → Nat) (l : List Acc), l.map (fun a => (a.n, C a.n)) = (l.map (·.n)).map fun n => (n, C n) := fun C l => by rw [List.map_map]; rfl
    rw [e, List.map_append, updL_ns (f := addKid g) (fun _ => rfl), List.map_append, List.length_append, updL_len]
    have e2 : (s.l.map (·.n)).map (fun n => (n, C n)) = s.l.map fun a => (a.n, B a.n) := by
      rw [List.map_map]
      refine List.map_congr_left fun x hx => ?_
      have := (K.num x hx).2
      dsimp only [Function.comp]
      rw [hB _ this]
    rw [e2]
    simp only [List.map_cons, List.map_nil, hN, List.length_cons, List.length_nil]
    exact h4
  · intro x hx
    rcases List.mem_append.1 hx with hx | hx
    · obtain ⟨y, hy, e1, h⟩ := back x hx
      have hyn := (K.num y hy).2
      rw [e1, hB _ hyn]
      rcases h with ⟨rfl, hne⟩ | ⟨rfl, e⟩
      · rw [show x.ac C = x.ac B from hacB x hy id rfl]
        refine ht.heap (H.acc x hy) (fun e => ?_)
        rcases e with e | e | e
        · exact H.ne.2.1 x hy e
        · exact H.ne.2.2 x hy e
        · exact hne (H.inj x hy a ha e)
      · rw [e, hacB y hy (addKid g) rfl]
        exact h2
    · obtain rfl := List.mem_singleton.1 hx
      dsimp only
      rw [hN, h3]
      unfold Acc.ac
      simp only [Option.map_some]
      rw [hB _ (K.num a ha).2]
  · have old : ∀ y ∈ s.l, B y.n ≠ nb := fun y hy e => by have := H.lt _ (.inr (.inr ⟨y, hy, rfl⟩)); omega
    intro x hx z hz e
    rcases List.mem_append.1 hx with hx | hx <;> rcases List.mem_append.1 hz with hz | hz
    · obtain ⟨y, hy, e1, _⟩ := back x hx
      obtain ⟨u, hu, e2, _⟩ := back z hz
      rw [e1, e2] at e ⊢
      rw [hB _ (K.num y hy).2, hB _ (K.num u hu).2] at e
      exact H.inj y hy u hu e
    · obtain ⟨y, hy, e1, _⟩ := back x hx
      obtain rfl := List.mem_singleton.1 hz
      rw [e1, hB _ (K.num y hy).2] at e
      dsimp only at e
      rw [hN] at e
      exact absurd e (old y hy)
    · obtain ⟨u, hu, e2, _⟩ := back z hz
      obtain rfl := List.mem_singleton.1 hx
      rw [e2, hB _ (K.num u hu).2] at e
      dsimp only at e
      rw [hN] at e
      exact absurd e.symm (old u hu)
    · rw [List.mem_singleton.1 hx, List.mem_singleton.1 hz]
  · rintro k (rfl | rfl | rfl)
    · exact .inl rfl
    · exact .inr (.inl rfl)
    · exact .inr (.inr ⟨a, ha, rfl⟩)
  · rintro k (rfl | rfl | ⟨x, hx, rfl⟩)
    · exact .inl (.inl rfl)
    · exact .inl (.inr (.inl rfl))
    · rcases List.mem_append.1 hx with hx | hx
      · obtain ⟨y, hy, e1, _⟩ := back x hx
        rw [e1, hB _ (K.num y hy).2]
        exact .inl (.inr (.inr ⟨y, hy, rfl⟩))
      · obtain rfl := List.mem_singleton.1 hx
        dsimp only
        rw [hN]
        exact .inr hnb
theorem len_yes {w : World} {bl bm : Nat} {B : Int → Nat} {s : Ls} (H : Lst w bl bm B s) : (Builtin.len_ #[88 ] 3 #[.map (some bm)]).run Try.prog w = .ok (.int .i64 s.l.length) w := by
  rw [H.map.len Try.underlying88, dOf_size, List.length_map]
set_option maxRecDepth 6000 in
set_option maxHeartbeats 2000000 in
theorem open_walk {w : World} {bl bm : Nat} {B : Int → Nat} {s : Ls} {G n g : Int} (H : Lst w bl bm B s) (K : LOk G s) (hm : s.made ≤ 1000000) (wn : (Lit.int .i64 n).wf = true) (wg : (Lit.int .i64 g).wf = true) :
    Calls Try.prog 26 #[.pointer (some ⟨bl, 0, Option.none⟩), .int .i64 n, .int .i64 g] w fun e w' => e = .returned (.tuple #[.int .i64 (if s.openE n g = 0 then s.made + 1 else 0), .int .i64 (s.openE n g)]) ∧ LPost w bl bm B s (s.open_ n g) w' := by
  have HR := Lib.hid (fun W (b : Below w.heap.size w W) => lready (H.below b) K.ord)
  have HH := Lib.hid (And.intro H K)
  by_cases h1 : g < 0
  · have e0 : s.openE n g = 1 := by unfold Ls.openE; exact if_pos h1
    rw [open_keep (by rw [e0]; decide), e0, if_neg (by decide)]
    clear e0
    cases hf : s.find n with
    | none =>
      have HF := Lib.hid (lfind_no H K.ord wn hf)
      clear hf H K
      go_enter Try.func26, Try.ntmps26
      go_wp2_with (first
        | (go_at_call 47; refine HF.out.mono ?_; rintro e w1 ⟨rfl, _, b1⟩)
        | (go_at_call 48; refine (HR.out w1 b1).mono ?_; rintro e w2 ⟨rfl, hw2⟩; obtain rfl := hw2.symm; clear hw2))
      go_ret2
      exact ⟨by trivial, LPost.same HH.out.1 b1⟩
    | some a =>
      have HF := Lib.hid (lfind_yes H K.ord wn hf)
      clear hf H K
      go_enter Try.func26, Try.ntmps26
      go_wp2_with (first
        | (go_at_call 47; refine HF.out.mono ?_; rintro e w1 ⟨rfl, hw⟩; obtain rfl := hw.symm; clear hw)
        | (go_at_call 48; refine (HR.out _ (Below.refl _ _)).mono ?_; rintro e w2 ⟨rfl, hw2⟩; obtain rfl := hw2.symm; clear hw2))
      go_ret2
      exact ⟨by trivial, LPost.same HH.out.1 (Below.refl _ _)⟩
  · cases hf : s.find n with
    | none =>
      have HF := Lib.hid (lfind_no H K.ord wn hf)
      have e0 : s.openE n g = 4 := by unfold Ls.openE; rw [if_neg h1, hf]
      rw [open_keep (by rw [e0]; decide), e0, if_neg (by decide)]
      clear e0 hf H K
      go_enter Try.func26, Try.ntmps26
      go_wp2_with (first
        | (go_at_call 47; refine HF.out.mono ?_; rintro e w1 ⟨rfl, _, b1⟩)
        | (go_at_call 48; refine (HR.out w1 b1).mono ?_; rintro e w2 ⟨rfl, hw2⟩; obtain rfl := hw2.symm; clear hw2))
      go_ret2
      exact ⟨by trivial, LPost.same HH.out.1 b1⟩
    | some a =>
      have HF := Lib.hid (lfind_yes H K.ord wn hf)
      obtain ⟨ha, rfl⟩ := find_mem hf
      have HE := Lib.hid hf
      have hac := K.acc a ha
      have hgr := K.gr0 ha
      have HL := Lib.hid (aleft K ha (H.acc a ha))
      have HA := Lib.hid (H.acc a ha)
      have HB := Lib.hid ha
      have hl0 : w.cell? ⟨bl, 0, Option.none⟩ = some (.map (some bm)) := cell_of_blk H.led 0
      have hlen := len_yes H
      have hle := K.len
      have hm0 := K.made
      clear hf H K ha
      by_cases h2 : 256 ≤ s.l.length
      · have e0 : s.openE a.n g = 2 := by unfold Ls.openE; rw [if_neg h1, HE.out]; exact if_pos h2
        rw [open_keep (by rw [e0]; decide), e0, if_neg (by decide)]
        clear e0
        go_enter Try.func26, Try.ntmps26
        go_wp2_with (first
          | (go_at_call 47; refine HF.out.mono ?_; rintro e w1 ⟨rfl, hw⟩; obtain rfl := hw.symm; clear hw)
          | (go_at_call 48; refine (HR.out _ (Below.refl _ _)).mono ?_; rintro e w2 ⟨rfl, hw2⟩; obtain rfl := hw2.symm; clear hw2))
        go_ret2
        exact ⟨by trivial, LPost.same HH.out.1 (Below.refl _ _)⟩
      · by_cases h3 : a.left < g
        · have e0 : s.openE a.n g = 60 := by unfold Ls.openE; rw [if_neg h1, HE.out]; dsimp only; rw [if_neg h2]; exact if_pos h3
          rw [open_keep (by rw [e0]; decide), e0, if_neg (by decide)]
          clear e0
          go_enter Try.func26, Try.ntmps26
          go_wp2_with (first
            | (go_at_call 47; refine HF.out.mono ?_; rintro e w1 ⟨rfl, hw⟩; obtain rfl := hw.symm; clear hw)
            | (go_at_call 48; refine (HR.out _ (Below.refl _ _)).mono ?_; rintro e w2 ⟨rfl, hw2⟩; obtain rfl := hw2.symm; clear hw2)
            | (go_at_call 49; refine HL.out.mono ?_; rintro e w3 ⟨rfl, b3⟩))
          go_ret2
          exact ⟨by trivial, LPost.same HH.out.1 b3⟩
        · have e0 : s.openE a.n g = 0 := by unfold Ls.openE; rw [if_neg h1, HE.out]; dsimp only; rw [if_neg h2]; exact if_neg h3
          rw [open_do e0, e0, if_pos rfl]
          clear e0
          unfold Acc.left at h3 HL
          go_enter Try.func26, Try.ntmps26
          go_wp2_with (first
            | (go_at_call 47; refine HF.out.mono ?_; rintro e w1 ⟨rfl, hw⟩; obtain rfl := hw.symm; clear hw)
            | (go_at_call 48; refine (HR.out _ (Below.refl _ _)).mono ?_; rintro e w2 ⟨rfl, hw2⟩; obtain rfl := hw2.symm; clear hw2)
            | (go_at_call 49; refine HL.out.mono ?_; rintro e w3 ⟨rfl, b3⟩; have H3 := Lib.hid (HH.out.1.below b3); have HA3 := Lib.hid (blk_below HA.out b3 (lt_of_heap HA.out)); obtain ⟨c0, c1, c2, c3, c4, c5, hb⟩ := ac_cells HA3.out; have hfr4 := free_of_blk HA3.out 4; have hfr5 := free_of_blk HA3.out 5; have l0 : w3.cell? ⟨bl, 0, Option.none⟩ = some (.map (some bm)) := cell_of_blk H3.out.led 0; have l1 : w3.cell? ⟨bl, 1, Option.none⟩ = some (.int .i64 s.made) := cell_of_blk H3.out.led 1; have lf1 := free_of_blk H3.out.led 1; have hne := H3.out.ne.2.1 a HB.out; dsimp only [Acc.ac] at c0 c1 c2 c3 c4 c5))
          have hT4 : Turn (fun k => k = bl ∨ k = bm ∨ k = B a.n) w (((w3.setCell { block := bl, off := 1 } (Value.int IntKind.i64 (s.made + 1))).setCell { block := B a.n, off := 4 } (Value.int IntKind.i64 (a.granted + g))).setCell { block := B a.n, off := 5 } (Value.int IntKind.i64 (a.below + 1))) := ((((Turn.of_below b3 _).setCell (.inl (.inl rfl)) _).setCell (.inl (.inr (.inr rfl))) _).setCell (.inl (.inr (.inr rfl))) _)
          have hb4 : (((w3.setCell { block := bl, off := 1 } (Value.int IntKind.i64 (s.made + 1))).setCell { block := B a.n, off := 4 } (Value.int IntKind.i64 (a.granted + g))).setCell { block := B a.n, off := 5 } (Value.int IntKind.i64 (a.below + 1))).heap[bl]? = some (.cells #[.map (some bm), .int .i64 (s.made + 1), .int .i64 s.most] 90 (0, 0)) := blk_far (blk_far (blk_set H3.out.led 1 _) (fun e => hne e.symm) _) (fun e => hne e.symm) _
          have ha4 : (((w3.setCell { block := bl, off := 1 } (Value.int IntKind.i64 (s.made + 1))).setCell { block := B a.n, off := 4 } (Value.int IntKind.i64 (a.granted + g))).setCell { block := B a.n, off := 5 } (Value.int IntKind.i64 (a.below + 1))).heap[B a.n]? = some (acObj ((addKid g a).ac B)) := blk_set (blk_set (blk_far HA3.out hne _) 4 _) 5 _
          have hm4 : OwnA (((w3.setCell { block := bl, off := 1 } (Value.int IntKind.i64 (s.made + 1))).setCell { block := B a.n, off := 4 } (Value.int IntKind.i64 (a.granted + g))).setCell { block := B a.n, off := 5 } (Value.int IntKind.i64 (a.below + 1))) bm s.l.length (s.l.map fun a => (a.n, B a.n)) := ((H3.out.map.setCell (fun e => H3.out.ne.1 e.symm) _).setCell (fun e => H3.out.ne.2.2 a HB.out e.symm) _).setCell (fun e => H3.out.ne.2.2 a HB.out e.symm) _
          have hz4 : (((w3.setCell { block := bl, off := 1 } (Value.int IntKind.i64 (s.made + 1))).setCell { block := B a.n, off := 4 } (Value.int IntKind.i64 (a.granted + g))).setCell { block := B a.n, off := 5 } (Value.int IntKind.i64 (a.below + 1))).heap.size = w3.heap.size := by simp [World.setCell]
          have hz3 := b3.size
          clear c0 c1 c2 c3 c4 c5 hfr4 hfr5 hb l0 l1 lf1
          generalize (((w3.setCell { block := bl, off := 1 } (Value.int IntKind.i64 (s.made + 1))).setCell { block := B a.n, off := 4 } (Value.int IntKind.i64 (a.granted + g))).setCell { block := B a.n, off := 5 } (Value.int IntKind.i64 (a.below + 1))) = w4 at hT4 hb4 ha4 hm4 hz4 ⊢
          have hwf : (Lit.int .i64 (s.made + 1)).wf = true := WalkArith.wf_i64 (by omega)
          have hso : OwnA (w4.alloc (.cells #[.pointer (some ⟨B a.n, 0, Option.none⟩), .int .i64 g, .int .i64 0, .int .i64 0, .int .i64 0, .int .i64 0] 87)).drew bm s.l.length (s.l.map fun a => (a.n, B a.n)) := World.ownsMap.drew (World.ownsMap.alloc hm4 _)
          obtain ⟨w5, hrun, hown5, hturn5⟩ := World.ownsMap.store hso KI Try.underlying88 (by simp only [maxLen]; omega) (keyI hwf) (ptrE_some w4.heap.size)
          have l40 : w4.cell? ⟨bl, 0, Option.none⟩ = some (.map (some bm)) := cell_of_blk hb4 0
          have l41 : w4.cell? ⟨bl, 1, Option.none⟩ = some (.int .i64 (s.made + 1)) := cell_of_blk hb4 1
          have l50 : (w4.alloc (.cells #[.pointer (some ⟨B a.n, 0, Option.none⟩), .int .i64 g, .int .i64 0, .int .i64 0, .int .i64 0, .int .i64 0] 87)).drew.cell? ⟨bl, 0, Option.none⟩ = some (.map (some bm)) := cell_of_blk (w := (w4.alloc (.cells #[.pointer (some ⟨B a.n, 0, Option.none⟩), .int .i64 g, .int .i64 0, .int .i64 0, .int .i64 0, .int .i64 0] 87)).drew) (blk_alloc hb4 _) 0
          have l51 : (w4.alloc (.cells #[.pointer (some ⟨B a.n, 0, Option.none⟩), .int .i64 g, .int .i64 0, .int .i64 0, .int .i64 0, .int .i64 0] 87)).drew.cell? ⟨bl, 1, Option.none⟩ = some (.int .i64 (s.made + 1)) := cell_of_blk (w := (w4.alloc (.cells #[.pointer (some ⟨B a.n, 0, Option.none⟩), .int .i64 g, .int .i64 0, .int .i64 0, .int .i64 0, .int .i64 0] 87)).drew) (blk_alloc hb4 _) 1
          have htp : Turn (fun k => k = bm) (w4.alloc (.cells #[.pointer (some ⟨B a.n, 0, Option.none⟩), .int .i64 g, .int .i64 0, .int .i64 0, .int .i64 0, .int .i64 0] 87)).drew w5 := (Turn.refl _ _).grown hturn5.grown (fun k hk => .inl (by injection hk with hk; exact hk.symm))
          have hbm := HH.out.1.ne
          have hb5 : w5.heap[bl]? = some (.cells #[.map (some bm), .int .i64 (s.made + 1), .int .i64 s.most] 90 (0, 0)) := htp.heap (w := (w4.alloc (.cells #[.pointer (some ⟨B a.n, 0, Option.none⟩), .int .i64 g, .int .i64 0, .int .i64 0, .int .i64 0, .int .i64 0] 87)).drew) (blk_alloc hb4 _) hbm.1
          have ha5 : w5.heap[B a.n]? = some (acObj ((addKid g a).ac B)) := htp.heap (w := (w4.alloc (.cells #[.pointer (some ⟨B a.n, 0, Option.none⟩), .int .i64 g, .int .i64 0, .int .i64 0, .int .i64 0, .int .i64 0] 87)).drew) (blk_alloc ha4 _) (hbm.2.2 a HB.out)
          have hn5 : w5.heap[w4.heap.size]? = some (acObj ⟨some (B a.n), g, 0, 0, 0, 0⟩) := htp.heap (w := (w4.alloc (.cells #[.pointer (some ⟨B a.n, 0, Option.none⟩), .int .i64 g, .int .i64 0, .int .i64 0, .int .i64 0, .int .i64 0] 87)).drew) (heap_alloc_new _ _) (fun e => by have := hm4.lt; omega)
          have hT5 : Turn (fun k => k = bl ∨ k = bm ∨ k = B a.n) w w5 := ((hT4.alloc _).drew).grown hturn5.grown (fun k hk => .inl (.inr (.inl (by injection hk with hk; exact hk.symm))))
          have l55 : w5.cell? ⟨bl, 1, Option.none⟩ = some (.int .i64 (s.made + 1)) := cell_of_blk hb5 1
          rw [dOf_put _ _ _ (fun x hx => by obtain ⟨y, hy, rfl⟩ := List.mem_map.1 hx; have := (HH.out.2.num y hy).2; dsimp only; omega)] at hown5
          have HP := Lib.hid (HH.out.1.grow HH.out.2 HB.out hT5 (by omega) hb5 ha5 hn5 hown5)
          clear htp hbm hb5 ha5 hn5 hT5
          have HX := Lib.hid (And.intro hT4 (And.intro hb4 (And.intro ha4 (And.intro hm4 (And.intro hz4 (And.intro hz3 (And.intro hown5 hturn5)))))))
          clear hT4 hb4 ha4 hm4 hz4 hz3 hown5 hturn5 hso
          go_region
          all_goals go_wp2
          all_goals go_ret2
          all_goals exact ⟨by trivial, HP.out⟩
end Go.Proofs.Ytagknfjgokiidaa
