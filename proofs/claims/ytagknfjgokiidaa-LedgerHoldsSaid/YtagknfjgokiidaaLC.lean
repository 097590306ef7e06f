/- the ledger: Close, New. -/
import Derived.Test.YtagknfjgokiidaaLO
namespace Go.Proofs.Ytagknfjgokiidaa
open Go.RowKit Go.Maps
set_option linter.unusedVariables false
set_option linter.unusedSimpArgs false

theorem OwnA.tight {w : World} {bm n : Nat} {L : List (Int × Nat)} (h : OwnA w bm n L) : OwnA w bm L.length L := by
  have hs := dOf_size L
  obtain ⟨es, clock, hb, F, h1, h2⟩ := h
  refine ⟨es, clock, hb, F, ?_, h2⟩
  rw [h2] at hs
  simp [Maps.size, length_sorted] at hs
  omega
theorem Lst.drop {w w' : World} {bl bm N : Nat} {B : Int → Nat} {s : Ls} {a y : Acc} {G : Int} (H : Lst w bl bm B s) (K : LOk G s) (ha : a ∈ s.l) (hy : y ∈ s.l)
    (ht : Turn (fun k => k = bm ∨ k = B y.n) w w') (h2 : w'.heap[B y.n]? = some (acObj ((remKid a.grant y).ac B))) (h4 : OwnA w' bm N ((s.l.map fun a => (a.n, B a.n)).filter fun x => !(x.1 == a.n))) :
    LPost w bl bm B s ⟨s.made, s.most, (updL s.l y.n (remKid a.grant)).filter fun b => !(b.n == a.n)⟩ w' := by
  have back : ∀ x ∈ (updL s.l y.n (remKid a.grant)).filter (fun b => !(b.n == a.n)), ∃ z ∈ s.l, x.n = z.n ∧ (x = z ∧ z.n ≠ y.n ∨ z = y ∧ x = remKid a.grant y) := by
    intro x hx
    obtain ⟨h1, _⟩ := List.mem_filter.1 hx
    rcases updL_mem h1 with ⟨hx, hne⟩ | ⟨z, hz, e, rfl⟩
    · exact ⟨x, hx, rfl, .inl ⟨rfl, hne⟩⟩
    · obtain rfl := ord_inj K.ord hz hy e
      exact ⟨z, hz, rfl, .inr ⟨rfl, rfl⟩⟩
  refine ⟨B, ⟨ht.heap H.led (fun e => e.elim H.ne.1 (fun e => H.ne.2.1 y hy e.symm)), ?_, ?_, ?_⟩, ht.mono ?_, ?_⟩
  · have e : (s.l.map fun a => (a.n, B a.n)).filter (fun x => !(x.1 == a.n)) = ((updL s.l y.n (remKid a.grant)).filter fun b => !(b.n == a.n)).map fun a => (a.n, B a.n) := by
      have e1 : ∀ l : List Acc, (l.filter fun b => !(b.n == a.n)).map (fun a => (a.n, B a.n)) = ((l.map (·.n)).filter fun n => !(n == a.n)).map fun n => (n, B n) := by
        intro l
        rw [List.filter_map, List.map_map]
        rfl
      rw [e1, updL_ns (f := remKid a.grant) (fun _ => rfl), ← e1, List.filter_map]
      rfl
    rw [e] at h4
    have := h4.tight
    rw [List.length_map] at this
    exact this
  · intro x hx
    obtain ⟨z, hz, e1, ⟨rfl, hne⟩ | ⟨rfl, e⟩⟩ := back x hx
    · exact ht.heap (H.acc x hz) (fun e => e.elim (H.ne.2.2 x hz) (fun e => hne (H.inj x hz y hy e)))
    · rw [e1, e]
      exact h2
  · intro x hx z hz e
    obtain ⟨u, hu, e1, _⟩ := back x hx
    obtain ⟨v, hv, e2, _⟩ := back z hz
    rw [e1, e2] at e ⊢
    exact H.inj u hu v hv e
  · rintro k (rfl | rfl)
    · exact .inr (.inl rfl)
    · exact .inr (.inr ⟨y, hy, rfl⟩)
  · rintro k (rfl | rfl | ⟨x, hx, rfl⟩)
    · exact .inl (.inl rfl)
    · exact .inl (.inr (.inl rfl))
    · obtain ⟨u, hu, e1, _⟩ := back x hx
      rw [e1]
      exact .inl (.inr (.inr ⟨u, hu, rfl⟩))
theorem wp_insert {P : Program} {H : Type} (w : World) {ops : Array Oper} {rest : List Oper} {o : Oper} {a : Act} {Q : Exit → Act → World → Prop} (hg : o.guard = none) (m x v : Operand) (t : TypeId) (hop : o.op = Op.insert t m x v)
    (k e : TypeId) (K : Keyed P k) (ht : P.underlying t = some (.map k e)) (R : Value → Option (DataW H × List MemPlace)) (b n : Nat) (D : DataW H)
    (hm : a.eval m = .map (some b)) (hown : w.ownsMap P k R b n D) (hn : n < maxLen) (key val : Value) (kl : Lit) (hx : a.eval x = key) (hv : a.eval v = val) (hkey : keyOf P k key = some kl)
    (d : DataW H) (ps : List MemPlace) (hval : R val = some (d, ps))
    (hK : ∀ w', w'.ownsMap P k R b (n + 1) (D.put kl d) → w.mapTurned w' b → wpList P ops Q rest (a.put o.dst undef) w') :
    wpList P ops Q (o :: rest) a w := by
  refine wpList_plain hg fun K' hK' => ?_
  obtain ⟨w', hrun, r1, r2⟩ := hown.store K ht hn hkey hval
  unfold Oper.wp
  simp [execOp, hop, hm, hx, hv, hrun, Result.andThen]
  exact hK' _ _ (hK w' r1 r2)
set_option maxHeartbeats 2000000 in
theorem close_walk {w : World} {bl bm : Nat} {B : Int → Nat} {s : Ls} {G n : Int} (H : Lst w bl bm B s) (K : LOk G s) (wn : (Lit.int .i64 n).wf = true) :
    Calls Try.prog 27 #[.pointer (some ⟨bl, 0, Option.none⟩), .int .i64 n] w fun e w' => e = .returned (.int .i64 (s.closeE n)) ∧ LPost w bl bm B s (s.close_ n) w' := by
  have HR := Lib.hid (fun W (b : Below w.heap.size w W) => lready (H.below b) K.ord)
  have HH := Lib.hid (And.intro H K)
  cases hf : s.find n with
  | none =>
    have HF := Lib.hid (lfind_no H K.ord wn hf)
    have e0 : s.closeE n = 4 := by unfold Ls.closeE; rw [hf]
    rw [close_keep (by rw [e0]; decide), e0]
    clear e0 hf H K
    go_enter Try.func27, Try.ntmps27
    go_wp2_with (first
      | (go_at_call 47; refine HF.out.mono ?_; rintro e w1 ⟨rfl, _, b1⟩)
      | (go_at_call 48; refine (HR.out w1 b1).mono ?_; rintro e w2 ⟨rfl, hw2⟩; obtain rfl := hw2.symm; clear hw2))
    go_ret
    exact ⟨by trivial, LPost.same HH.out.1 b1⟩
  | some a =>
    have HF := Lib.hid (lfind_yes H K.ord wn hf)
    obtain ⟨ha, rfl⟩ := find_mem hf
    have HE := Lib.hid hf
    have hac := K.acc a ha
    have hgr := K.gr0 ha
    have HA := Lib.hid (H.acc a ha)
    have HB := Lib.hid ha
    obtain ⟨c0, c1, c2, c3, c4, c5, hb⟩ := ac_cells (H.acc a ha)
    dsimp only [Acc.ac] at c0 c1 c2 c3 c4 c5
    clear hf H K ha
    cases hab : a.ab with
    | none =>
      have e0 : s.closeE a.n = 1 := by unfold Ls.closeE; rw [HE.out]; exact if_pos (.inl hab)
      rw [close_keep (by rw [e0]; decide), e0]
      rw [hab] at c0
      have c0' : w.cell? ⟨B a.n, 0, Option.none⟩ = some (.pointer Option.none) := c0
      clear e0 hab c0
      go_enter Try.func27, Try.ntmps27
      go_wp2_with (first
        | (go_at_call 47; refine HF.out.mono ?_; rintro e w1 ⟨rfl, hw⟩; obtain rfl := hw.symm; clear hw)
        | (go_at_call 48; refine (HR.out _ (Below.refl _ _)).mono ?_; rintro e w2 ⟨rfl, hw2⟩; obtain rfl := hw2.symm; clear hw2))
      go_ret
      exact ⟨by trivial, LPost.same HH.out.1 (Below.refl _ _)⟩
    | some m =>
      obtain ⟨y, hy, rfl⟩ := List.mem_map.1 (HH.out.2.abv a HB.out m hab)
      rw [hab] at c0
      have c0' : w.cell? ⟨B a.n, 0, Option.none⟩ = some (.pointer (some ⟨B y.n, 0, Option.none⟩)) := c0
      have HAB := Lib.hid hab
      clear c0 hab
      by_cases h1 : 0 < a.held
      · have e0 : s.closeE a.n = 1 := by unfold Ls.closeE; rw [HE.out]; exact if_pos (.inr (.inl h1))
        rw [close_keep (by rw [e0]; decide), e0]
        clear e0
        go_enter Try.func27, Try.ntmps27
        go_wp2_with (first
          | (go_at_call 47; refine HF.out.mono ?_; rintro e w1 ⟨rfl, hw⟩; obtain rfl := hw.symm; clear hw)
          | (go_at_call 48; refine (HR.out _ (Below.refl _ _)).mono ?_; rintro e w2 ⟨rfl, hw2⟩; obtain rfl := hw2.symm; clear hw2))
        go_ret
        exact ⟨by trivial, LPost.same HH.out.1 (Below.refl _ _)⟩
      · by_cases h2 : 0 < a.below
        · have e0 : s.closeE a.n = 1 := by unfold Ls.closeE; rw [HE.out]; exact if_pos (.inr (.inr h2))
          rw [close_keep (by rw [e0]; decide), e0]
          clear e0
          go_enter Try.func27, Try.ntmps27
          go_wp2_with (first
            | (go_at_call 47; refine HF.out.mono ?_; rintro e w1 ⟨rfl, hw⟩; obtain rfl := hw.symm; clear hw)
            | (go_at_call 48; refine (HR.out _ (Below.refl _ _)).mono ?_; rintro e w2 ⟨rfl, hw2⟩; obtain rfl := hw2.symm; clear hw2))
          go_ret
          exact ⟨by trivial, LPost.same HH.out.1 (Below.refl _ _)⟩
        · have e0 : s.closeE a.n = 0 := by unfold Ls.closeE; rw [HE.out]; exact if_neg (fun h => h.elim (fun h => by rw [HAB.out] at h; cases h) (fun h => h.elim h1 h2))
          rw [close_do e0 HE.out, e0, HAB.out]
          clear e0
          dsimp only [Option.getD_some]
          have HY := Lib.hid (HH.out.1.acc y hy)
          obtain ⟨y0, y1, y2, y3, y4, y5, hyb⟩ := ac_cells HY.out
          have yf4 := free_of_blk HY.out 4
          have yf5 := free_of_blk HY.out 5
          dsimp only [Acc.ac] at y0 y1 y2 y3 y4 y5
          have hyr := HH.out.2.gr0 hy
          have hya := HH.out.2.acc y hy
          have hl0 : w.cell? ⟨bl, 0, Option.none⟩ = some (.map (some bm)) := cell_of_blk HH.out.1.led 0
          have hne : B a.n ≠ B y.n := fun e => by
            have e1 := HH.out.1.inj a HB.out y hy e
            have := kid_none (l := s.l) (n := a.n) (by have := (HH.out.2.kid a HB.out).2; omega) a HB.out
            exact this (by rw [HAB.out, e1])
          have hnl := HH.out.1.ne.2.1 y hy
          have HYm := Lib.hid hy
          clear hy
          go_enter Try.func27, Try.ntmps27
          go_wp2_with (first
            | (go_at_call 47; refine HF.out.mono ?_; rintro e w1 ⟨rfl, hw⟩; obtain rfl := hw.symm; clear hw)
            | (go_at_call 48; refine (HR.out _ (Below.refl _ _)).mono ?_; rintro e w2 ⟨rfl, hw2⟩; obtain rfl := hw2.symm; clear hw2))
          go_region
          have HM : Hid (OwnA (((w.setCell { block := B y.n, off := 4 } (Value.int IntKind.i64 (y.granted - a.grant))).setCell { block := B y.n, off := 5 } (Value.int IntKind.i64 (y.below - 1))).drew) bm s.l.length (s.l.map fun a => (a.n, B a.n))) := World.ownsMap.drew ((HH.out.1.map.setCell (fun e => HH.out.1.ne.2.2 y HYm.out e.symm) _).setCell (fun e => HH.out.1.ne.2.2 y HYm.out e.symm) _)
          have HT : Hid (Turn (fun k => k = bm ∨ k = B y.n) w (((w.setCell { block := B y.n, off := 4 } (Value.int IntKind.i64 (y.granted - a.grant))).setCell { block := B y.n, off := 5 } (Value.int IntKind.i64 (y.below - 1))).drew)) := (((Turn.refl _ _).setCell (.inl (.inr rfl)) _).setCell (.inl (.inr rfl)) _).drew
          have HY8 : Hid ((((w.setCell { block := B y.n, off := 4 } (Value.int IntKind.i64 (y.granted - a.grant))).setCell { block := B y.n, off := 5 } (Value.int IntKind.i64 (y.below - 1))).drew).heap[B y.n]? = some (acObj ((remKid a.grant y).ac B))) := blk_set (blk_set HY.out 4 _) 5 _
          go_wp2_with (at_delete; refine wpList_delete_own _ rfl _ _ 88 3 rfl 85 KI Try.underlying88 ptrE bm s.l.length _ rfl HM.out _ _ rfl (keyI wn) ?_; intro w8 hown8 hturn8)
          go_ret
          rw [dOf_del] at hown8
          exact ⟨by trivial, HH.out.1.drop HH.out.2 HB.out HYm.out (HT.out.grown hturn8.grown (fun k hk => .inl (.inl (by injection hk with hk; exact hk.symm)))) (((Turn.refl (fun k => k = bm) _).grown hturn8.grown (fun k hk => .inl (by injection hk with hk; exact hk.symm))).heap HY8.out (HH.out.1.ne.2.2 y HYm.out)) hown8⟩
theorem new_no {w : World} {g : Int} (h : g < 0 ∨ 16384 < g) : Calls Try.prog 24 #[.int .i64 g] w fun e w' => e = .returned (.tuple #[.pointer Option.none, .int .i64 1]) ∧ w' = w := by
  by_cases h1 : g < 0
  · clear h
    go_enter Try.func24, Try.ntmps24
    go_wp2
    go_ret2
    exact ⟨by trivial, rfl⟩
  · have h2 : 16384 < g := by omega
    clear h
    go_enter Try.func24, Try.ntmps24
    go_wp2
    go_ret2
    exact ⟨by trivial, rfl⟩
theorem new_yes {w : World} {g : Int} (h1 : 0 ≤ g) (h2 : g ≤ 16384) : Calls Try.prog 24 #[.int .i64 g] w fun e w' =>
    ∃ bl bm B, e = .returned (.tuple #[.pointer (some ⟨bl, 0, Option.none⟩), .int .i64 0]) ∧ Lst w' bl bm B (Ls.new g) ∧ (∀ k, LS bl bm B (Ls.new g) k → w.heap.size ≤ k) ∧ Below w.heap.size w w' := by
  go_enter Try.func24, Try.ntmps24
  have hmk := run_makeMap (P := Try.prog) 88 w
  have HM : Hid (OwnA ((w.alloc (.map #[] 0)).alloc (.cells #[.pointer Option.none, .int .i64 g, .int .i64 0, .int .i64 0, .int .i64 0, .int .i64 0] 87)) w.heap.size 0 []) := World.ownsMap.alloc (World.ownsMap_made w _ _ _) _
  go_wp2_with (first
    | ((with_reducible show wpList _ _ _ ({ dst := Option.none, op := Op.insert _ _ _ _, type := _, pos := _, after := _, guard := Option.none } :: _) _ _); refine wp_insert _ rfl _ _ _ _ rfl 3 85 KI Try.underlying88 ptrE w.heap.size 0 _ rfl HM.out (by decide) _ _ _ rfl rfl (keyI (by decide)) _ _ (ptrE_some (w.heap.size + 1)) ?_; intro w5 hown5 hturn5))
  go_ret2
  rw [dOf_put [] 0 _ (by simp)] at hown5
  have ht : Turn (fun k => k = w.heap.size) ((w.alloc (.map #[] 0)).alloc (.cells #[.pointer Option.none, .int .i64 g, .int .i64 0, .int .i64 0, .int .i64 0, .int .i64 0] 87)) w5 := (Turn.refl _ _).grown hturn5.grown (fun k hk => .inl (by injection hk with hk; exact hk.symm))
  have hz := ht.size
  simp at hz
  have hb : Below w.heap.size w w5 := ((((Turn.refl (fun k => k = w.heap.size) w).alloc _).alloc _).then_ ht (fun k hk => .inl hk)).below (Nat.le_refl _) (fun k hk => by omega)
  refine ⟨w5.heap.size, w.heap.size, fun _ => w.heap.size + 1, rfl, ⟨heap_alloc_new _ _, World.ownsMap.alloc hown5 _, ?_, ?_⟩, ?_, hb.alloc (by omega) _⟩
  · intro a ha
    obtain rfl := List.mem_singleton.1 ha
    refine blk_alloc (ht.heap (k := w.heap.size + 1) ?_ (by omega)) _
    have := heap_alloc_new (w.alloc (.map #[] 0)) (.cells #[.pointer Option.none, .int .i64 g, .int .i64 0, .int .i64 0, .int .i64 0, .int .i64 0] 87)
    rw [show (w.alloc (.map #[] 0)).heap.size = w.heap.size + 1 from by simp] at this
    exact this
  · intro a ha b hb _
    rw [List.mem_singleton.1 ha, List.mem_singleton.1 hb]
  · rintro k (rfl | rfl | ⟨a, ha, rfl⟩)
    · omega
    · omega
    · dsimp only
      omega
end Go.Proofs.Ytagknfjgokiidaa
