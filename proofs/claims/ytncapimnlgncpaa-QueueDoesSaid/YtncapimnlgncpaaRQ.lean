/- The document's queue, one contract each. -/
import Derived.Test.YtncapimnlgncpaaQOrders
namespace Go.Proofs.Ytncapimnlgncpaa
open Go.Conc Go.RowKit
namespace RQ

/-- The document's queue at block h, its row v. -/
structure At (B : Nat) (w : World) (h : Nat) (v : Value) (ys : List Int) (most : Nat) (cl : Bool) : Prop where
  ge : B ≤ h
  blk : w.heap[h]? = some (.cells #[v, .int .i64 most, .bool cl] 58 (0, 0))
  own : w.ownsRow B 3 1 v ys.length (ints ys)
theorem At.ne {B : Nat} {w : World} {h : Nat} {v : Value} {ys : List Int} {most : Nat} {cl : Bool} (H : At B w h v ys most cl) : ∀ k, v.ownBlock = some k → ¬ k = h := own_ne_typed H.own H.blk (by decide)
theorem At.turn {S : Nat → Prop} {B : Nat} {w w' : World} {h : Nat} {v : Value} {ys : List Int} {most : Nat} {cl : Bool} (H : At B w h v ys most cl) (t : Turn S w w') (h1 : ¬ S h) (h2 : ∀ k, v.ownBlock = some k → ¬ S k) : At B w' h v ys most cl :=
  ⟨H.ge, t.heap H.blk h1, own_turn H.own t h2⟩

theorem room_shut {B : Nat} {w : World} {h : Nat} {v : Value} {ys : List Int} {most : Nat} (H : At B w h v ys most true) :
    Calls Try.prog 33 #[.pointer (some ⟨h, 0, none⟩)] w fun e w' => e = .returned (.int .i64 0) ∧ ∃ n, w' = w.drewN n := by
  have c2 : w.cell? ⟨h, 2, none⟩ = some (.bool true) := cell_of_blk H.blk 2
  clear H
  go_enter Try.func33, Try.ntmps33
  go_wp2
  go_ret
  exact ⟨rfl, 0, rfl⟩
theorem room_open {B : Nat} {w : World} {h : Nat} {v : Value} {ys : List Int} {most : Nat} (H : At B w h v ys most false) (hm : most ≤ 1024) (hl : ys.length ≤ most) :
    Calls Try.prog 33 #[.pointer (some ⟨h, 0, none⟩)] w fun e w' => e = .returned (.int .i64 (most - ys.length)) ∧ ∃ n, w' = w.drewN n := by
  obtain ⟨A, c, rfl⟩ := own_slice H.own
  have c0 : w.cell? ⟨h, 0, none⟩ = some (.slice A ys.length c) := cell_of_blk H.blk 0
  have c1 : w.cell? ⟨h, 1, none⟩ = some (.int .i64 most) := cell_of_blk H.blk 1
  have c2 : w.cell? ⟨h, 2, none⟩ = some (.bool false) := cell_of_blk H.blk 2
  clear H
  go_enter Try.func33, Try.ntmps33
  go_wp2
  go_quiet (fail)
  go_wp2
  go_ret
  exact ⟨rfl, _, rfl⟩

theorem new_bad (n : Int) (w : World) (h : n < 1 ∨ 1024 < n) : Calls Try.prog 14 #[.int .i64 n] w fun e w' => e = .returned (.pointer none) ∧ w = w' := by
  rcases h with h | h
  · go_enter Try.func14, Try.ntmps14
    go_wp2
    go_ret
    exact ⟨rfl, rfl⟩
  · have h' : ¬ n < 1 := by omega
    go_enter Try.func14, Try.ntmps14
    go_wp2
    go_ret
    exact ⟨rfl, rfl⟩
theorem new_ok (n : Nat) (w : World) (B : Nat) (hB : B ≤ w.heap.size) (h1 : 1 ≤ n) (h2 : n ≤ 1024) : Calls Try.prog 14 #[.int .i64 n] w fun e w' => ∃ h, e = .returned (.pointer (some ⟨h, 0, none⟩)) ∧ w.heap.size ≤ h ∧ At B w' h (.slice none 0 0) [] n false ∧ Below w.heap.size w w' := by
  have hat : At B (w.alloc (.cells #[.slice none 0 0, .int .i64 n, .bool false] 58)) w.heap.size (.slice none 0 0) [] n false := ⟨hB, heap_alloc_new _ _, World.ownsRow_nil _ _ _ _⟩
  have hb : Below w.heap.size w (w.alloc (.cells #[.slice none 0 0, .int .i64 n, .bool false] 58)) := (Below.refl _ _).alloc (Nat.le_refl _) _
  have H := Lib.hid (And.intro hat hb)
  clear hat hb
  go_enter Try.func14, Try.ntmps14
  go_wp2
  go_ret
  exact ⟨_, rfl, Nat.le_refl _, H.out⟩

theorem put_shut {B : Nat} {w : World} {h : Nat} {v : Value} {ys : List Int} {most : Nat} (H : At B w h v ys most true) (x : Int) :
    Calls Try.prog 30 #[.pointer (some ⟨h, 0, none⟩), .int .i64 x] w fun e w' => e = .returned (.bool false) ∧ ∃ n, w' = w.drewN n := by
  have c2 : w.cell? ⟨h, 2, none⟩ = some (.bool true) := cell_of_blk H.blk 2
  clear H
  go_enter Try.func30, Try.ntmps30
  go_wp2
  go_quiet (fail)
  go_wp2
  go_ret
  exact ⟨rfl, _, rfl⟩
theorem put_full {B : Nat} {w : World} {h : Nat} {v : Value} {ys : List Int} {most : Nat} (H : At B w h v ys most false) (hl : most ≤ ys.length) (x : Int) :
    Calls Try.prog 30 #[.pointer (some ⟨h, 0, none⟩), .int .i64 x] w fun e w' => e = .returned (.bool false) ∧ ∃ n, w' = w.drewN n := by
  obtain ⟨A, c, rfl⟩ := own_slice H.own
  have c0 : w.cell? ⟨h, 0, none⟩ = some (.slice A ys.length c) := cell_of_blk H.blk 0
  have c1 : w.cell? ⟨h, 1, none⟩ = some (.int .i64 most) := cell_of_blk H.blk 1
  have c2 : w.cell? ⟨h, 2, none⟩ = some (.bool false) := cell_of_blk H.blk 2
  clear H
  go_enter Try.func30, Try.ntmps30
  go_wp2
  go_quiet (fail)
  go_wp2
  go_ret
  exact ⟨rfl, _, rfl⟩
theorem put_room {B : Nat} {w : World} {h : Nat} {v : Value} {ys : List Int} {most : Nat} (H : At B w h v ys most false) (hl : ys.length < most) (hm : most ≤ 1024) (hB : B ≤ w.heap.size) (x : Int) :
    Calls Try.prog 30 #[.pointer (some ⟨h, 0, none⟩), .int .i64 x] w fun e w' => e = .returned (.bool true) ∧ ∃ v', At B w' h v' (ys ++ [x]) most false ∧ Turn (fun k => k = h ∨ v.ownBlock = some k) w w' ∧
      (v'.ownBlock = v.ownBlock ∨ ∃ b, v'.ownBlock = some b ∧ w.heap.size ≤ b) := by
  obtain ⟨A, c, rfl⟩ := own_slice H.own
  have c0 : w.cell? ⟨h, 0, none⟩ = some (.slice A ys.length c) := cell_of_blk H.blk 0
  have c1 : w.cell? ⟨h, 1, none⟩ = some (.int .i64 most) := cell_of_blk H.blk 1
  have c2 : w.cell? ⟨h, 2, none⟩ = some (.bool false) := cell_of_blk H.blk 2
  have HO := H.own
  go_enter Try.func30, Try.ntmps30
  go_wp2
  go_quiet (fail)
  go_wp2_with (at_builtin; refine wp_append1 (W := w.drewN nq) B rfl (.tmp 25) (.tmp 27) 22 3 (.int .i64 0) 1 8 rfl Try.underlying22 QI.info_e rfl (by omega) (by omega) _ ys.length _ [.int .i64 x] rfl rfl rfl (by simp [Value.oneCell']) HO hB (by omega) ?_; intro v1 w1 h1 t1 hor; obtain ⟨A1, k1, rfl⟩ := own_slice h1; have hb1 := t1.heap (k := h) H.blk (fun e => H.ne _ e rfl); have d0 := cell_of_blk hb1 0; have f0 := free_of_blk hb1 0)
  go_ret
  refine ⟨rfl, _, ⟨H.ge, blk_set hb1 0 _, ?_⟩, ?_, hor⟩
  · rw [ints, List.map_append, List.length_append]
    exact own_turn h1 ((Turn.refl (fun k => k = h) w1).setCell (p := ⟨h, 0, none⟩) (.inl rfl) _) (own_ne_typed h1 hb1 (by decide))
  · exact (((Turn.refl _ w).drewN nq).then_ t1 (fun k hk => .inl (.inr hk))).setCell (p := ⟨h, 0, none⟩) (.inl (.inl rfl)) _

theorem ints_one (xs : List Int) : ∀ u ∈ ints xs, u.oneCell' = true := by
  intro u hu
  simp only [ints, List.mem_map] at hu
  obtain ⟨z, _, rfl⟩ := hu
  rfl
theorem take_empty {B : Nat} {w : World} {h : Nat} {v : Value} {most : Nat} {cl : Bool} (H : At B w h v [] most cl) :
    Calls Try.prog 31 #[.pointer (some ⟨h, 0, none⟩)] w fun e w' => e = .returned (.tuple #[.int .i64 0, .bool false]) ∧ ∃ n, w' = w.drewN n := by
  obtain ⟨A, c, rfl⟩ := own_slice H.own
  have c0 : w.cell? ⟨h, 0, none⟩ = some (.slice A 0 c) := cell_of_blk H.blk 0
  clear H
  go_enter Try.func31, Try.ntmps31
  go_wp2
  go_ret2
  exact ⟨rfl, 0, rfl⟩
theorem src_cells {w : World} {B gr cp : Nat} {y : Int} {ys : List Int} (HO : w.ownsRow B 3 1 (.slice (some ⟨gr, 0, none⟩) (ys.length + 1) cp) (y :: ys).length (ints (y :: ys))) (hgl : gr < w.heap.size) (A : Option Addr) (hA : A = some ⟨gr, 1, none⟩) :
    ∃ ad, A = some ad ∧ ∀ j u, (ints ys)[j]? = some u → (w.alloc (.cells #[] 3)).cell? (ad.add j) = some u := by
  refine ⟨⟨gr, 1, none⟩, hA, fun j u hu => ?_⟩
  have hc := HO.cells (g := gr) rfl (j + 1) u (by simpa using hu)
  have ha : (⟨gr, 0, none⟩ : Addr).add (j + 1) = (⟨gr, 1, none⟩ : Addr).add j := by
    simp only [Addr.add]
    rw [if_neg (by omega)]
    by_cases hj : j = 0
    · subst hj; simp
    · rw [if_neg hj]; simp
  rw [ha] at hc
  exact (World.cell?_alloc_lt _ _ _ (by rw [add_block]; exact hgl)).trans hc
theorem take_more {B : Nat} {w : World} {hb : Nat} {gr cp : Nat} {y : Int} {ys : List Int} {most : Nat} {cl : Bool} (H : At B w hb (.slice (some ⟨gr, 0, none⟩) (ys.length + 1) cp) (y :: ys) most cl) (hB : B ≤ w.heap.size) (hpos : 0 < ys.length) (hcp : ys.length + 1 ≤ cp) (hl : ys.length ≤ 5000) :
    Calls Try.prog 31 #[.pointer (some ⟨hb, 0, none⟩)] w fun e w' => e = .returned (.tuple #[.int .i64 y, .bool true]) ∧ ∃ v', At B w' hb v' ys most cl ∧ Turn (fun k => k = hb) w w' ∧ (∀ k, v'.ownBlock = some k → w.heap.size ≤ k) := by
  have HO := H.own
  have hgl : gr < w.heap.size := (HO.lt gr rfl).2
  have hgb : B ≤ gr := (HO.lt gr rfl).1
  have c0 : w.cell? ⟨hb, 0, none⟩ = some (.slice (some ⟨gr, 0, none⟩) (ys.length + 1) cp) := cell_of_blk H.blk 0
  have f0 : w.frozen? ⟨hb, 0, none⟩ = false := free_of_blk H.blk 0
  have hy : w.cell? ⟨gr, 0, none⟩ = some (.int .i64 y) := HO.cells (g := gr) rfl 0 _ rfl
  have c0' : (w.alloc (.cells #[] 3)).cell? ⟨hb, 0, none⟩ = some (.slice (some ⟨gr, 0, none⟩) (ys.length + 1) cp) := cell_of_blk (blk_alloc H.blk _) 0
  have hhl := lt_of_heap H.blk
  have hlt : (0 : Int) < ys.length + 1 := by omega
  have hne : ((ys.length : Int) + 1 == 0) = false := beq_eq_false_iff_ne.2 (by omega)
  have s1 : (1 : Int) ≤ ys.length + 1 := by omega
  have s2 : (ys.length : Int) + 1 ≤ cp := by omega
  have hcp1 : ¬ cp = 1 := by omega
  go_enter Try.func31, Try.ntmps31
  go_wp2_with (at_builtin; refine wp_appendL w.heap.size rfl (.tmp 18) (.tmp 23) 22 3 (.int .i64 0) 1 8 rfl Try.underlying22 QI.info_e rfl (by omega) (by omega) _ 0 [] rfl _ ys.length _ (ints ys) rfl (by simp) (fun _ => src_cells HO hgl _ (by simp)) (ints_one ys) (World.ownsRow_made w #[] 0 (Nat.le_refl _) (by omega) rfl) (by simp) (by omega) ?_; intro v1 w1 h1 t1 hor; obtain ⟨A1, k1, rfl⟩ := own_slice h1; have hb1 := t1.heap (k := hb) (blk_alloc H.blk _) (fun e => by have e' : w.heap.size = hb := Option.some.inj e; omega); have d0 := cell_of_blk hb1 0; have f1 := free_of_blk hb1 0)
  go_ret2
  have h2 := own_turn h1 ((Turn.refl (fun k => k = hb) w1).setCell (p := ⟨hb, 0, none⟩) (.inl rfl) (.slice A1 (0 + ys.length) k1)) (own_ne_typed h1 hb1 (by decide))
  simp only [Nat.zero_add, List.nil_append] at h2 ⊢
  refine ⟨rfl, _, ⟨H.ge, blk_set hb1 0 _, own_lower h2 hB⟩, ?_, fun k hk => own_ge h2 hk⟩
  exact (((Turn.refl (fun k => k = hb) w).alloc _).then_ t1 (fun k hk => .inr (by have e' : w.heap.size = k := Option.some.inj hk; omega))).setCell (p := ⟨hb, 0, none⟩) (.inl rfl) _
theorem take_last1 {B : Nat} {w : World} {hb : Nat} {gr : Nat} {y : Int} {most : Nat} {cl : Bool} (H : At B w hb (.slice (some ⟨gr, 0, none⟩) 1 1) (y :: []) most cl) (hB : B ≤ w.heap.size) :
    Calls Try.prog 31 #[.pointer (some ⟨hb, 0, none⟩)] w fun e w' => e = .returned (.tuple #[.int .i64 y, .bool true]) ∧ ∃ v', At B w' hb v' [] most cl ∧ Turn (fun k => k = hb) w w' ∧ (∀ k, v'.ownBlock = some k → w.heap.size ≤ k) := by
  have HO := H.own
  have hgl : gr < w.heap.size := (HO.lt gr rfl).2
  have hgb : B ≤ gr := (HO.lt gr rfl).1
  have c0 : w.cell? ⟨hb, 0, none⟩ = some (.slice (some ⟨gr, 0, none⟩) 1 1) := cell_of_blk H.blk 0
  have f0 : w.frozen? ⟨hb, 0, none⟩ = false := free_of_blk H.blk 0
  have hy : w.cell? ⟨gr, 0, none⟩ = some (.int .i64 y) := HO.cells (g := gr) rfl 0 _ rfl
  have c0' : (w.alloc (.cells #[] 3)).cell? ⟨hb, 0, none⟩ = some (.slice (some ⟨gr, 0, none⟩) 1 1) := cell_of_blk (blk_alloc H.blk _) 0
  have hhl := lt_of_heap H.blk
  go_enter Try.func31, Try.ntmps31
  go_wp2_with (at_builtin; refine wp_appendL w.heap.size rfl (.tmp 18) (.tmp 23) 22 3 (.int .i64 0) 1 8 rfl Try.underlying22 QI.info_e rfl (by omega) (by omega) _ 0 [] rfl _ 0 _ (ints []) rfl (by simp) (fun h => absurd h (by omega)) (ints_one []) (World.ownsRow_made w #[] 0 (Nat.le_refl _) (by omega) rfl) (by simp) (by omega) ?_; intro v1 w1 h1 t1 hor; obtain ⟨A1, k1, rfl⟩ := own_slice h1; have hb1 := t1.heap (k := hb) (blk_alloc H.blk _) (fun e => by have e' : w.heap.size = hb := Option.some.inj e; omega); have d0 := cell_of_blk hb1 0; have f1 := free_of_blk hb1 0)
  go_ret2
  have h2 := own_turn h1 ((Turn.refl (fun k => k = hb) w1).setCell (p := ⟨hb, 0, none⟩) (.inl rfl) (.slice A1 (0 + 0) k1)) (own_ne_typed h1 hb1 (by decide))
  simp only [Nat.zero_add, List.nil_append] at h2 ⊢
  refine ⟨rfl, _, ⟨H.ge, blk_set hb1 0 _, own_lower h2 hB⟩, ?_, fun k hk => own_ge h2 hk⟩
  exact (((Turn.refl (fun k => k = hb) w).alloc _).then_ t1 (fun k hk => .inr (by have e' : w.heap.size = k := Option.some.inj hk; omega))).setCell (p := ⟨hb, 0, none⟩) (.inl rfl) _
theorem take_last {B : Nat} {w : World} {hb : Nat} {gr cp : Nat} {y : Int} {most : Nat} {cl : Bool} (H : At B w hb (.slice (some ⟨gr, 0, none⟩) 1 cp) (y :: []) most cl) (hB : B ≤ w.heap.size) (hcp : 1 ≤ cp) (hcp1 : ¬ cp = 1) :
    Calls Try.prog 31 #[.pointer (some ⟨hb, 0, none⟩)] w fun e w' => e = .returned (.tuple #[.int .i64 y, .bool true]) ∧ ∃ v', At B w' hb v' [] most cl ∧ Turn (fun k => k = hb) w w' ∧ (∀ k, v'.ownBlock = some k → w.heap.size ≤ k) := by
  have HO := H.own
  have hgl : gr < w.heap.size := (HO.lt gr rfl).2
  have hgb : B ≤ gr := (HO.lt gr rfl).1
  have c0 : w.cell? ⟨hb, 0, none⟩ = some (.slice (some ⟨gr, 0, none⟩) 1 cp) := cell_of_blk H.blk 0
  have f0 : w.frozen? ⟨hb, 0, none⟩ = false := free_of_blk H.blk 0
  have hy : w.cell? ⟨gr, 0, none⟩ = some (.int .i64 y) := HO.cells (g := gr) rfl 0 _ rfl
  have c0' : (w.alloc (.cells #[] 3)).cell? ⟨hb, 0, none⟩ = some (.slice (some ⟨gr, 0, none⟩) 1 cp) := cell_of_blk (blk_alloc H.blk _) 0
  have hhl := lt_of_heap H.blk
  have s2 : (1 : Int) ≤ cp := by omega
  go_enter Try.func31, Try.ntmps31
  go_wp2_with (at_builtin; refine wp_appendL w.heap.size rfl (.tmp 18) (.tmp 23) 22 3 (.int .i64 0) 1 8 rfl Try.underlying22 QI.info_e rfl (by omega) (by omega) _ 0 [] rfl _ 0 _ (ints []) rfl (by simp) (fun h => absurd h (by omega)) (ints_one []) (World.ownsRow_made w #[] 0 (Nat.le_refl _) (by omega) rfl) (by simp) (by omega) ?_; intro v1 w1 h1 t1 hor; obtain ⟨A1, k1, rfl⟩ := own_slice h1; have hb1 := t1.heap (k := hb) (blk_alloc H.blk _) (fun e => by have e' : w.heap.size = hb := Option.some.inj e; omega); have d0 := cell_of_blk hb1 0; have f1 := free_of_blk hb1 0)
  go_ret2
  have h2 := own_turn h1 ((Turn.refl (fun k => k = hb) w1).setCell (p := ⟨hb, 0, none⟩) (.inl rfl) (.slice A1 (0 + 0) k1)) (own_ne_typed h1 hb1 (by decide))
  simp only [Nat.zero_add, List.nil_append] at h2 ⊢
  refine ⟨rfl, _, ⟨H.ge, blk_set hb1 0 _, own_lower h2 hB⟩, ?_, fun k hk => own_ge h2 hk⟩
  exact (((Turn.refl (fun k => k = hb) w).alloc _).then_ t1 (fun k hk => .inr (by have e' : w.heap.size = k := Option.some.inj hk; omega))).setCell (p := ⟨hb, 0, none⟩) (.inl rfl) _
theorem take_some {B : Nat} {w : World} {hb : Nat} {v : Value} {y : Int} {ys : List Int} {most : Nat} {cl : Bool} (H : At B w hb v (y :: ys) most cl) (hl : ys.length ≤ 5000) (hB : B ≤ w.heap.size) :
    Calls Try.prog 31 #[.pointer (some ⟨hb, 0, none⟩)] w fun e w' => e = .returned (.tuple #[.int .i64 y, .bool true]) ∧ ∃ v', At B w' hb v' ys most cl ∧ Turn (fun k => k = hb) w w' ∧ (∀ k, v'.ownBlock = some k → w.heap.size ≤ k) := by
  have HO := H.own
  obtain ⟨gr, cp, rfl, hgb, hgl⟩ := HO.form (by simp)
  have hcp : ys.length + 1 ≤ cp := by
    rcases HO.2 with ⟨e, _⟩ | ⟨g', cap, cur, e, _, _, hnc, _⟩
    · cases e
    · injection e with _ _ e3; subst e3; simpa using hnc
  cases ys with
  | cons z zs => exact take_more H hB (by simp) hcp hl
  | nil =>
    by_cases h1 : cp = 1
    · subst h1; exact take_last1 H hB
    · exact take_last H hB (by simpa using hcp) h1
end RQ
end Go.Proofs.Ytncapimnlgncpaa
