/- One call of both; what both tell. -/
import Derived.Test.YtncapimnlgncpaaQSt
import Derived.Deep.RegionWith
namespace Go.Proofs.Ytncapimnlgncpaa
open Go.Conc Go.RowKit

section
variable {W w : World} {B : Nat} {g c cap h : Nat} {v : Value} {xs : List Int} {cl : Bool} {g2 c2 cap2 h2 : Nat} {v2 : Value} {xs2 : List Int} {cl2 : Bool}

theorem closeq {p p2 : PD} (H : St W B p p2 w) : Calls Try.prog 22 #[.pointer (some ⟨p.g, 0, none⟩)] w fun e w' => e = .returned (.bool (!p.cl)) ∧ St W B { p with cl := true } p2 w' := by
  obtain ⟨g, c, cap, h, v, xs, ys, cl, cl2⟩ := p
  cases cl with
  | true =>
    refine (QI.close_shut H.a.q).mono ?_
    rintro e w' ⟨rfl, rfl⟩
    exact ⟨rfl, H⟩
  | false =>
    refine (QI.close_open H.a.q).mono ?_
    rintro e w' ⟨rfl, q', t⟩
    obtain ⟨h1, h2, h3, h4⟩ := H.a.apart
    exact ⟨rfl, H.step (t.mono (fun k hk => hk.elim (fun e => .inl e) (fun e => .inr (.inl e)))) ⟨q', H.a.x.turn t (fun e => e.elim h1 h2) (fun k hk e => e.elim (h3 k hk) (h4 k hk)), H.a.lx, H.a.ly, H.a.cap, H.a.gB, H.a.cB⟩ (fun k hk => .inl hk)⟩
theorem St.alloc {p p2 : PD} (H : St W B p p2 w) (o : Obj) : St W B p p2 (w.alloc o) :=
  H.step ((Turn.refl _ w).alloc o) (H.a.turn ((Turn.refl (fun _ => False) w).alloc o) (fun _ _ h => h)) (fun _ h => .inl h)
theorem St.drew {p p2 : PD} (H : St W B p p2 w) : St W B p p2 w.drew := H.drewN 1
/-- The document's queue is closed. -/
theorem St.shutx {p p2 : PD} (H : St W B p p2 w) : St W B { p with cl2 := true } p2 (w.setCell ⟨p.h, 2, none⟩ (.bool true)) := by
  have t : Turn (fun k => k = p.h) w (w.setCell ⟨p.h, 2, none⟩ (.bool true)) := (Turn.refl (fun k => k = p.h) w).setCell (p := ⟨p.h, 2, none⟩) (.inl rfl) _
  obtain ⟨h1, h2, h3, h4⟩ := H.a.apart
  refine H.step (t.mono (fun k hk => .inr (.inr (.inl hk)))) ⟨H.a.q.turn t (fun e => h1 e.symm) (fun e => h2 e.symm), ⟨H.a.x.ge, ?_, own_turn H.a.x.own t H.a.x.ne⟩, H.a.lx, H.a.ly, H.a.cap, H.a.gB, H.a.cB⟩ (fun k hk => .inl hk)
  simpa using blk_set H.a.x.blk 2 (.bool true)
/-- The document's row is left. -/
theorem St.nilx {p p2 : PD} (H : St W B p p2 w) : St W B { p with ys := [], v := .slice none 0 0 } p2 (w.setCell ⟨p.h, 0, none⟩ (.slice none 0 0)) := by
  have t : Turn (fun k => k = p.h) w (w.setCell ⟨p.h, 0, none⟩ (.slice none 0 0)) := (Turn.refl (fun k => k = p.h) w).setCell (p := ⟨p.h, 0, none⟩) (.inl rfl) _
  obtain ⟨h1, h2, h3, h4⟩ := H.a.apart
  refine H.step (t.mono (fun k hk => .inr (.inr (.inl hk)))) ⟨H.a.q.turn t (fun e => h1 e.symm) (fun e => h2 e.symm), ⟨H.a.x.ge, ?_, World.ownsRow_nil _ _ _ _⟩, H.a.lx, Nat.zero_le _, H.a.cap, H.a.gB, H.a.cB⟩ ?_
  · simpa using blk_set H.a.x.blk 0 (.slice none 0 0)
  · rintro k (hk | hk | hk | hk)
    · exact .inl (.inl hk)
    · exact .inl (.inr (.inl hk))
    · exact .inl (.inr (.inr (.inl hk)))
    · cases hk

/-- What a call of both leaves. -/
def DoPost (W : World) (B g cap h g2 cap2 h2 : Nat) (e : Ending) (w' : World) : Prop :=
  e = .returned (.bool true) ∧ ∃ c v xs cl c2 v2 xs2 cl2, St W B ⟨g, c, cap, h, v, xs, xs, cl, cl⟩ ⟨g2, c2, cap2, h2, v2, xs2, xs2, cl2, cl2⟩ w'

set_option maxRecDepth 100000 in
theorem do_other (H : St W B ⟨g, c, cap, h, v, xs, xs, cl, cl⟩ ⟨g2, c2, cap2, h2, v2, xs2, xs2, cl2, cl2⟩ w) (kind n : Int) (h1 : kind ≠ 1) (h2' : kind ≠ 2) (h3 : kind ≠ 3) (h4 : kind ≠ 4) (h5 : kind ≠ 5) :
    Calls Try.prog 15 #[.pointer (some ⟨g, 0, none⟩), .pointer (some ⟨g2, 0, none⟩), .pointer (some ⟨h, 0, none⟩), .pointer (some ⟨h2, 0, none⟩), .agg #[.int .i64 kind, .int .i64 n]] w (DoPost W B g cap h g2 cap2 h2) := by
  have b1 : (kind == 1) = false := beq_eq_false_iff_ne.2 h1
  have b2 : (kind == 2) = false := beq_eq_false_iff_ne.2 h2'
  have b3 : (kind == 3) = false := beq_eq_false_iff_ne.2 h3
  have b4 : (kind == 4) = false := beq_eq_false_iff_ne.2 h4
  have b5 : (kind == 5) = false := beq_eq_false_iff_ne.2 h5
  have H' := Lib.hid (H.alloc (.cells #[.int .i64 kind, .int .i64 n] 39))
  clear h1 h2' h3 h4 h5 H
  go_enter Try.func15, Try.ntmps15
  go_wp2
  go_ret
  exact ⟨rfl, _, _, _, _, _, _, _, _, H'.out⟩
set_option maxRecDepth 100000 in
set_option maxHeartbeats 1000000 in
theorem do_put (H : St W B ⟨g, c, cap, h, v, xs, xs, cl, cl⟩ ⟨g2, c2, cap2, h2, v2, xs2, xs2, cl2, cl2⟩ w) (n : Int) :
    Calls Try.prog 15 #[.pointer (some ⟨g, 0, none⟩), .pointer (some ⟨g2, 0, none⟩), .pointer (some ⟨h, 0, none⟩), .pointer (some ⟨h2, 0, none⟩), .agg #[.int .i64 1, .int .i64 n]] w (DoPost W B g cap h g2 cap2 h2) := by
  have H' := (H.alloc (.cells #[.int .i64 1, .int .i64 n] 39)).drew
  have hlt := H.a.lt
  have dc : (w.alloc (.cells #[.int .i64 1, .int .i64 n] 39)).drew.cell? ⟨w.heap.size, 1, none⟩ = some (.int .i64 n) := by simp
  have keep : ∀ w1, Turn (PD.foot ⟨g, c, cap, h, v, xs, xs, cl, cl⟩) (w.alloc (.cells #[.int .i64 1, .int .i64 n] 39)).drew w1 → w1.cell? ⟨w.heap.size, 1, none⟩ = some (.int .i64 n) := fun w1 t => cell_turn dc t (fun hk => Nat.lt_irrefl _ (hlt _ hk))
  have KP := Lib.hid keep
  clear hlt keep H
  go_enter Try.func15, Try.ntmps15
  go_wp2
  go_region_with (first
    | (go_at_call 9; (with_reducible refine (putq H' _).mono ?_); rintro e w1 ⟨rfl, hq, t1⟩; have d1 := KP.out w1 t1)
    | (go_at_call 30; (with_reducible refine (putx H' _).mono ?_); rintro e w1 ⟨rfl, v', hx, t1, _⟩; have d1 := KP.out w1 t1)
    | (go_at_call 9; (with_reducible refine (putq hx _).mono ?_); rintro e w2 ⟨rfl, hqx, _⟩)
    | (go_at_call 30; (with_reducible refine (putx hq _).mono ?_); rintro e w2 ⟨rfl, v', hqx, _, _⟩))
  all_goals
    go_wp2
    go_ret
    exact ⟨rfl, _, _, _, _, _, _, _, _, hqx⟩

set_option maxRecDepth 100000 in
theorem do_take (H : St W B ⟨g, c, cap, h, v, xs, xs, cl, cl⟩ ⟨g2, c2, cap2, h2, v2, xs2, xs2, cl2, cl2⟩ w) (n : Int) :
    Calls Try.prog 15 #[.pointer (some ⟨g, 0, none⟩), .pointer (some ⟨g2, 0, none⟩), .pointer (some ⟨h, 0, none⟩), .pointer (some ⟨h2, 0, none⟩), .agg #[.int .i64 2, .int .i64 n]] w (DoPost W B g cap h g2 cap2 h2) := by
  have H' := Lib.hid (H.alloc (.cells #[.int .i64 2, .int .i64 n] 39))
  clear H
  go_enter Try.func15, Try.ntmps15
  go_wp2_with fail
  refine (takeq H'.out).mono ?_
  rintro e w1 ⟨rfl, hq⟩
  go_wp2_with fail
  refine (takex hq).mono ?_
  rintro e w2 ⟨rfl, v', hqx, _, _⟩
  go_wp2
  go_ret
  exact ⟨rfl, _, _, _, _, _, _, _, _, hqx⟩

set_option maxRecDepth 100000 in
theorem do_close (H : St W B ⟨g, c, cap, h, v, xs, xs, cl, cl⟩ ⟨g2, c2, cap2, h2, v2, xs2, xs2, cl2, cl2⟩ w) (n : Int) :
    Calls Try.prog 15 #[.pointer (some ⟨g, 0, none⟩), .pointer (some ⟨g2, 0, none⟩), .pointer (some ⟨h, 0, none⟩), .pointer (some ⟨h2, 0, none⟩), .agg #[.int .i64 3, .int .i64 n]] w (DoPost W B g cap h g2 cap2 h2) := by
  have H1 := H.alloc (.cells #[.int .i64 3, .int .i64 n] 39)
  have d2 : (w.alloc (.cells #[.int .i64 3, .int .i64 n] 39)).cell? ⟨h, 2, none⟩ = some (.bool cl) := cell_of_blk H1.a.x.blk 2
  have f2 : (w.alloc (.cells #[.int .i64 3, .int .i64 n] 39)).frozen? ⟨h, 2, none⟩ = false := free_of_blk H1.a.x.blk 2
  have H' := Lib.hid H1.shutx
  clear H H1
  go_enter Try.func15, Try.ntmps15
  go_wp2_with fail
  refine (closeq H'.out).mono ?_
  rintro e w1 ⟨rfl, hq⟩
  go_wp2
  go_ret
  exact ⟨rfl, _, _, _, _, _, _, _, _, hq⟩

set_option maxRecDepth 100000 in
theorem do_all (H : St W B ⟨g, c, cap, h, v, xs, xs, cl, cl⟩ ⟨g2, c2, cap2, h2, v2, xs2, xs2, cl2, cl2⟩ w) (n : Int) :
    Calls Try.prog 15 #[.pointer (some ⟨g, 0, none⟩), .pointer (some ⟨g2, 0, none⟩), .pointer (some ⟨h, 0, none⟩), .pointer (some ⟨h2, 0, none⟩), .agg #[.int .i64 4, .int .i64 n]] w (DoPost W B g cap h g2 cap2 h2) := by
  obtain ⟨A, k, rfl⟩ : ∃ A k, v = .slice A xs.length k := own_slice H.a.x.own
  have H1 := H.alloc (.cells #[.int .i64 4, .int .i64 n] 39)
  have d0 : (w.alloc (.cells #[.int .i64 4, .int .i64 n] 39)).cell? ⟨h, 0, none⟩ = some (.slice A xs.length k) := cell_of_blk H1.a.x.blk 0
  have f0 : (w.alloc (.cells #[.int .i64 4, .int .i64 n] 39)).frozen? ⟨h, 0, none⟩ = false := free_of_blk H1.a.x.blk 0
  have ht : Turn (fun k => k = h) (w.alloc (.cells #[.int .i64 4, .int .i64 n] 39)) ((w.alloc (.cells #[.int .i64 4, .int .i64 n] 39)).setCell ⟨h, 0, none⟩ (.slice none 0 0)) := (Turn.refl (fun k => k = h) _).setCell (p := ⟨h, 0, none⟩) (.inl rfl) _
  have ho := own_turn H1.a.x.own ht H1.a.x.ne
  have hne := H1.a.apart
  have H2 := H1.nilx
  have hxl : xs.length ≤ 1024 := Nat.le_trans H.a.lx H.a.cap
  have HA := Lib.hid (QI.all_at xs hxl H2.a.q)
  have R0 := Lib.hid (And.intro ho (And.intro hne.2.2.2 H2))
  clear H H1 H2 ht ho hne
  go_enter Try.func15, Try.ntmps15
  go_wp2_with fail
  refine HA.out.mono ?_
  rintro e w1 ⟨va, rfl, hoa, q1, t1⟩
  obtain ⟨Aa, ka, rfl⟩ := own_slice hoa
  have RA := (Rd1.of_own hoa).2
  have RX := (Rd1.of_own (own_turn R0.out.1 t1 R0.out.2.1)).2
  have H3 := Lib.hid (R0.out.2.2)
  go_wp2_with fail
  refine (same_true xs xs RA RX rfl).mono ?_
  rintro e w2 ⟨rfl, m, rfl⟩
  go_wp2
  go_ret
  have HH := H3.out
  obtain ⟨h1, h2', h3, h4⟩ := HH.a.apart
  have HS := HH.step (p' := ⟨g, c, cap, h, .slice none 0 0, [], [], cl, cl⟩) (t1.mono (fun k hk => .inr (.inl hk))) ⟨q1, HH.a.x.turn t1 (fun e => h2' e) (fun k hk e => h4 k hk e), Nat.zero_le _, HH.a.ly, HH.a.cap, HH.a.gB, HH.a.cB⟩ (fun k hk => .inl hk)
  exact ⟨rfl, _, _, _, _, _, _, _, _, HS.drewN m⟩

set_option maxRecDepth 100000 in
set_option maxHeartbeats 1000000 in
theorem do_move (H : St W B ⟨g, c, cap, h, v, xs, xs, cl, cl⟩ ⟨g2, c2, cap2, h2, v2, xs2, xs2, cl2, cl2⟩ w) (n : Int) :
    Calls Try.prog 15 #[.pointer (some ⟨g, 0, none⟩), .pointer (some ⟨g2, 0, none⟩), .pointer (some ⟨h, 0, none⟩), .pointer (some ⟨h2, 0, none⟩), .agg #[.int .i64 5, .int .i64 n]] w (DoPost W B g cap h g2 cap2 h2) := by
  have H' := (H.alloc (.cells #[.int .i64 5, .int .i64 n] 39)).drew
  have hlt := H.a.lt
  have hlt2 := H.b.lt
  have dc : (w.alloc (.cells #[.int .i64 5, .int .i64 n] 39)).drew.cell? ⟨w.heap.size, 1, none⟩ = some (.int .i64 n) := by simp
  have keep : ∀ w1, Turn (fun k => PD.foot ⟨g, c, cap, h, v, xs, xs, cl, cl⟩ k ∨ PD.foot ⟨g2, c2, cap2, h2, v2, xs2, xs2, cl2, cl2⟩ k) (w.alloc (.cells #[.int .i64 5, .int .i64 n] 39)).drew w1 → w1.cell? ⟨w.heap.size, 1, none⟩ = some (.int .i64 n) := fun w1 t => cell_turn dc t (fun hk => hk.elim (fun hk => Nat.lt_irrefl _ (hlt _ hk)) (fun hk => Nat.lt_irrefl _ (hlt2 _ hk)))
  have KP := Lib.hid keep
  clear hlt hlt2 keep H
  go_enter Try.func15, Try.ntmps15
  go_wp2
  go_region_with (first
    | (go_at_call 24; (with_reducible refine (movq H' _).mono ?_); rintro e w1 ⟨rfl, hq, t1⟩; have d1 := KP.out w1 t1)
    | (go_at_call 32; (with_reducible refine (movx H' _).mono ?_); rintro e w1 ⟨rfl, v', v2', hx, t1⟩; have d1 := KP.out w1 t1)
    | (go_at_call 24; (with_reducible refine (movq hx _).mono ?_); rintro e w2 ⟨rfl, hqx, _⟩)
    | (go_at_call 32; (with_reducible refine (movx hq _).mono ?_); rintro e w2 ⟨rfl, v', v2', hqx, _⟩))
  all_goals
    go_wp2
    go_ret
    exact ⟨rfl, _, _, _, _, _, _, _, _, hqx⟩

theorem do_walk (H : St W B ⟨g, c, cap, h, v, xs, xs, cl, cl⟩ ⟨g2, c2, cap2, h2, v2, xs2, xs2, cl2, cl2⟩ w) (kind n : Int) :
    Calls Try.prog 15 #[.pointer (some ⟨g, 0, none⟩), .pointer (some ⟨g2, 0, none⟩), .pointer (some ⟨h, 0, none⟩), .pointer (some ⟨h2, 0, none⟩), .agg #[.int .i64 kind, .int .i64 n]] w (DoPost W B g cap h g2 cap2 h2) := by
  by_cases h1 : kind = 1
  · subst h1; exact do_put H n
  by_cases h2' : kind = 2
  · subst h2'; exact do_take H n
  by_cases h3 : kind = 3
  · subst h3; exact do_close H n
  by_cases h4 : kind = 4
  · subst h4; exact do_all H n
  by_cases h5 : kind = 5
  · subst h5; exact do_move H n
  exact do_other H kind n h1 h2' h3 h4 h5
end
end Go.Proofs.Ytncapimnlgncpaa
