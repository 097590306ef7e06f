/- pages that are held: the calls; what lives needs. -/
import Derived.Test.YtlldkdhpilcilaaPFillA
import Derived.Test.YtlldkdhpilcilaaLives
namespace Go.Proofs.Ytlldkdhpilcilaa
open Go.RowKit
set_option linter.unusedVariables false
set_option linter.unusedSimpArgs false

section
variable {w : World} {h : Value} {g : Rows}
theorem h_count (H : PgAt w h g) : Calls Try.prog 36 #[h] w fun e w' => e = .returned (.int .i64 g.length) ∧ Below w.heap.size w w' := by
  obtain ⟨ad, c, pb, cs, rfl, h1, h2, _⟩ := H.ex
  exact pcount_yes h1 (scanS_compl h1.isb h2 H.ok)
theorem h_room (H : PgAt w h g) : Calls Try.prog 37 #[h] w fun e w' => e = .returned (.int .i64 (roomN g)) ∧ Below w.heap.size w w' := by
  obtain ⟨ad, c, pb, cs, rfl, h1, h2, _⟩ := H.ex
  exact proom_yes h1 h2 H.ok
theorem h_rows (H : PgAt w h g) : Calls Try.prog 38 #[h] w fun e w' => ∃ B c' hds, e = .returned (.tuple #[.slice B g.length c', .int .i64 0]) ∧ w'.ownsRow w.heap.size 24 1 (.slice B g.length c') g.length hds ∧ OwnRs w' w.heap.size hds g ∧ Below w.heap.size w w' := by
  obtain ⟨ad, c, pb, cs, rfl, h1, h2, _⟩ := H.ex
  exact prows_yes h1 (scanS_compl h1.isb h2 H.ok)
theorem h_get (H : PgAt w h g) {i : Nat} {r : List V} (hi : g[i]? = some r) : Calls Try.prog 39 #[h, .int .i64 i] w fun e w' => ∃ B m c', e = .returned (.tuple #[.slice B m c', .int .i64 0]) ∧ RdV w' B m r ∧ Below w.heap.size w w' := by
  obtain ⟨ad, c, pb, cs, rfl, h1, h2, _⟩ := H.ex
  exact pget_yes h1 (scanS_compl h1.isb h2 H.ok) hi
theorem h_get_no (H : PgAt w h g) (i : Int) (hi : ¬ (0 ≤ i ∧ i < g.length)) : Calls Try.prog 39 #[h, .int .i64 i] w fun e w' => e = .returned (.tuple #[.slice none 0 0, .int .i64 4]) ∧ Below w.heap.size w w' := by
  obtain ⟨ad, c, pb, cs, rfl, h1, h2, _⟩ := H.ex
  exact pget_none h1 (scanS_compl h1.isb h2 H.ok) i hi
theorem h_cells (H : PgAt w h g) {j : Nat} (hj : j < 256) : ∃ ad c pb, h = .slice (some ad) 256 c ∧ PG pb g ∧ w.cell? (ad.add j) = some (.int .u8 (pb.getD j 0)) := by
  obtain ⟨ad, c, pb, cs, rfl, h1, h2, _⟩ := H.ex
  obtain ⟨ad', e, _, hc⟩ := h1.rd.at2 hj
  obtain rfl := Option.some.inj e
  exact ⟨ad, c, pb, rfl, h2, hc.trans (getD_map 0 (by rw [h2.len]; exact hj))⟩
end
theorem RdP.of_pages {w : World} {base n c : Nat} {A : Option Addr} {hds : List Value} {gs : List Rows} (ho : w.ownsRow base 23 1 (.slice A n c) n hds) (hp : PgsAt w hds gs) : ∃ ps, RdP w A n hds ps ∧ allS ps = some gs.flatten := by
  have key : ∀ (hds : List Value) (gs : List Rows), PgsAt w hds gs → ∃ ps : List (List Int), ps.length = gs.length ∧ (∀ (i : Nat) p, ps[i]? = some p → ∃ B m c, hds[i]? = some (Value.slice B m c) ∧ RdB w B m c p) ∧ allS ps = some gs.flatten := by
    intro hds
    induction hds with
    | nil =>
      intro gs H
      obtain rfl : gs = [] := List.eq_nil_of_length_eq_zero H.len.symm
      exact ⟨[], rfl, fun i p hp => by simp at hp, rfl⟩
    | cons h t ih =>
      intro gs H
      match gs, H with
      | [], H => have := H.len; simp at this
      | g :: gs, H =>
        obtain ⟨ps, e1, e2, e3⟩ := ih gs ⟨by have := H.len; simpa using this, fun i x y hx hy => H.pg (i + 1) x y (by simpa using hx) (by simpa using hy)⟩
        have H0 := H.pg 0 h g rfl rfl
        obtain ⟨ad, c, pb, cs, rfl, h1, h2, _⟩ := H0.ex
        refine ⟨pb :: ps, by simp [e1], ?_, ?_⟩
        · intro i p hp
          rcases i with _ | i
          · simp at hp
            subst hp
            exact ⟨_, _, _, rfl, h1⟩
          · simpa using e2 i p (by simpa using hp)
        · unfold allS
          rw [scanS_compl h1.isb h2 H0.ok]
          dsimp only
          rw [e3]
          simp
  obtain ⟨ps, e1, e2, e3⟩ := key hds gs hp
  have h1 := (Rd1.of_own ho).2
  exact ⟨ps, ⟨h1, by rw [e1, ← hp.len]; exact h1.1, e2⟩, e3⟩
/-- lives: the row, the page of it and of the empty row. -/
structure LvS (w W : World) (rv : Option Addr) (r : List V) (q : Value) (g : Rows) : Prop where
  bel : Below w.heap.size w W
  rr : RdV W rv 1 r
  qq : PgAt W q g
theorem LvS.step {w W W' : World} {rv : Option Addr} {r : List V} {q : Value} {g : Rows} (H : LvS w W rv r q g) (b : Below W.heap.size W W') : LvS w W' rv r q g :=
  ⟨H.bel.trans (b.mono H.bel.size), H.rr.below b, H.qq.below b⟩
theorem live_fill {w : World} {A : Option Addr} {n c : Nat} {r : List V} (h : RdV w A n r) (hm : mayE r = 0) (he : (encR r).length = 9) :
    Calls Try.prog 43 #[.slice (some ⟨w.heap.size, 0, none⟩) 2 2] (w.alloc (.cells #[.slice A n c, .slice A n c] 24))
      fun e w' => ∃ A' c' ps hds, e = .returned (.tuple #[.slice A' 1 c', .int .i64 0]) ∧ RdP w' A' 1 hds ps ∧ allS ps = some [r, r] ∧ Below w.heap.size w w' := by
  have hb := heap_alloc_new w (.cells #[Value.slice A n c, .slice A n c] 24)
  have hl : RdL (w.alloc (.cells #[.slice A n c, .slice A n c] 24)) (some ⟨w.heap.size, 0, none⟩) 2 [.slice A n c, .slice A n c] [r, r] := by
    have hA := h.below ((Below.refl _ w).alloc (Nat.le_refl _) (.cells #[.slice A n c, .slice A n c] 24))
    refine ⟨⟨rfl, by omega, fun _ => ⟨_, rfl, by simp, ?_⟩⟩, rfl, ?_⟩
    · intro j u hu
      rw [add_head]
      exact (cell_of_blk hb j).trans (by rw [List.getElem?_toArray]; exact hu)
    · intro i r' hr
      rcases i with _ | _ | i
      · obtain rfl : r = r' := by simpa using hr
        exact ⟨_, _, _, rfl, hA⟩
      · obtain rfl : r = r' := by simpa using hr
        exact ⟨_, _, _, rfl, hA⟩
      · simp at hr
  have hs := fill_walk (c := 2) hl (by omega)
  have e1 : firstM [r, r] = 0 := by simp [firstM, hm]
  have u2 : usedN [r, r] = 23 := by unfold usedN; simp [flat, he]
  have u1 : usedN [r] = 12 := by rw [usedN_one, he]
  have e2 : fillG [r, r] = [[r, r]] := by
    unfold fillG fillF
    rw [if_neg (by simp)]
    simp [stepF, u1, u2]
  refine hs.mono ?_
  rintro e w' ⟨hs, b⟩
  rw [if_pos e1, e2] at hs
  obtain ⟨A', c', hds, rfl, ho, hp⟩ := hs
  obtain ⟨ps, h1, h2⟩ := RdP.of_pages ho hp
  exact ⟨A', c', ps, hds, rfl, h1, h2.trans rfl, ((Below.refl _ w).alloc (Nat.le_refl _) _).trans (b.mono (by simp))⟩
theorem live_cells {w : World} {q : Value} {r : List V} (H : PgAt w q [r, []]) (he : (encR r).length = 9) : ∃ ad c, q = .slice (some ad) 256 c ∧ w.cell? ad = some (.int .u8 2) ∧ w.cell? ⟨ad.block, ad.off + 255, none⟩ = some (.int .u8 1) ∧ w.cell? ⟨ad.block, ad.off + 253, none⟩ = some (.int .u8 10) := by
  obtain ⟨ad, c, pb, cs, rfl, h1, h2, _⟩ := H.ex
  have key : ∀ j, j < 256 → w.cell? (ad.add j) = some (.int .u8 (pb.getD j 0)) := fun j hj => by
    obtain ⟨ad', e, _, hc⟩ := h1.rd.at2 hj
    obtain rfl := Option.some.inj e
    exact hc.trans (getD_map 0 (by rw [h2.len]; exact hj))
  have o0 : offAt [r, []] 0 = 1 := by simp [offAt, flat]
  have o1 : offAt [r, []] 1 = 10 := by simp [offAt, flat, he]
  have s0 := (h2.slot 0 (by simp)).2
  have s1 := (h2.slot 1 (by simp)).2
  rw [o0] at s0
  rw [o1] at s1
  have k0 := key 0 (by omega)
  have k1 := key 255 (by omega)
  have k2 := key 253 (by omega)
  rw [h2.p0] at k0
  rw [show pb.getD 255 0 = 1 from s0] at k1
  rw [show pb.getD 253 0 = 10 from s1] at k2
  exact ⟨ad, c, rfl, by simpa [Addr.add] using k0, by simpa [Addr.add] using k1, by simpa [Addr.add] using k2⟩
end Go.Proofs.Ytlldkdhpilcilaa
namespace Go.Proofs.Ytlldkdhpilcilaa
open Go.RowKit
set_option linter.unusedVariables false
set_option linter.unusedSimpArgs false

theorem prows_all {w : World} {A : Option Addr} {c : Nat} {hds : List Value} {ps : List (List Int)} {l : Rows} (h : RdP w A 1 hds ps) (ha : allS ps = some l) : Calls Try.prog 45 #[.slice A 1 c] w fun e w' => ∃ B c', e = .returned (.tuple #[.slice B l.length c', .int .i64 0]) ∧ Below w.heap.size w w' := by
  refine (pages_walk (c := c) h (by omega)).mono ?_
  intro e w' H
  unfold PagesP at H
  rw [ha] at H
  obtain ⟨⟨B, c', hs, rfl, _⟩, b⟩ := H
  exact ⟨B, c', rfl, b⟩
theorem pcheck_nil (w : World) : Calls Try.prog 41 #[.slice none 0 0] w fun e w' => e = .returned (.int .i64 40) ∧ Below w.heap.size w w' :=
  pcheck_no ⟨⟨rfl, by omega, fun h => absurd h (by omega)⟩, fun y hy => by simp at hy, by omega, by omega⟩ (show scanS [] = none by unfold scanS; rw [if_neg (by simp)])
set_option maxRecDepth 6000 in
set_option maxHeartbeats 1000000 in
theorem plives (w : World) : Calls Try.prog 30 #[] w fun e w' => e = .returned (.bool true) ∧ Below w.heap.size w w' := by
  obtain ⟨r, hr⟩ : ∃ r : List V, r = [⟨2, 5, ⟨#[]⟩⟩] := ⟨_, rfl⟩
  have hok : rowOk r = true := by rw [hr]; decide
  have he : (encR r).length = 9 := by rw [hr]; rfl
  have hm : mayE r = 0 := by unfold mayE; rw [if_neg (by rw [hok]; decide), if_neg (by omega)]
  have hm0 : mayE [] = 0 := by decide
  have hu1 : ¬ 256 < usedN (([] : Rows) ++ [r]) := by rw [List.nil_append, usedN_one, he]; decide
  have hu2 : ¬ 256 < usedN ([r] ++ [[]]) := by unfold usedN; simp [flat, he, show (encR ([] : List V)).length = 1 from rfl]
  have hl1 : r.length = 1 := by rw [hr]; rfl
  have hroom : roomN [r, []] = 239 := by unfold roomN; simp [flat, he, show (encR ([] : List V)).length = 1 from rfl]
  have hroom0 : roomN [] = 253 := by decide
  have HNew := Lib.hid pnew
  have HI := Lib.hid (refint w 5)
  have HC := Lib.hid (show [Value.int .i64 2, .int .i64 5, .string ⟨#[]⟩] = cellsR r by rw [hr]; rfl)
  have HS := Lib.hid (show ∀ v ∈ r, v.s.size ≤ 9223372036854775807 by rw [hr]; intro v hv; obtain rfl := List.mem_singleton.1 hv; exact Nat.zero_le _)
  have HA1 := Lib.hid (fun W h A cc (H : PgAt W h []) (hr : RdV W A 1 r) => held_yes (cc := cc) H hr hm hu1)
  have HA2 := Lib.hid (fun W h (H : PgAt W h [r]) => held_yes (cc := 0) H (RdV.nil W) hm0 hu2)
  have HG0 := Lib.hid (fun W h (H : PgAt W h [r, []]) => (show Calls Try.prog 39 #[h, .int .i64 0] W fun e w' => ∃ B m c', e = .returned (.tuple #[.slice B m c', .int .i64 0]) ∧ RdV w' B m r ∧ Below W.heap.size W w' from h_get (i := 0) (r := r) H rfl))
  have HG2 := Lib.hid (fun W h (H : PgAt W h [r, []]) => h_get_no H 2 (by simp))
  have HRw := Lib.hid (fun W h (H : PgAt W h [r, []]) => h_rows H)
  have HFl := Lib.hid (fun (W : World) A c (h : RdV W A 1 r) => live_fill (c := c) h hm he)
  have HRm := Lib.hid (fun W h (H : PgAt W h [r, []]) => (show Calls Try.prog 37 #[h] W fun e w' => e = .returned (.int .i64 239) ∧ Below W.heap.size W w' by have := h_room H; rw [hroom] at this; exact this))
  have HRm0 := Lib.hid (fun W h (H : PgAt W h []) => (show Calls Try.prog 37 #[h] W fun e w' => e = .returned (.int .i64 253) ∧ Below W.heap.size W w' by have := h_room H; rw [hroom0] at this; exact this))
  have HCt := Lib.hid (fun W h (H : PgAt W h [r, []]) => h_count H)
  have HCl := Lib.hid (fun W h (H : PgAt W h [r, []]) => live_cells H he)
  have HPg := Lib.hid (fun W A c hds ps (H : RdP W A 1 hds ps) (ha : allS ps = some [r, r]) => prows_all (c := c) H ha)
  have HSm := Lib.hid (fun W A A2 n c c2 (h1 : RdV W A n r) (h2 : RdV W A2 n r) => same_same (c := c) (c2 := c2) r h1 h2)
  have HCk := Lib.hid pcheck_nil
  have HL1 := Lib.hid hl1
  clear hok he hm hm0 hu1 hu2 hl1 hroom hroom0 hr
  go_enter Try.func30, Try.ntmps30
  go_wp2_with (go_at_call 47; refine HI.out.mono ?_; rintro e w1 ⟨rfl, b1⟩)
  have ob := World.ownsRow_lit (base := w.heap.size) (e := 76) (size := 3) w1 #[.int .i64 2, .int .i64 5, .string ⟨#[]⟩] 1 b1.size (by simp [maxLen]) (by simp)
  have r1 := (RdV.of_own_eq ob HC.out HS.out).2
  have B1 : Below w.heap.size w (w1.alloc (.cells #[.int .i64 2, .int .i64 5, .string ⟨#[]⟩] 76)) := b1.alloc b1.size _
  clear ob b1
  have R1 := Lib.hid (And.intro r1 B1)
  clear r1 B1
  go_wp2_with (first
    | (go_at_call 31; have L10' := L10.out; refine (HNew.out _).mono ?_; rintro e w11 ⟨rfl, hg, b⟩; have L11 := Lib.hid (L10.out.step b); have HP11 := Lib.hid (PgAt.new hg); have X11 := Lib.hid (X10.out.below b); clear hg b L10')
    | (go_at_call 31; have L9' := L9.out; refine (HNew.out _).mono ?_; rintro e w10 ⟨rfl, _, b⟩; have L10 := Lib.hid (L9.out.step b); have X10 := Lib.hid (X9.out.below b); clear b L9')
    | (go_at_call 31; refine (HNew.out _).mono ?_; rintro e w2 ⟨rfl, hg, b⟩; have HP2 := PgAt.new hg; simp only [World.size_alloc] at HP2; have HP2 := Lib.hid HP2; have R2 := Lib.hid (And.intro (R1.out.1.below b) (R1.out.2.trans (b.mono R1.out.2.size))); clear hg b)
    | (go_at_call 32; (with_reducible refine (HA1.out _ _ _ _ HP2.out R2.out.1).mono ?_); rintro e w3 ⟨ad3, c3, rfl, hp, b⟩; have HP3 := Lib.hid hp; have R3 := Lib.hid (And.intro (R2.out.1.below b) (R2.out.2.trans (b.mono R2.out.2.size))); clear hp b)
    | (go_at_call 32; refine (HA2.out _ _ HP3.out).mono ?_; rintro e w4 ⟨ad4, c4, rfl, hp, b⟩; have L4 := Lib.hid (LvS.mk (R3.out.2.trans (b.mono R3.out.2.size)) (R3.out.1.below b) hp); clear hp b)
    | (go_at_call 38; refine (HRw.out _ _ L4.out.qq).mono ?_; rintro e w5 ⟨B5, c5, hds5, rfl, _, _, b⟩; have L5 := Lib.hid (L4.out.step b); clear b)
    | (go_at_call 39; (with_reducible refine (HG0.out _ _ L5.out.qq).mono ?_); rintro e w6 ⟨B6, m6, c6, rfl, hx, b⟩; obtain rfl : m6 = 1 := hx.len.symm.trans HL1.out; have L6 := Lib.hid (L5.out.step b); have X6 := Lib.hid hx; clear hx b)
    | (go_at_call 39; refine (HG2.out _ _ L6.out.qq).mono ?_; rintro e w7 ⟨rfl, b⟩; have L7 := Lib.hid (L6.out.step b); have X7 := Lib.hid (X6.out.below b); clear b)
    | (go_at_call 43; refine (HFl.out _ _ _ L7.out.rr).mono ?_; rintro e w8 ⟨A8, c8, ps8, hds8, rfl, hp8, ha8, b⟩; have L8 := Lib.hid (L7.out.step b); have X8 := Lib.hid (X7.out.below b); have HP8 := Lib.hid (And.intro hp8 ha8); clear hp8 ha8 b)
    | (go_at_call 45; refine (HPg.out _ _ _ _ _ HP8.out.1 HP8.out.2).mono ?_; rintro e w9 ⟨B9, c9, rfl, b⟩; have L9 := Lib.hid (L8.out.step b); have X9 := Lib.hid (X8.out.below b); clear b)
    | (go_at_call 37; (with_reducible refine (HRm0.out _ _ HP11.out).mono ?_); rintro e w12 ⟨rfl, b⟩; have L12 := Lib.hid (L11.out.step b); have X12 := Lib.hid (X11.out.below b); obtain ⟨adq, cq, hq, k0, k1, k2⟩ := HCl.out _ _ L12.out.qq; injection hq with hq1 _ hq3; injection hq1 with hq1; subst hq1; clear hq3 b)
    | (go_at_call 42; refine (HSm.out _ _ _ _ _ _ X12.out L12.out.rr).mono ?_; rintro e w13 ⟨rfl, b⟩; have L13 := Lib.hid (L12.out.step b); clear b)
    | (go_at_call 41; refine (HCk.out _).mono ?_; rintro e w14 ⟨rfl, b⟩; have L14 := Lib.hid (L13.out.step b); clear b)
    | (go_at_call 36; refine (HCt.out _ _ L14.out.qq).mono ?_; rintro e w15 ⟨rfl, b⟩; have L15 := Lib.hid (L14.out.step b); clear b)
    | (go_at_call 37; refine (HRm.out _ _ L15.out.qq).mono ?_; rintro e w16 ⟨rfl, b⟩; have L16 := Lib.hid (L15.out.step b); clear b))
  go_ret
  exact ⟨by trivial, L16.out.bel⟩
end Go.Proofs.Ytlldkdhpilcilaa
