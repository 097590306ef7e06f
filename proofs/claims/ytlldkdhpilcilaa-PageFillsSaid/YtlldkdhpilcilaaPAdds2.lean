/- PageAdds: the walk. -/
import Derived.Test.YtlldkdhpilcilaaPAdds
import Derived.Deep.RegionLaw
import Derived.BigRegion
namespace Go.Proofs.Ytlldkdhpilcilaa
open Go.RowKit
set_option linter.unusedVariables false
set_option linter.unusedSimpArgs false

theorem roomN_used {g : Rows} : (254 < usedN g ∧ roomN g = 0) ∨ (usedN g ≤ 254 ∧ roomN g + usedN g = 254) := by
  unfold roomN usedN
  omega
theorem used_rdl {w : World} {A : Option Addr} {n c : Nat} {hds : List Value} {rows : Rows} (hl : RdL w A n hds rows) (hok : ∀ r ∈ rows, rowOk r = true) (hn : n ≤ 10000) {U : Nat} (hU : U = usedN rows) :
    Calls Try.prog 34 #[.slice A n c] w fun e w' => e = .returned (.int .i64 U) ∧ Below w.heap.size w w' := by
  subst hU
  exact used_walk hl hok hn
theorem make_fit {w : World} {A : Option Addr} {n c : Nat} {hds : List Value} {rows : Rows} (hl : RdL w A n hds rows) (hok : ∀ r ∈ rows, rowOk r = true) (hn : n ≤ 255) (hu : usedN rows ≤ 256) :
    Calls Try.prog 35 #[.slice A n c] w fun e w' => ∃ B c', e = .returned (.tuple #[.slice B 256 c', .bool true]) ∧ Rd1 w' B 256 (u8s (mkP rows)) ∧ Below w.heap.size w w' := by
  refine (make_walk (c := c) hl hok hn).mono ?_
  rintro e w' ⟨h, b⟩
  rw [if_neg (by omega)] at h
  obtain ⟨B, c', h1, h2⟩ := h
  exact ⟨B, c', h1, (Rd1.of_own h2).2, b⟩
/-- The page's bytes, as Make tells them. -/
theorem PgAt.bytes {w : World} {h : Value} {g : Rows} (H : PgAt w h g) : ∃ ad c, h = .slice (some ad) 256 c ∧ RdB w (some ad) 256 c (mkP g) ∧ usedN g ≤ 256 := by
  obtain ⟨ad, c, pb, cs, rfl, h1, h2, _⟩ := H.ex
  have : pb = mkP g := h2.unique (mkP_PG g h2.fit)
  rw [this] at h1
  exact ⟨ad, c, rfl, h1, h2.fit⟩
theorem PgAt.of_own {w : World} {base : Nat} {ad : Addr} {c : Nat} {g : Rows} (ho : w.ownsRow base 5 1 (.slice (some ad) 256 c) 256 (u8s (mkP g))) (hok : ∀ r ∈ g, rowOk r = true) (hu : usedN g ≤ 256) : PgAt w (.slice (some ad) 256 c) g := by
  obtain ⟨g0, L, cap, e, _, hg, hcap, hcm, _, _⟩ := own_block ho (by omega)
  injection e with e1 _ e3
  injection e1 with e1
  subst e1 e3
  exact ⟨⟨_, _, _, _, rfl, ⟨(Rd1.of_own ho).2, isB_mkP g hok hu, hcap, by simp only [maxLen] at hcm; omega⟩, mkP_PG g hu, hg⟩, hok⟩
theorem usedN_le (g : Rows) (h : ∀ r ∈ g, rowOk r = true) : usedN g ≤ 1 + 2115 * g.length := by
  have := flat_le g h
  unfold usedN
  omega
theorem PgAt.rdp {w : World} {ad : Addr} {c : Nat} {g : Rows} (H : PgAt w (.slice (some ad) 256 c) g) : Rd1 w (some ad) 256 (u8s (mkP g)) := by
  obtain ⟨ad', c', e, h, _⟩ := H.bytes
  injection e with e1 _ e3
  injection e1 with e1
  subst e1 e3
  exact h.rd
theorem one_src {w : World} {g : Nat} {y : Value} (h : w.cell? ⟨g, 0, none⟩ = some y) : ∀ (j : Nat) u, [y][j]? = some u → w.cell? ((⟨g, 0, none⟩ : Addr).add j) = some u := by
  intro j u hu
  rcases j with _ | j
  · rw [add_head, h]
    simpa using hu
  · simp at hu
theorem hid_below_alloc {w : World} (o : Obj) : Below w.heap.size w (w.alloc o) := (Below.refl _ _).alloc (Nat.le_refl _) _
set_option maxRecDepth 6000 in
set_option maxHeartbeats 8000000 in
theorem PageAdds.walk {w : World} (A : Option Addr) (n c : Nat) (x : List Value × List (List V)) (hl : RdL w A n x.1 x.2) :
    Calls Try.prog 8 #[.slice A n c] w fun e w' => e = .returned (.bool true) ∧ Below w.heap.size w w' := by
  obtain ⟨hds, rows⟩ := x
  dsimp only at hl
  have hn9 := hl.hd.2.1
  have HLv := Lib.hid plives
  have HNew := Lib.hid pnew
  have HLg := Lib.hid (plarge (c := c) hl)
  have HL := Lib.hid hl
  clear hl
  go_enter Try.func8, Try.ntmps8
  go_wp2_with (first
    | (go_at_call 29; refine HLg.out.mono ?_; rintro e w1 ⟨b, rfl, hw, hb6⟩; obtain rfl := hw.symm; clear hw; have HB6 := Lib.hid hb6; clear hb6; cases b)
    | (go_at_call 30; refine (HLv.out _).mono ?_; rintro e w2 ⟨rfl, bz⟩)
    | (go_at_call 31; refine (HNew.out _).mono ?_; rintro e w3 ⟨rfl, hg3, b3⟩; have HG3 := Lib.hid (PgAt.new hg3); clear hg3))
  rotate_left
  · go_ret
    exact ⟨by trivial, bz⟩
  have hn6 := HB6.out (by trivial)
  go_loopw [3, 4, 5] (fun q h x wr => ∃ (k m : Nat) (ad : Addr) (cp : Nat) (B : Option Addr) (C : Nat) (hs : List Value) (g : Rows), k ≤ n ∧ m ≤ k ∧ x = .int .i64 k ∧ q = .slice (some ad) 256 cp ∧ h = .slice B m C ∧ g.length = m ∧ PgAt wr (.slice (some ad) 256 cp) g ∧ wr.ownsRow w.heap.size 24 1 (.slice B m C) m hs ∧ HsOf w hs g ∧ Below w.heap.size w wr) (fun _ _ x _ => n - (intOf x).toNat)
  case atStart => exact ⟨0, 0, _, _, none, 0, [], [], by omega, by omega, rfl, rfl, rfl, rfl, HG3.out, World.ownsRow_nil _ _ _ _, HsOf.nil w, b3⟩
  case round =>
    clear b3
    obtain ⟨k, m, ad, cp, B, C, hs, g, hk, hm, rfl, rfl, rfl, hgl, hpg, ho, hho, bel⟩ := hrel
    have szr := bel.size
    by_cases hlt : k < n
    · obtain ⟨adl, D, rm, rc, r, rfl, had, hrk, hhk, hcell, hrv⟩ := HL.out.at_ hlt
      have HCell := Lib.hid (fun W (b : Below w.heap.size w W) => cell_belowv hcell b (by rw [add_block]; exact had))
      have hc0 := HCell.out _ bel
      obtain ⟨ad1, c1, e1, hrb, hu1⟩ := hpg.bytes
      injection e1 with e1 _ e3
      injection e1 with e1
      subst e1 e3
      have HPG := Lib.hid (And.intro hpg (And.intro ho (And.intro hho (And.intro bel (And.intro hgl hrb)))))
      have of1 := own_fresh (heap_alloc_new wr (.cells #[] 5)) szr
      have HOF := Lib.hid of1
      have hadw : ad.block < wr.heap.size := by
        obtain ⟨ad', e, h, _⟩ := hrb.rd.2.2 (by omega)
        obtain rfl := Option.some.inj e
        exact h
      clear hcell hhk hpg ho of1 hrb
      have hrkm := HPG.out.2.2.2.2.1
      have HMay := fun W (b : Below w.heap.size w W) => may_walk (c := rc) (hrv.below b)
      have HHo2 := Lib.hid (HPG.out.2.2.1.snoc (c := rc) hrv)
      by_cases hm : mayE r = 0
      · by_cases hu : 256 < usedN (g ++ [r])
        · have HC := Lib.hid (fun W (b : Below w.heap.size w W) h (H : PgAt W h g) => held_full (cc := rc) H (hrv.below b) hm hu)
          rw [hm] at HMay
          have HMay := Lib.hid HMay
          have hok2 : ∀ s ∈ g ++ [r], rowOk s = true := fun s hs => (List.mem_append.1 hs).elim (HPG.out.1.ok s) (fun h => by have e : s = r := List.mem_singleton.1 h; rw [e]; exact (mayE_zero hm).1)
          obtain ⟨U2, hU2⟩ : ∃ U2, U2 = usedN (g ++ [r]) := ⟨_, rfl⟩
          have HUs2 := Lib.hid (fun W A8 c8 (b : Below w.heap.size w W) (ho : W.ownsRow w.heap.size 24 1 (.slice A8 (m + 1) c8) (m + 1) (hs ++ [.slice D rm rc])) => used_rdl (c := c8) (HHo2.out.rdl ho b) hok2 (by omega) hU2)
          have hU2b := usedN_le (g ++ [r]) hok2
          rw [← hU2] at hu hU2b
          have hml : (g ++ [r]).length = m + 1 := by simp [hrkm]
          rw [hml] at hU2b
          obtain ⟨U, hU⟩ : ∃ U, U = usedN g := ⟨_, rfl⟩
          obtain ⟨R, hR⟩ : ∃ R, R = roomN g := ⟨_, rfl⟩
          have hRU := roomN_used (g := g)
          rw [← hU, ← hR] at hRU
          have hm127 : m ≤ 127 := by have h1 : usedN g ≤ 256 := hu1; unfold usedN at h1; rw [hrkm] at h1; omega
          have hmb : ((m : Int) == 255) = false := by rw [beq_eq_false_iff_ne]; omega
          have hU256 : U ≤ 256 := by have h1 : usedN g ≤ 256 := hu1; omega
          have HMk := Lib.hid (fun W A8 c8 (b : Below w.heap.size w W) (ho : W.ownsRow w.heap.size 24 1 (.slice A8 m c8) m hs) => make_fit (c := c8) (HPG.out.2.2.1.rdl ho b) HPG.out.1.ok (by omega) hu1)
          have HUs := Lib.hid (fun W A8 c8 (b : Below w.heap.size w W) (ho : W.ownsRow w.heap.size 24 1 (.slice A8 m c8) m hs) => used_rdl (c := c8) (HPG.out.2.2.1.rdl ho b) HPG.out.1.ok (by omega) hU)
          have HCt := Lib.hid (fun W h (H : PgAt W h g) => (show Calls Try.prog 36 #[h] W fun e w' => e = .returned (.int .i64 ((m : Nat) : Int)) ∧ Below W.heap.size W w' by have := h_count H; rw [hrkm] at this; exact this))
          have HRm := Lib.hid (fun W h (H : PgAt W h g) => (show Calls Try.prog 37 #[h] W fun e w' => e = .returned (.int .i64 R) ∧ Below W.heap.size W w' by have := h_room H; rw [← hR] at this; exact this))
          obtain ⟨s1, hs1⟩ : ∃ s1, s1 = strOf (mkP g) := ⟨_, rfl⟩
          have HST := Lib.hid (fun W A1 c1 (h : Rd1 W A1 256 (u8s (mkP g))) => (show (convert 23 9 (.slice A1 256 c1)).run Try.prog W = .ok (.string s1) W by rw [hs1]; exact conv_rd h))
          obtain ⟨s2, hs2⟩ : ∃ s2, s2 = strOf (mkP g) := ⟨_, rfl⟩
          have HST2 := Lib.hid (fun W A1 c1 (h : Rd1 W A1 256 (u8s (mkP g))) => (show (convert 23 9 (.slice A1 256 c1)).run Try.prog W = .ok (.string s2) W by rw [hs2]; exact conv_rd h))
          have HLen := Lib.hid (show g.length = m from hrkm)
          clear hs1 hs2 hU hR
          clear hm hrk hrv hU2 hml hok2
          go_wp2_with (first
            | (at_builtin; refine wp_appendL w.heap.size rfl (.tmp 24) (.tmp 25) 23 5 (.int .u8 0) 1 1 rfl Try.underlying23 info_u8 rfl (by omega) (by omega) (.slice (some ⟨wr.heap.size, 0, none⟩) 0 0) 0 [] rfl (some ad) 256 cp (u8s (mkP g)) rfl (by have := HPG.out.2.2.2.2.2.rd.1; omega) (fun h => by obtain ⟨ad', e, _, hc⟩ := (HPG.out.2.2.2.2.2.below (hid_below_alloc _)).rd.2.2 h; exact ⟨ad', e, hc⟩) (by intro u hu; obtain ⟨x, _, rfl⟩ := List.mem_map.1 hu; rfl) HOF.out (by simp; omega) (by omega) ?_; intro v1 w4 h4 t4 _; obtain ⟨ga, La, ca, rfl, hga, _⟩ := own_block h4 (by omega); have B4 := Lib.hid (below_turn (hid_below_alloc _) t4 (by simp) (fun i hi => by simp [Value.ownBlock] at hi; omega)); have b4 := HPG.out.2.2.2.1.trans (B4.out.mono szr); have hc4 := HCell.out _ b4; have HO4 := Lib.hid (PgAt.of_own (by simpa using h4) HPG.out.1.ok hu1); clear h4 t4 hga)
            | (go_at_call 32; refine (HC.out _ b4 _ HO4.out).mono ?_; rintro e w5 ⟨rfl, b⟩; have B5 := Lib.hid (B4.out.trans (b.mono B4.out.size)); have HO5 := Lib.hid (HO4.out.below b); have b5 := b4.trans (b.mono b4.size); have hc5 := HCell.out _ b5; clear b)
            | (go_at_call 33; refine (HMay.out _ b5).mono ?_; rintro e w6 ⟨rfl, b⟩; have B6 := Lib.hid (B5.out.trans (b.mono B5.out.size)); have HO6 := Lib.hid (HO5.out.below b); have b6 := b5.trans (b.mono b5.size); have c6 := HCell.out _ b6; clear b))
          have HR6 := Lib.hid (own_below HPG.out.2.1 B6.out)
          have s6 := b6.size
          have had6 : adl.block < w6.heap.size := by omega
          have HF6 := Lib.hid (more_worlds w6.drew (.slice D rm rc) w6.heap.size (Nat.le_refl _))
          have HL6 := Lib.hid (show hs.length = m by rw [HPG.out.2.2.1.len, HPG.out.2.2.2.2.1])
          have HS6 := Lib.hid (fun W (b : Below w6.heap.size w6 W) (h : 0 < m) => by obtain ⟨ad', e, _, hc⟩ := (((Rd1.of_own HR6.out).2).below b).2.2 h; exact (⟨ad', e, hc⟩ : ∃ ad, B = some ad ∧ ∀ j u, hs[j]? = some u → W.cell? (ad.add j) = some u))
          have HONE := Lib.hid HPG.out.2.2.1.one
          have HW1 := Lib.hid (show Below w6.heap.size w6 (w6.drew.alloc (.cells #[] 24)) from (below_drew (Below.refl _ _)).alloc (Nat.le_refl _) _)
          have HW2 := Lib.hid (show Below w6.heap.size w6 ((w6.drew.alloc (.cells #[] 24)).alloc (.cells #[.slice D rm rc] 24)) from HW1.out.alloc (by simp) _)
          have HW3 := Lib.hid (show Below w6.heap.size w6 ((w6.drew.alloc (.cells #[.slice D rm rc] 24)).alloc (.cells #[] 24)) from ((below_drew (Below.refl _ _)).alloc (Nat.le_refl _) _).alloc (by simp) _)
          have HX6 := Lib.hid (show ((w6.drew.alloc (.cells #[] 24)).alloc (.cells #[.slice D rm rc] 24)).cell? ⟨w6.heap.size + 1, 0, none⟩ = some (.slice D rm rc) ∧ ((w6.drew.alloc (.cells #[.slice D rm rc] 24)).alloc (.cells #[] 24)).cell? ⟨w6.heap.size, 0, none⟩ = some (.slice D rm rc) from ⟨cell_of_blk (heap_alloc2_new _ _ _) 0, cell_of_blk (heap_alloc2_old _ _ _) 0⟩)
          have e6a : (w6.alloc (.cells #[] 24)).cell? (adl.add k) = some (.slice D rm rc) := (World.cell?_alloc_lt _ _ _ (World.block_lt_of_cell? _ _ c6)).trans c6
          have e6b : (w6.drew.alloc (.cells #[] 24)).cell? (adl.add k) = some (.slice D rm rc) := e6a
          go_wp2
          go_region_law (first
              | (refine step_of_wp rfl (show Oper.wp _ _ _ (w6.drew.alloc (.cells #[] 24)) _ _ from op_appendA (W := w6.drew.alloc (.cells #[] 24)) w6.heap.size (.tmp 41) (.tmp 42) 38 24 (.slice none 0 0) 24 rfl Try.underlying38 info_L rfl (by omega) (.slice (some ⟨w6.heap.size, 0, none⟩) 0 0) 0 [] rfl B m C hs rfl HL6.out (HS6.out _ HW1.out) HONE.out HF6.out.1 (by simp <;> omega) (by omega) ?_); intro v7 w7 h7a t7; rw [Nat.zero_add, List.nil_append] at h7a; obtain ⟨A7, c7, rfl⟩ := own_slice h7a; have B7 := Lib.hid (below_turn HW1.out t7 (by simp <;> omega) (fun i hi => by simp [Value.ownBlock] at hi; omega)); have hc7 := cell_belowv c6 B7.out (by rw [add_block]; exact had6))
              | (refine step_of_wp rfl (show Oper.wp _ _ _ ((w6.drew.alloc (.cells #[] 24)).alloc (.cells #[.slice D rm rc] 24)) _ _ from op_appendA (W := (w6.drew.alloc (.cells #[] 24)).alloc (.cells #[.slice D rm rc] 24)) w6.heap.size (.tmp 41) (.tmp 42) 38 24 (.slice none 0 0) 24 rfl Try.underlying38 info_L rfl (by omega) (.slice (some ⟨w6.heap.size, 0, none⟩) 0 0) 0 [] rfl B m C hs rfl HL6.out (HS6.out _ HW2.out) HONE.out HF6.out.2.1 (by simp <;> omega) (by omega) ?_); intro v7 w7 h7b t7; rw [Nat.zero_add, List.nil_append] at h7b; obtain ⟨A7, c7, rfl⟩ := own_slice h7b; have B7 := Lib.hid (below_turn HW2.out t7 (by simp <;> omega) (fun i hi => by simp [Value.ownBlock] at hi; omega)); have hc7 := cell_belowv c6 B7.out (by rw [add_block]; exact had6); have hx7 := cell_turn (HX6.out.1) t7 (by simp [Value.ownBlock]))
              | (refine step_of_wp rfl (show Oper.wp _ _ _ ((w6.drew.alloc (.cells #[.slice D rm rc] 24)).alloc (.cells #[] 24)) _ _ from op_appendA (W := (w6.drew.alloc (.cells #[.slice D rm rc] 24)).alloc (.cells #[] 24)) w6.heap.size (.tmp 41) (.tmp 42) 38 24 (.slice none 0 0) 24 rfl Try.underlying38 info_L rfl (by omega) (.slice (some ⟨w6.heap.size + 1, 0, none⟩) 0 0) 0 [] rfl B m C hs rfl HL6.out (HS6.out _ HW3.out) HONE.out HF6.out.2.2 (by simp <;> omega) (by omega) ?_); intro v7 w7 h7c t7; rw [Nat.zero_add, List.nil_append] at h7c; obtain ⟨A7, c7, rfl⟩ := own_slice h7c; have B7 := Lib.hid (below_turn HW3.out t7 (by simp <;> omega) (fun i hi => by simp [Value.ownBlock] at hi; omega)); have hc7 := cell_belowv c6 B7.out (by rw [add_block]; exact had6); have hx7 := cell_turn (HX6.out.2) t7 (by simp [Value.ownBlock]))
              | (refine step_of_wp rfl (show Oper.wp _ _ _ (w7.alloc (.cells #[.slice D rm rc] 24)) _ _ from op_append1 (W := w7) w6.heap.size (.tmp 43) (.tmp 48) 38 24 (.slice none 0 0) 1 24 rfl Try.underlying38 info_L rfl (by omega) (by omega) (.slice A7 m c7) m _ [.slice D rm rc] rfl rfl (by simp) rfl (by simp [Value.oneCell']) h7a B7.out.size (by omega) ?_); intro v8 w8 h8 t8 _; obtain ⟨A8, c8, rfl⟩ := own_slice h8; have HB8 := Lib.hid (below_turn B7.out t8 B7.out.size (fun i hi => own_ge h7a hi)); have HH8 := Lib.hid h8; clear h8 t8)
              | (refine step_of_wp rfl (show Oper.wp _ _ _ w7 _ _ from op_appendA (W := w7) w6.heap.size (.tmp 43) (.tmp 48) 38 24 (.slice none 0 0) 24 rfl Try.underlying38 info_L rfl (by omega) (.slice A7 m c7) m _ rfl (some ⟨w6.heap.size + 1, 0, none⟩) 1 1 [.slice D rm rc] rfl rfl (fun _ => ⟨_, rfl, one_src hx7⟩) (by simp [Value.oneCell']) h7b B7.out.size (by omega) ?_); intro v8 w8 h8 t8; obtain ⟨A8, c8, rfl⟩ := own_slice h8; have HB8 := Lib.hid (below_turn B7.out t8 B7.out.size (fun i hi => own_ge h7b hi)); have HH8 := Lib.hid h8; clear h8 t8)
              | (refine step_of_wp rfl (show Oper.wp _ _ _ w7 _ _ from op_appendA (W := w7) w6.heap.size (.tmp 43) (.tmp 48) 38 24 (.slice none 0 0) 24 rfl Try.underlying38 info_L rfl (by omega) (.slice A7 m c7) m _ rfl (some ⟨w6.heap.size, 0, none⟩) 1 1 [.slice D rm rc] rfl rfl (fun _ => ⟨_, rfl, one_src hx7⟩) (by simp [Value.oneCell']) h7c B7.out.size (by omega) ?_); intro v8 w8 h8 t8; obtain ⟨A8, c8, rfl⟩ := own_slice h8; have HB8 := Lib.hid (below_turn B7.out t8 B7.out.size (fun i hi => own_ge h7c hi)); have HH8 := Lib.hid h8; clear h8 t8))
          all_goals
            have b8 := b6.trans (HB8.out.mono s6)
            have B8 := Lib.hid (B6.out.trans (HB8.out.mono B6.out.size))
            have HO8 := Lib.hid (HO6.out.below HB8.out)
            have HP8 := Lib.hid (HPG.out.1.below B8.out)
            have HR8 := Lib.hid (own_below HR6.out HB8.out)
            have HHl8 := Lib.hid (own_lower HH8.out s6)
            go_wp2_with (first
              | (exfalso; omega)
              | (go_at_call 34; (with_reducible refine (HUs2.out _ _ _ b8 HHl8.out).mono ?_); rintro e w9 ⟨rfl, b⟩; have b9 := b8.trans (b.mono b8.size); have HP9 := Lib.hid (HP8.out.below b); have k1 := HST.out _ _ ca (HO8.out.below b).rdp; have k2 := HST.out _ _ cp HP9.out.rdp; have HR9 := Lib.hid (own_below HR8.out b); clear b)
              | (go_at_call 35; refine (HMk.out _ _ _ b9 HR9.out).mono ?_; rintro e w10 ⟨B10, c10, rfl, hx10, b⟩; have b10 := b9.trans (b.mono b9.size); have HP10 := Lib.hid (HP9.out.below b); have HR10 := Lib.hid (own_below HR9.out b); have k3 := HST2.out _ _ cp HP10.out.rdp; have k4 := HST2.out _ _ c10 hx10; clear b hx10)
              | (go_at_call 36; refine (HCt.out _ _ HP10.out).mono ?_; rintro e w11 ⟨rfl, b⟩; have b11 := b10.trans (b.mono b10.size); have HP11 := Lib.hid (HP10.out.below b); have HR11 := Lib.hid (own_below HR10.out b); clear b)
              | (go_at_call 34; refine (HUs.out _ _ _ b11 HR11.out).mono ?_; rintro e w12 ⟨rfl, b⟩; have b12 := b11.trans (b.mono b11.size); have HP12 := Lib.hid (HP11.out.below b); have HR12 := Lib.hid (own_below HR11.out b); clear b)
              | (go_at_call 37; refine (HRm.out _ _ HP12.out).mono ?_; rintro e w13 ⟨rfl, b⟩; have b13 := b12.trans (b.mono b12.size); have HP13 := Lib.hid (HP12.out.below b); have HR13 := Lib.hid (own_below HR12.out b); clear b))
            all_goals first
              | (exfalso; omega)
              | skip
            all_goals go_roundw
          all_goals first
            | exact ⟨k + 1, m, ad, cp, B, C, _, _, by omega, by omega, by go_num, rfl, rfl, HLen.out, HP13.out, HR13.out, HPG.out.2.2.1, b13⟩
            | (simp [intOf]; done)
            | (simp [intOf]; omega)
        · have HC := Lib.hid (fun W (b : Below w.heap.size w W) h (H : PgAt W h g) => held_yes (cc := rc) H (hrv.below b) hm hu)
          rw [hm] at HMay
          have HMay := Lib.hid HMay
          have hok2 : ∀ s ∈ g ++ [r], rowOk s = true := fun s hs => (List.mem_append.1 hs).elim (HPG.out.1.ok s) (fun h => by have e : s = r := List.mem_singleton.1 h; rw [e]; exact (mayE_zero hm).1)
          obtain ⟨U2, hU2⟩ : ∃ U2, U2 = usedN (g ++ [r]) := ⟨_, rfl⟩
          have HUs2 := Lib.hid (fun W A8 c8 (b : Below w.heap.size w W) (ho : W.ownsRow w.heap.size 24 1 (.slice A8 (m + 1) c8) (m + 1) (hs ++ [.slice D rm rc])) => used_rdl (c := c8) (HHo2.out.rdl ho b) hok2 (by omega) hU2)
          have hU2b := usedN_le (g ++ [r]) hok2
          rw [← hU2] at hu hU2b
          have hml : (g ++ [r]).length = m + 1 := by simp [hrkm]
          rw [hml] at hU2b
          obtain ⟨U, hU⟩ : ∃ U, U = usedN (g ++ [r]) := ⟨_, rfl⟩
          obtain ⟨R, hR⟩ : ∃ R, R = roomN (g ++ [r]) := ⟨_, rfl⟩
          have hRU := roomN_used (g := (g ++ [r]))
          rw [← hU, ← hR] at hRU
          have hm127 : (m + 1) ≤ 127 := by have h1 : usedN (g ++ [r]) ≤ 256 := (by rw [← hU2]; omega); unfold usedN at h1; rw [hml] at h1; omega
          have hmb : (((m : Int) + 1) == 255) = false := by rw [beq_eq_false_iff_ne]; omega
          have hU256 : U ≤ 256 := by have h1 : usedN (g ++ [r]) ≤ 256 := (by rw [← hU2]; omega); omega
          have HMk := Lib.hid (fun W A8 c8 (b : Below w.heap.size w W) (ho : W.ownsRow w.heap.size 24 1 (.slice A8 (m + 1) c8) (m + 1) (hs ++ [.slice D rm rc])) => make_fit (c := c8) (HHo2.out.rdl ho b) hok2 (by omega) (by rw [← hU2]; omega))
          have HUs := Lib.hid (fun W A8 c8 (b : Below w.heap.size w W) (ho : W.ownsRow w.heap.size 24 1 (.slice A8 (m + 1) c8) (m + 1) (hs ++ [.slice D rm rc])) => used_rdl (c := c8) (HHo2.out.rdl ho b) hok2 (by omega) hU)
          have HCt := Lib.hid (fun W h (H : PgAt W h (g ++ [r])) => (show Calls Try.prog 36 #[h] W fun e w' => e = .returned (.int .i64 (((m + 1) : Nat) : Int)) ∧ Below W.heap.size W w' by have := h_count H; rw [hml] at this; exact this))
          have HRm := Lib.hid (fun W h (H : PgAt W h (g ++ [r])) => (show Calls Try.prog 37 #[h] W fun e w' => e = .returned (.int .i64 R) ∧ Below W.heap.size W w' by have := h_room H; rw [← hR] at this; exact this))
          obtain ⟨s1, hs1⟩ : ∃ s1, s1 = strOf (mkP g) := ⟨_, rfl⟩
          have HST := Lib.hid (fun W A1 c1 (h : Rd1 W A1 256 (u8s (mkP g))) => (show (convert 23 9 (.slice A1 256 c1)).run Try.prog W = .ok (.string s1) W by rw [hs1]; exact conv_rd h))
          obtain ⟨s2, hs2⟩ : ∃ s2, s2 = strOf (mkP (g ++ [r])) := ⟨_, rfl⟩
          have HST2 := Lib.hid (fun W A1 c1 (h : Rd1 W A1 256 (u8s (mkP (g ++ [r])))) => (show (convert 23 9 (.slice A1 256 c1)).run Try.prog W = .ok (.string s2) W by rw [hs2]; exact conv_rd h))
          have HLen := Lib.hid (show (g ++ [r]).length = (m + 1) from hml)
          clear hs1 hs2 hU hR
          clear hm hrk hrv hU2 hml hok2
          go_wp2_with (first
            | (at_builtin; refine wp_appendL w.heap.size rfl (.tmp 24) (.tmp 25) 23 5 (.int .u8 0) 1 1 rfl Try.underlying23 info_u8 rfl (by omega) (by omega) (.slice (some ⟨wr.heap.size, 0, none⟩) 0 0) 0 [] rfl (some ad) 256 cp (u8s (mkP g)) rfl (by have := HPG.out.2.2.2.2.2.rd.1; omega) (fun h => by obtain ⟨ad', e, _, hc⟩ := (HPG.out.2.2.2.2.2.below (hid_below_alloc _)).rd.2.2 h; exact ⟨ad', e, hc⟩) (by intro u hu; obtain ⟨x, _, rfl⟩ := List.mem_map.1 hu; rfl) HOF.out (by simp; omega) (by omega) ?_; intro v1 w4 h4 t4 _; obtain ⟨ga, La, ca, rfl, hga, _⟩ := own_block h4 (by omega); have B4 := Lib.hid (below_turn (hid_below_alloc _) t4 (by simp) (fun i hi => by simp [Value.ownBlock] at hi; omega)); have b4 := HPG.out.2.2.2.1.trans (B4.out.mono szr); have hc4 := HCell.out _ b4; have HO4 := Lib.hid (PgAt.of_own (by simpa using h4) HPG.out.1.ok hu1); clear h4 t4 hga)
            | (go_at_call 32; refine (HC.out _ b4 _ HO4.out).mono ?_; rintro e w5 ⟨ad5, c5, rfl, hp5, b⟩; have HP5 := Lib.hid hp5; have B5 := Lib.hid (B4.out.trans (b.mono B4.out.size)); have HO5 := Lib.hid (HO4.out.below b); have b5 := b4.trans (b.mono b4.size); have hc5 := HCell.out _ b5; clear b hp5)
            | (go_at_call 33; refine (HMay.out _ b5).mono ?_; rintro e w6 ⟨rfl, b⟩; have B6 := Lib.hid (B5.out.trans (b.mono B5.out.size)); have HO6 := Lib.hid (HO5.out.below b); have HP6 := Lib.hid (HP5.out.below b); have b6 := b5.trans (b.mono b5.size); have c6 := HCell.out _ b6; clear b))
          have HR6 := Lib.hid (own_below HPG.out.2.1 B6.out)
          have s6 := b6.size
          have had6 : adl.block < w6.heap.size := by omega
          have HF6 := Lib.hid (more_worlds w6.drew (.slice D rm rc) w6.heap.size (Nat.le_refl _))
          have HL6 := Lib.hid (show hs.length = m by rw [HPG.out.2.2.1.len, HPG.out.2.2.2.2.1])
          have HS6 := Lib.hid (fun W (b : Below w6.heap.size w6 W) (h : 0 < m) => by obtain ⟨ad', e, _, hc⟩ := (((Rd1.of_own HR6.out).2).below b).2.2 h; exact (⟨ad', e, hc⟩ : ∃ ad, B = some ad ∧ ∀ j u, hs[j]? = some u → W.cell? (ad.add j) = some u))
          have HONE := Lib.hid HPG.out.2.2.1.one
          have HW1 := Lib.hid (show Below w6.heap.size w6 (w6.drew.alloc (.cells #[] 24)) from (below_drew (Below.refl _ _)).alloc (Nat.le_refl _) _)
          have HW2 := Lib.hid (show Below w6.heap.size w6 ((w6.drew.alloc (.cells #[] 24)).alloc (.cells #[.slice D rm rc] 24)) from HW1.out.alloc (by simp) _)
          have HW3 := Lib.hid (show Below w6.heap.size w6 ((w6.drew.alloc (.cells #[.slice D rm rc] 24)).alloc (.cells #[] 24)) from ((below_drew (Below.refl _ _)).alloc (Nat.le_refl _) _).alloc (by simp) _)
          have HX6 := Lib.hid (show ((w6.drew.alloc (.cells #[] 24)).alloc (.cells #[.slice D rm rc] 24)).cell? ⟨w6.heap.size + 1, 0, none⟩ = some (.slice D rm rc) ∧ ((w6.drew.alloc (.cells #[.slice D rm rc] 24)).alloc (.cells #[] 24)).cell? ⟨w6.heap.size, 0, none⟩ = some (.slice D rm rc) from ⟨cell_of_blk (heap_alloc2_new _ _ _) 0, cell_of_blk (heap_alloc2_old _ _ _) 0⟩)
          have e6a : (w6.alloc (.cells #[] 24)).cell? (adl.add k) = some (.slice D rm rc) := (World.cell?_alloc_lt _ _ _ (World.block_lt_of_cell? _ _ c6)).trans c6
          have e6b : (w6.drew.alloc (.cells #[] 24)).cell? (adl.add k) = some (.slice D rm rc) := e6a
          go_wp2
          go_region_law (first
              | (refine step_of_wp rfl (show Oper.wp _ _ _ (w6.drew.alloc (.cells #[] 24)) _ _ from op_appendA (W := w6.drew.alloc (.cells #[] 24)) w6.heap.size (.tmp 41) (.tmp 42) 38 24 (.slice none 0 0) 24 rfl Try.underlying38 info_L rfl (by omega) (.slice (some ⟨w6.heap.size, 0, none⟩) 0 0) 0 [] rfl B m C hs rfl HL6.out (HS6.out _ HW1.out) HONE.out HF6.out.1 (by simp <;> omega) (by omega) ?_); intro v7 w7 h7a t7; rw [Nat.zero_add, List.nil_append] at h7a; obtain ⟨A7, c7, rfl⟩ := own_slice h7a; have B7 := Lib.hid (below_turn HW1.out t7 (by simp <;> omega) (fun i hi => by simp [Value.ownBlock] at hi; omega)); have hc7 := cell_belowv c6 B7.out (by rw [add_block]; exact had6))
              | (refine step_of_wp rfl (show Oper.wp _ _ _ ((w6.drew.alloc (.cells #[] 24)).alloc (.cells #[.slice D rm rc] 24)) _ _ from op_appendA (W := (w6.drew.alloc (.cells #[] 24)).alloc (.cells #[.slice D rm rc] 24)) w6.heap.size (.tmp 41) (.tmp 42) 38 24 (.slice none 0 0) 24 rfl Try.underlying38 info_L rfl (by omega) (.slice (some ⟨w6.heap.size, 0, none⟩) 0 0) 0 [] rfl B m C hs rfl HL6.out (HS6.out _ HW2.out) HONE.out HF6.out.2.1 (by simp <;> omega) (by omega) ?_); intro v7 w7 h7b t7; rw [Nat.zero_add, List.nil_append] at h7b; obtain ⟨A7, c7, rfl⟩ := own_slice h7b; have B7 := Lib.hid (below_turn HW2.out t7 (by simp <;> omega) (fun i hi => by simp [Value.ownBlock] at hi; omega)); have hc7 := cell_belowv c6 B7.out (by rw [add_block]; exact had6); have hx7 := cell_turn (HX6.out.1) t7 (by simp [Value.ownBlock]))
              | (refine step_of_wp rfl (show Oper.wp _ _ _ ((w6.drew.alloc (.cells #[.slice D rm rc] 24)).alloc (.cells #[] 24)) _ _ from op_appendA (W := (w6.drew.alloc (.cells #[.slice D rm rc] 24)).alloc (.cells #[] 24)) w6.heap.size (.tmp 41) (.tmp 42) 38 24 (.slice none 0 0) 24 rfl Try.underlying38 info_L rfl (by omega) (.slice (some ⟨w6.heap.size + 1, 0, none⟩) 0 0) 0 [] rfl B m C hs rfl HL6.out (HS6.out _ HW3.out) HONE.out HF6.out.2.2 (by simp <;> omega) (by omega) ?_); intro v7 w7 h7c t7; rw [Nat.zero_add, List.nil_append] at h7c; obtain ⟨A7, c7, rfl⟩ := own_slice h7c; have B7 := Lib.hid (below_turn HW3.out t7 (by simp <;> omega) (fun i hi => by simp [Value.ownBlock] at hi; omega)); have hc7 := cell_belowv c6 B7.out (by rw [add_block]; exact had6); have hx7 := cell_turn (HX6.out.2) t7 (by simp [Value.ownBlock]))
              | (refine step_of_wp rfl (show Oper.wp _ _ _ (w7.alloc (.cells #[.slice D rm rc] 24)) _ _ from op_append1 (W := w7) w6.heap.size (.tmp 43) (.tmp 48) 38 24 (.slice none 0 0) 1 24 rfl Try.underlying38 info_L rfl (by omega) (by omega) (.slice A7 m c7) m _ [.slice D rm rc] rfl rfl (by simp) rfl (by simp [Value.oneCell']) h7a B7.out.size (by omega) ?_); intro v8 w8 h8 t8 _; obtain ⟨A8, c8, rfl⟩ := own_slice h8; have HB8 := Lib.hid (below_turn B7.out t8 B7.out.size (fun i hi => own_ge h7a hi)); have HH8 := Lib.hid h8; clear h8 t8)
              | (refine step_of_wp rfl (show Oper.wp _ _ _ w7 _ _ from op_appendA (W := w7) w6.heap.size (.tmp 43) (.tmp 48) 38 24 (.slice none 0 0) 24 rfl Try.underlying38 info_L rfl (by omega) (.slice A7 m c7) m _ rfl (some ⟨w6.heap.size + 1, 0, none⟩) 1 1 [.slice D rm rc] rfl rfl (fun _ => ⟨_, rfl, one_src hx7⟩) (by simp [Value.oneCell']) h7b B7.out.size (by omega) ?_); intro v8 w8 h8 t8; obtain ⟨A8, c8, rfl⟩ := own_slice h8; have HB8 := Lib.hid (below_turn B7.out t8 B7.out.size (fun i hi => own_ge h7b hi)); have HH8 := Lib.hid h8; clear h8 t8)
              | (refine step_of_wp rfl (show Oper.wp _ _ _ w7 _ _ from op_appendA (W := w7) w6.heap.size (.tmp 43) (.tmp 48) 38 24 (.slice none 0 0) 24 rfl Try.underlying38 info_L rfl (by omega) (.slice A7 m c7) m _ rfl (some ⟨w6.heap.size, 0, none⟩) 1 1 [.slice D rm rc] rfl rfl (fun _ => ⟨_, rfl, one_src hx7⟩) (by simp [Value.oneCell']) h7c B7.out.size (by omega) ?_); intro v8 w8 h8 t8; obtain ⟨A8, c8, rfl⟩ := own_slice h8; have HB8 := Lib.hid (below_turn B7.out t8 B7.out.size (fun i hi => own_ge h7c hi)); have HH8 := Lib.hid h8; clear h8 t8))
          all_goals
            have b8 := b6.trans (HB8.out.mono s6)
            have B8 := Lib.hid (B6.out.trans (HB8.out.mono B6.out.size))
            have HO8 := Lib.hid (HO6.out.below HB8.out)
            have HP8 := Lib.hid (HPG.out.1.below B8.out)
            have HR8 := Lib.hid (own_below HR6.out HB8.out)
            have HHl8 := Lib.hid (own_lower HH8.out s6)
            have HQ8 := Lib.hid (HP6.out.below HB8.out)
            go_wp2_with (first
              | (exfalso; omega)
              | (go_at_call 34; (with_reducible refine (HUs2.out _ _ _ b8 HHl8.out).mono ?_); rintro e w9 ⟨rfl, b⟩; have b9 := b8.trans (b.mono b8.size); have HP9 := Lib.hid (HP8.out.below b); have k1 := HST.out _ _ ca (HO8.out.below b).rdp; have k2 := HST.out _ _ cp HP9.out.rdp; have HQ9 := Lib.hid (HQ8.out.below b); have HHl9 := Lib.hid (own_below HHl8.out b); clear b)
              | (go_at_call 35; refine (HMk.out _ _ _ b9 HHl9.out).mono ?_; rintro e w10 ⟨B10, c10, rfl, hx10, b⟩; have b10 := b9.trans (b.mono b9.size); have HP10 := Lib.hid (HQ9.out.below b); have HR10 := Lib.hid (own_below HHl9.out b); have k3 := HST2.out _ _ c5 HP10.out.rdp; have k4 := HST2.out _ _ c10 hx10; clear b hx10)
              | (go_at_call 36; refine (HCt.out _ _ HP10.out).mono ?_; rintro e w11 ⟨rfl, b⟩; have b11 := b10.trans (b.mono b10.size); have HP11 := Lib.hid (HP10.out.below b); have HR11 := Lib.hid (own_below HR10.out b); clear b)
              | (go_at_call 34; refine (HUs.out _ _ _ b11 HR11.out).mono ?_; rintro e w12 ⟨rfl, b⟩; have b12 := b11.trans (b.mono b11.size); have HP12 := Lib.hid (HP11.out.below b); have HR12 := Lib.hid (own_below HR11.out b); clear b)
              | (go_at_call 37; refine (HRm.out _ _ HP12.out).mono ?_; rintro e w13 ⟨rfl, b⟩; have b13 := b12.trans (b.mono b12.size); have HP13 := Lib.hid (HP12.out.below b); have HR13 := Lib.hid (own_below HR12.out b); clear b))
            all_goals first
              | (exfalso; omega)
              | skip
            all_goals go_roundw
          all_goals first
            | exact ⟨k + 1, m + 1, ad5, c5, A8, c8, _, _, by omega, by omega, by go_num, rfl, rfl, HLen.out, HP13.out, HR13.out, HHo2.out, b13⟩
            | (simp [intOf]; done)
            | (simp [intOf]; omega)
      · have HC := fun W (b : Below w.heap.size w W) h (H : PgAt W h g) => held_no (cc := rc) H (hrv.below b) hm
        obtain ⟨F, hF⟩ : ∃ F, F = mayE r := ⟨_, rfl⟩
        rw [← hF] at HC HMay hm
        have HC := Lib.hid HC
        have HMay := Lib.hid HMay
        have hF0 : (F == 0) = false := by simpa using hm
        have hF1 : (F != 0) = true := by simpa using hm
        obtain ⟨U, hU⟩ : ∃ U, U = usedN g := ⟨_, rfl⟩
        obtain ⟨R, hR⟩ : ∃ R, R = roomN g := ⟨_, rfl⟩
        have hRU := roomN_used (g := g)
        rw [← hU, ← hR] at hRU
        have hm127 : m ≤ 127 := by have h1 : usedN g ≤ 256 := hu1; unfold usedN at h1; rw [hrkm] at h1; omega
        have hmb : ((m : Int) == 255) = false := by rw [beq_eq_false_iff_ne]; omega
        have hU256 : U ≤ 256 := by have h1 : usedN g ≤ 256 := hu1; omega
        have HMk := Lib.hid (fun W A8 c8 (b : Below w.heap.size w W) (ho : W.ownsRow w.heap.size 24 1 (.slice A8 m c8) m hs) => make_fit (c := c8) (HPG.out.2.2.1.rdl ho b) HPG.out.1.ok (by omega) hu1)
        have HUs := Lib.hid (fun W A8 c8 (b : Below w.heap.size w W) (ho : W.ownsRow w.heap.size 24 1 (.slice A8 m c8) m hs) => used_rdl (c := c8) (HPG.out.2.2.1.rdl ho b) HPG.out.1.ok (by omega) hU)
        have HCt := Lib.hid (fun W h (H : PgAt W h g) => (show Calls Try.prog 36 #[h] W fun e w' => e = .returned (.int .i64 ((m : Nat) : Int)) ∧ Below W.heap.size W w' by have := h_count H; rw [hrkm] at this; exact this))
        have HRm := Lib.hid (fun W h (H : PgAt W h g) => (show Calls Try.prog 37 #[h] W fun e w' => e = .returned (.int .i64 R) ∧ Below W.heap.size W w' by have := h_room H; rw [← hR] at this; exact this))
        obtain ⟨s1, hs1⟩ : ∃ s1, s1 = strOf (mkP g) := ⟨_, rfl⟩
        have HST := Lib.hid (fun W A1 c1 (h : Rd1 W A1 256 (u8s (mkP g))) => (show (convert 23 9 (.slice A1 256 c1)).run Try.prog W = .ok (.string s1) W by rw [hs1]; exact conv_rd h))
        obtain ⟨s2, hs2⟩ : ∃ s2, s2 = strOf (mkP g) := ⟨_, rfl⟩
        have HST2 := Lib.hid (fun W A1 c1 (h : Rd1 W A1 256 (u8s (mkP g))) => (show (convert 23 9 (.slice A1 256 c1)).run Try.prog W = .ok (.string s2) W by rw [hs2]; exact conv_rd h))
        have HLen := Lib.hid (show g.length = m from hrkm)
        clear hs1 hs2 hU hR
        clear hm hrk hrv hF
        go_wp2_with (first
          | (at_builtin; refine wp_appendL w.heap.size rfl (.tmp 24) (.tmp 25) 23 5 (.int .u8 0) 1 1 rfl Try.underlying23 info_u8 rfl (by omega) (by omega) (.slice (some ⟨wr.heap.size, 0, none⟩) 0 0) 0 [] rfl (some ad) 256 cp (u8s (mkP g)) rfl (by have := HPG.out.2.2.2.2.2.rd.1; omega) (fun h => by obtain ⟨ad', e, _, hc⟩ := (HPG.out.2.2.2.2.2.below (hid_below_alloc _)).rd.2.2 h; exact ⟨ad', e, hc⟩) (by intro u hu; obtain ⟨x, _, rfl⟩ := List.mem_map.1 hu; rfl) HOF.out (by simp; omega) (by omega) ?_; intro v1 w4 h4 t4 _; obtain ⟨ga, La, ca, rfl, hga, _⟩ := own_block h4 (by omega); have B4 := Lib.hid (below_turn (hid_below_alloc _) t4 (by simp) (fun i hi => by simp [Value.ownBlock] at hi; omega)); have b4 := HPG.out.2.2.2.1.trans (B4.out.mono szr); have hc4 := HCell.out _ b4; have HO4 := Lib.hid (PgAt.of_own (by simpa using h4) HPG.out.1.ok hu1); clear h4 t4 hga)
          | (go_at_call 32; refine (HC.out _ b4 _ HO4.out).mono ?_; rintro e w5 ⟨rfl, b⟩; have B5 := Lib.hid (B4.out.trans (b.mono B4.out.size)); have HO5 := Lib.hid (HO4.out.below b); have b5 := b4.trans (b.mono b4.size); have hc5 := HCell.out _ b5; clear b)
          | (go_at_call 33; refine (HMay.out _ b5).mono ?_; rintro e w6 ⟨rfl, b⟩; have B6 := Lib.hid (B5.out.trans (b.mono B5.out.size)); have HO6 := Lib.hid (HO5.out.below b); have b6 := b5.trans (b.mono b5.size); have c6 := HCell.out _ b6; clear b))
        have HR6 := Lib.hid (own_below HPG.out.2.1 B6.out)
        have s6 := b6.size
        have had6 : adl.block < w6.heap.size := by omega
        have HF6 := Lib.hid (more_worlds w6.drew (.slice D rm rc) w6.heap.size (Nat.le_refl _))
        have HL6 := Lib.hid (show hs.length = m by rw [HPG.out.2.2.1.len, HPG.out.2.2.2.2.1])
        have HS6 := Lib.hid (fun W (b : Below w6.heap.size w6 W) (h : 0 < m) => by obtain ⟨ad', e, _, hc⟩ := (((Rd1.of_own HR6.out).2).below b).2.2 h; exact (⟨ad', e, hc⟩ : ∃ ad, B = some ad ∧ ∀ j u, hs[j]? = some u → W.cell? (ad.add j) = some u))
        have HONE := Lib.hid HPG.out.2.2.1.one
        have HW1 := Lib.hid (show Below w6.heap.size w6 (w6.drew.alloc (.cells #[] 24)) from (below_drew (Below.refl _ _)).alloc (Nat.le_refl _) _)
        have HW2 := Lib.hid (show Below w6.heap.size w6 ((w6.drew.alloc (.cells #[] 24)).alloc (.cells #[.slice D rm rc] 24)) from HW1.out.alloc (by simp) _)
        have HW3 := Lib.hid (show Below w6.heap.size w6 ((w6.drew.alloc (.cells #[.slice D rm rc] 24)).alloc (.cells #[] 24)) from ((below_drew (Below.refl _ _)).alloc (Nat.le_refl _) _).alloc (by simp) _)
        have HX6 := Lib.hid (show ((w6.drew.alloc (.cells #[] 24)).alloc (.cells #[.slice D rm rc] 24)).cell? ⟨w6.heap.size + 1, 0, none⟩ = some (.slice D rm rc) ∧ ((w6.drew.alloc (.cells #[.slice D rm rc] 24)).alloc (.cells #[] 24)).cell? ⟨w6.heap.size, 0, none⟩ = some (.slice D rm rc) from ⟨cell_of_blk (heap_alloc2_new _ _ _) 0, cell_of_blk (heap_alloc2_old _ _ _) 0⟩)
        have e6a : (w6.alloc (.cells #[] 24)).cell? (adl.add k) = some (.slice D rm rc) := (World.cell?_alloc_lt _ _ _ (World.block_lt_of_cell? _ _ c6)).trans c6
        have e6b : (w6.drew.alloc (.cells #[] 24)).cell? (adl.add k) = some (.slice D rm rc) := e6a
        go_wp2
        go_region_law (first
            | (refine step_of_wp rfl (show Oper.wp _ _ _ (w6.drew.alloc (.cells #[] 24)) _ _ from op_appendA (W := w6.drew.alloc (.cells #[] 24)) w6.heap.size (.tmp 41) (.tmp 42) 38 24 (.slice none 0 0) 24 rfl Try.underlying38 info_L rfl (by omega) (.slice (some ⟨w6.heap.size, 0, none⟩) 0 0) 0 [] rfl B m C hs rfl HL6.out (HS6.out _ HW1.out) HONE.out HF6.out.1 (by simp <;> omega) (by omega) ?_); intro v7 w7 h7a t7; rw [Nat.zero_add, List.nil_append] at h7a; obtain ⟨A7, c7, rfl⟩ := own_slice h7a; have B7 := Lib.hid (below_turn HW1.out t7 (by simp <;> omega) (fun i hi => by simp [Value.ownBlock] at hi; omega)); have hc7 := cell_belowv c6 B7.out (by rw [add_block]; exact had6))
            | (refine step_of_wp rfl (show Oper.wp _ _ _ ((w6.drew.alloc (.cells #[] 24)).alloc (.cells #[.slice D rm rc] 24)) _ _ from op_appendA (W := (w6.drew.alloc (.cells #[] 24)).alloc (.cells #[.slice D rm rc] 24)) w6.heap.size (.tmp 41) (.tmp 42) 38 24 (.slice none 0 0) 24 rfl Try.underlying38 info_L rfl (by omega) (.slice (some ⟨w6.heap.size, 0, none⟩) 0 0) 0 [] rfl B m C hs rfl HL6.out (HS6.out _ HW2.out) HONE.out HF6.out.2.1 (by simp <;> omega) (by omega) ?_); intro v7 w7 h7b t7; rw [Nat.zero_add, List.nil_append] at h7b; obtain ⟨A7, c7, rfl⟩ := own_slice h7b; have B7 := Lib.hid (below_turn HW2.out t7 (by simp <;> omega) (fun i hi => by simp [Value.ownBlock] at hi; omega)); have hc7 := cell_belowv c6 B7.out (by rw [add_block]; exact had6); have hx7 := cell_turn (HX6.out.1) t7 (by simp [Value.ownBlock]))
            | (refine step_of_wp rfl (show Oper.wp _ _ _ ((w6.drew.alloc (.cells #[.slice D rm rc] 24)).alloc (.cells #[] 24)) _ _ from op_appendA (W := (w6.drew.alloc (.cells #[.slice D rm rc] 24)).alloc (.cells #[] 24)) w6.heap.size (.tmp 41) (.tmp 42) 38 24 (.slice none 0 0) 24 rfl Try.underlying38 info_L rfl (by omega) (.slice (some ⟨w6.heap.size + 1, 0, none⟩) 0 0) 0 [] rfl B m C hs rfl HL6.out (HS6.out _ HW3.out) HONE.out HF6.out.2.2 (by simp <;> omega) (by omega) ?_); intro v7 w7 h7c t7; rw [Nat.zero_add, List.nil_append] at h7c; obtain ⟨A7, c7, rfl⟩ := own_slice h7c; have B7 := Lib.hid (below_turn HW3.out t7 (by simp <;> omega) (fun i hi => by simp [Value.ownBlock] at hi; omega)); have hc7 := cell_belowv c6 B7.out (by rw [add_block]; exact had6); have hx7 := cell_turn (HX6.out.2) t7 (by simp [Value.ownBlock]))
            | (refine step_of_wp rfl (show Oper.wp _ _ _ (w7.alloc (.cells #[.slice D rm rc] 24)) _ _ from op_append1 (W := w7) w6.heap.size (.tmp 43) (.tmp 48) 38 24 (.slice none 0 0) 1 24 rfl Try.underlying38 info_L rfl (by omega) (by omega) (.slice A7 m c7) m _ [.slice D rm rc] rfl rfl (by simp) rfl (by simp [Value.oneCell']) h7a B7.out.size (by omega) ?_); intro v8 w8 h8 t8 _; obtain ⟨A8, c8, rfl⟩ := own_slice h8; have HB8 := Lib.hid (below_turn B7.out t8 B7.out.size (fun i hi => own_ge h7a hi)); have HH8 := Lib.hid h8; clear h8 t8)
            | (refine step_of_wp rfl (show Oper.wp _ _ _ w7 _ _ from op_appendA (W := w7) w6.heap.size (.tmp 43) (.tmp 48) 38 24 (.slice none 0 0) 24 rfl Try.underlying38 info_L rfl (by omega) (.slice A7 m c7) m _ rfl (some ⟨w6.heap.size + 1, 0, none⟩) 1 1 [.slice D rm rc] rfl rfl (fun _ => ⟨_, rfl, one_src hx7⟩) (by simp [Value.oneCell']) h7b B7.out.size (by omega) ?_); intro v8 w8 h8 t8; obtain ⟨A8, c8, rfl⟩ := own_slice h8; have HB8 := Lib.hid (below_turn B7.out t8 B7.out.size (fun i hi => own_ge h7b hi)); have HH8 := Lib.hid h8; clear h8 t8)
            | (refine step_of_wp rfl (show Oper.wp _ _ _ w7 _ _ from op_appendA (W := w7) w6.heap.size (.tmp 43) (.tmp 48) 38 24 (.slice none 0 0) 24 rfl Try.underlying38 info_L rfl (by omega) (.slice A7 m c7) m _ rfl (some ⟨w6.heap.size, 0, none⟩) 1 1 [.slice D rm rc] rfl rfl (fun _ => ⟨_, rfl, one_src hx7⟩) (by simp [Value.oneCell']) h7c B7.out.size (by omega) ?_); intro v8 w8 h8 t8; obtain ⟨A8, c8, rfl⟩ := own_slice h8; have HB8 := Lib.hid (below_turn B7.out t8 B7.out.size (fun i hi => own_ge h7c hi)); have HH8 := Lib.hid h8; clear h8 t8))
        all_goals
          have b8 := b6.trans (HB8.out.mono s6)
          have B8 := Lib.hid (B6.out.trans (HB8.out.mono B6.out.size))
          have HO8 := Lib.hid (HO6.out.below HB8.out)
          have HP8 := Lib.hid (HPG.out.1.below B8.out)
          have HR8 := Lib.hid (own_below HR6.out HB8.out)
          have HHl8 := Lib.hid (own_lower HH8.out s6)
          have k1 := HST.out _ _ ca HO8.out.rdp
          have k2 := HST.out _ _ cp HP8.out.rdp
          go_wp2_with (first
            | (exfalso; omega)
            | (go_at_call 35; refine (HMk.out _ _ _ b8 HR8.out).mono ?_; rintro e w10 ⟨B10, c10, rfl, hx10, b⟩; have b10 := b8.trans (b.mono b8.size); have HP10 := Lib.hid (HP8.out.below b); have HR10 := Lib.hid (own_below HR8.out b); have k3 := HST2.out _ _ cp HP10.out.rdp; have k4 := HST2.out _ _ c10 hx10; clear b hx10)
            | (go_at_call 36; refine (HCt.out _ _ HP10.out).mono ?_; rintro e w11 ⟨rfl, b⟩; have b11 := b10.trans (b.mono b10.size); have HP11 := Lib.hid (HP10.out.below b); have HR11 := Lib.hid (own_below HR10.out b); clear b)
            | (go_at_call 34; refine (HUs.out _ _ _ b11 HR11.out).mono ?_; rintro e w12 ⟨rfl, b⟩; have b12 := b11.trans (b.mono b11.size); have HP12 := Lib.hid (HP11.out.below b); have HR12 := Lib.hid (own_below HR11.out b); clear b)
            | (go_at_call 37; refine (HRm.out _ _ HP12.out).mono ?_; rintro e w13 ⟨rfl, b⟩; have b13 := b12.trans (b.mono b12.size); have HP13 := Lib.hid (HP12.out.below b); have HR13 := Lib.hid (own_below HR12.out b); clear b))
          all_goals first
            | (exfalso; omega)
            | skip
          all_goals go_roundw
        all_goals first
          | exact ⟨k + 1, m, ad, cp, B, C, _, _, by omega, by omega, by go_num, rfl, rfl, HLen.out, HP13.out, HR13.out, HPG.out.2.2.1, b13⟩
          | (simp [intOf]; done)
          | (simp [intOf]; omega)
    · go_wp2_with (go_at_call 30; refine (HLv.out _).mono ?_; rintro e w4 ⟨rfl, b4⟩)
      go_ret
      exact ⟨by trivial, bel.trans (b4.mono szr)⟩
end Go.Proofs.Ytlldkdhpilcilaa
