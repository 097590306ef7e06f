/- PageRoom. -/
import Derived.Test.YtlldkdhpilcilaaPReads
namespace Go.Proofs.Ytlldkdhpilcilaa
open Go.RowKit
set_option linter.unusedVariables false
set_option linter.unusedSimpArgs false

theorem plarge {w : World} {A : Option Addr} {n c : Nat} {hds : List Value} {rows : List (List V)} (hl : RdL w A n hds rows) :
    Calls Try.prog 29 #[.slice A n c] w fun e w' => ∃ b, e = .returned (.bool b) ∧ w' = w ∧ (b = false → n ≤ 600) := by
  have hn := hl.hd.2.1
  by_cases h3 : 600 < n
  · clear hl
    go_enter Try.func29, Try.ntmps29
    go_wp2
    go_ret
    exact ⟨true, rfl, rfl, by simp⟩
  · go_enter Try.func29, Try.ntmps29
    go_wp2
    go_loopw [3] (fun i wr => ∃ k : Nat, k ≤ n ∧ i = .int .i64 k ∧ wr = w) (fun i _ => n - (intOf i).toNat)
    case atStart => exact ⟨0, by omega, rfl, rfl⟩
    case round =>
      obtain ⟨k, hk, rfl, rfl⟩ := hrel
      by_cases hlt : k < n
      · obtain ⟨ad, B, m, cc, r, rfl, had, hrk, hdk, hcell, hrv⟩ := hl.at_ hlt
        have hm := hrv.max
        clear hl hrk hdk hrv
        by_cases h1 : 100 < m
        · go_wp2
          go_ret
          exact ⟨true, rfl, rfl, by simp⟩
        · go_wp2
          go_roundw
          case rel => exact ⟨k + 1, by omega, by go_num, by trivial⟩
          case measure => simp [intOf]; omega
      · clear hl
        go_wp2
        go_ret
        exact ⟨false, rfl, rfl, fun _ => by omega⟩
theorem psize {w : World} {A : Option Addr} {n c : Nat} {r : List V} (hr : RdV w A n r) (hok : rowOk r = true) : Calls Try.prog 46 #[.slice A n c] w fun e w' => e = .returned (.int .i64 (encR r).length) ∧ w' = w := by
  have hl := hr.len
  have hn32 : n ≤ 32 := by
    unfold rowOk at hok
    simp only [Bool.and_eq_true, decide_eq_true_eq] at hok
    omega
  have HO := Lib.hid hok
  have HL := Lib.hid hl
  clear hok hl
  go_enter Try.func46, Try.ntmps46
  go_wp2
  go_loopw [3, 4] (fun s i wr => ∃ k m : Nat, k ≤ n ∧ m ≤ 1 + 66 * k ∧ m = 1 + ((r.take k).flatMap encV).length ∧ s = .int .i64 m ∧ i = .int .i64 k ∧ wr = w) (fun _ i _ => n - (intOf i).toNat)
  case atStart => exact ⟨0, 1, by omega, by omega, rfl, rfl, rfl, rfl⟩
  case round =>
    obtain ⟨k, m, hk, hm, hme, rfl, rfl, rfl⟩ := hrel
    by_cases hlt : k < n
    · obtain ⟨ad, v, rfl, had, hv, hs, d0, d1, d2⟩ := hr.at_ (Below.refl _ _) hlt
      have hvo := rowOk_mem HO.out (List.mem_of_getElem? hv)
      have hf := flat_snoc hv
      have h66 := encV_length_le v hvo
      have hvo2 := hvo
      unfold vOk at hvo2
      have hk4 := of_decide_eq_true hvo2
      obtain ⟨vk, vn, vs⟩ := v
      dsimp only at hk4 d0 d1 d2 hs
      obtain ⟨g, hg⟩ : ∃ g, g = (encV ⟨vk, vn, vs⟩).length := ⟨_, rfl⟩
      have HF := Lib.hid (show m + g = 1 + ((r.take (k + 1)).flatMap encV).length by rw [hf, List.length_append, hme, hg]; omega)
      have hgs : (vk = 0 ∧ g = 1) ∨ (vk = 1 ∧ g = 2) ∨ (vk = 2 ∧ g = 8) ∨ (vk = 3 ∧ g = 2 + vs.size ∧ vs.size ≤ 64) := by
        rcases hk4 with ⟨rfl, _⟩ | ⟨rfl, _⟩ | ⟨rfl, _⟩ | ⟨rfl, _, h⟩
        · exact .inl ⟨rfl, by rw [hg]; simp [encV]⟩
        · exact .inr (.inl ⟨rfl, by rw [hg]; simp [encV]⟩)
        · exact .inr (.inr (.inl ⟨rfl, by rw [hg]; simp [encV, be7]⟩))
        · exact .inr (.inr (.inr ⟨rfl, by rw [hg]; simp [encV, bytesOf_length]; omega, h⟩))
      rw [← hg] at h66
      clear hr hv hvo hvo2 hk4 hf hg hme
      rcases hgs with ⟨rfl, rfl⟩ | ⟨rfl, rfl⟩ | ⟨rfl, rfl⟩ | ⟨rfl, rfl, h64⟩
      all_goals
        go_wp2
        go_roundw
      all_goals first
        | exact ⟨k + 1, _, by omega, by omega, HF.out, by go_num, by go_num, by trivial⟩
        | (simp [intOf]; done)
        | (simp [intOf]; omega)
    · obtain rfl : k = n := by omega
      have HX := Lib.hid (show m = (encR r).length by rw [List.take_of_length_le (by rw [HL.out]; omega)] at hme; rw [hme, encR, List.length_cons]; omega)
      clear hr hme
      go_wp2
      go_ret
      exact ⟨ret_int (by have := HX.out; omega), rfl⟩
theorem room_iff {g : Rows} {r : List V} : 256 < usedN (g ++ [r]) ↔ ¬ (encR r).length ≤ roomN g := by
  have h1 : 1 ≤ (encR r).length := by simp [encR]
  unfold usedN roomN
  rw [flat_append, List.length_append, List.length_append]
  have e1 : (flat [r]).length = (encR r).length := by simp [flat]
  rw [e1]
  simp only [List.length_cons, List.length_nil]
  omega
set_option maxHeartbeats 1000000 in
theorem PageRoom.walk {w : World} (A : Option Addr) (n c : Nat) (x : List Value × List (List V)) (hl : RdL w A n x.1 x.2) :
    Calls Try.prog 12 #[.slice A n c] w fun e w' => e = .returned (.bool true) ∧ Below w.heap.size w w' := by
  obtain ⟨hds, rows⟩ := x
  dsimp only at hl
  have hn9 := hl.hd.2.1
  have HLv := Lib.hid plives
  have HNew := Lib.hid pnew
  have HLg := Lib.hid (plarge (c := c) hl)
  have HL := Lib.hid hl
  clear hl
  go_enter Try.func12, Try.ntmps12
  go_wp2_with (first
    | (go_at_call 29; refine HLg.out.mono ?_; rintro e w1 ⟨b, rfl, hw, hb6⟩; obtain rfl := hw.symm; clear hw; have HB6 := Lib.hid hb6; clear hb6; cases b)
    | (go_at_call 30; refine (HLv.out _).mono ?_; rintro e w2 ⟨rfl, bz⟩)
    | (go_at_call 31; refine (HNew.out _).mono ?_; rintro e w3 ⟨rfl, hg3, b3⟩; have HG3 := Lib.hid (PgAt.new hg3); clear hg3))
  rotate_left
  · go_ret
    exact ⟨by trivial, bz⟩
  have hn6 := HB6.out (by trivial)
  go_loopw [3, 4] (fun q x wr => ∃ (k : Nat) (ad : Addr) (cp : Nat) (g : Rows), k ≤ n ∧ x = .int .i64 k ∧ q = .slice (some ad) 256 cp ∧ PgAt wr (.slice (some ad) 256 cp) g ∧ Below w.heap.size w wr) (fun _ x _ => n - (intOf x).toNat)
  case atStart => exact ⟨0, _, _, [], by omega, rfl, rfl, HG3.out, b3⟩
  case round =>
    clear b3
    obtain ⟨k, ad, cp, g, hk, rfl, rfl, hpg, bel⟩ := hrel
    have szr := bel.size
    by_cases hlt : k < n
    · obtain ⟨adl, D, rm, rc, r, rfl, had, hrk, hhk, hcell, hrv⟩ := HL.out.at_ hlt
      have HCell := Lib.hid (fun W (b : Below w.heap.size w W) => cell_belowv hcell b (by rw [add_block]; exact had))
      have hc0 := HCell.out _ bel
      have HPG := Lib.hid (And.intro hpg bel)
      obtain ⟨R, hR⟩ : ∃ R, R = roomN g := ⟨_, rfl⟩
      have HRm := h_room hpg
      rw [← hR] at HRm
      have HRm := Lib.hid HRm
      have hR5 : R ≤ 256 := by rw [hR]; unfold roomN; omega
      clear hcell hhk hpg
      by_cases hm : mayE r = 0
      · have hz := mayE_zero hm
        obtain ⟨E, hE⟩ : ∃ E, E = (encR r).length := ⟨_, rfl⟩
        have HSz := fun W (b : Below w.heap.size w W) => psize (c := rc) (hrv.below b) hz.1
        rw [← hE] at HSz
        have HSz := Lib.hid HSz
        have hE5 : E ≤ 253 := by rw [hE]; exact hz.2
        by_cases hu : 256 < usedN (g ++ [r])
        · have hER : ¬ E ≤ R := by rw [hE, hR]; exact room_iff.1 hu
          have HC := Lib.hid (fun W (b : Below w.heap.size w W) (H : PgAt W (.slice (some ad) 256 cp) g) => held_full (cc := rc) H (hrv.below b) hm hu)
          clear hm hz hrk hrv hu hE hR
          go_wp2_with (first
            | (go_at_call 37; refine HRm.out.mono ?_; rintro e w4 ⟨rfl, b⟩; have b4 := HPG.out.2.trans (b.mono szr); have HP4 := Lib.hid (HPG.out.1.below b); have hc4 := HCell.out _ b4; clear b)
            | (go_at_call 32; refine (HC.out _ b4 HP4.out).mono ?_; rintro e w5 ⟨rfl, b⟩; have b5 := b4.trans (b.mono b4.size); have HP5 := Lib.hid (HP4.out.below b); have hc5 := HCell.out _ b5; clear b)
            | (go_at_call 46; refine (HSz.out _ b5).mono ?_; rintro e w6 ⟨rfl, hw⟩; obtain rfl := hw.symm; clear hw))
          all_goals first
            | (exfalso; omega)
            | skip
          go_roundw
          case rel => exact ⟨k + 1, ad, cp, g, by omega, by go_num, rfl, HP5.out, b5⟩
          case measure => simp [intOf]; omega
        · have hER : E ≤ R := by rw [hE, hR]; exact Classical.not_not.1 (fun h => hu (room_iff.2 h))
          have HC := Lib.hid (fun W (b : Below w.heap.size w W) (H : PgAt W (.slice (some ad) 256 cp) g) => held_yes (cc := rc) H (hrv.below b) hm hu)
          clear hm hz hrk hrv hu hE hR
          go_wp2_with (first
            | (go_at_call 37; refine HRm.out.mono ?_; rintro e w4 ⟨rfl, b⟩; have b4 := HPG.out.2.trans (b.mono szr); have HP4 := Lib.hid (HPG.out.1.below b); have hc4 := HCell.out _ b4; clear b)
            | (go_at_call 32; refine (HC.out _ b4 HP4.out).mono ?_; rintro e w5 ⟨ad5, c5, rfl, hp5, b⟩; have b5 := b4.trans (b.mono b4.size); have HP5 := Lib.hid hp5; have hc5 := HCell.out _ b5; clear b hp5)
            | (go_at_call 46; refine (HSz.out _ b5).mono ?_; rintro e w6 ⟨rfl, hw⟩; obtain rfl := hw.symm; clear hw))
          all_goals first
            | (exfalso; omega)
            | skip
          go_roundw
          case rel => exact ⟨k + 1, ad5, c5, _, by omega, by go_num, rfl, HP5.out, b5⟩
          case measure => simp [intOf]; omega
      · have hE20 : mayE r = 20 ∨ mayE r = 3 := by
          unfold mayE at hm ⊢
          split
          · exact .inl rfl
          · split
            · exact .inr rfl
            · next h1 h2 => rw [if_neg h1, if_neg h2] at hm; exact absurd rfl hm
        have HC := fun W (b : Below w.heap.size w W) (H : PgAt W (.slice (some ad) 256 cp) g) => held_no (cc := rc) H (hrv.below b) hm
        obtain ⟨E, hE⟩ : ∃ E, E = mayE r := ⟨_, rfl⟩
        rw [← hE] at HC hE20
        clear hm hrk hrv hR hE
        rcases hE20 with rfl | rfl
        all_goals
          have HC := Lib.hid HC
          go_wp2_with (first
            | (go_at_call 37; refine HRm.out.mono ?_; rintro e w4 ⟨rfl, b⟩; have b4 := HPG.out.2.trans (b.mono szr); have HP4 := Lib.hid (HPG.out.1.below b); have hc4 := HCell.out _ b4; clear b)
            | (go_at_call 32; refine (HC.out _ b4 HP4.out).mono ?_; rintro e w5 ⟨rfl, b⟩; have b5 := b4.trans (b.mono b4.size); have HP5 := Lib.hid (HP4.out.below b); clear b))
          go_roundw
        all_goals first
          | exact ⟨k + 1, ad, cp, g, by omega, by go_num, rfl, HP5.out, b5⟩
          | (simp [intOf]; done)
          | (simp [intOf]; omega)
    · go_wp2_with (go_at_call 30; refine (HLv.out _).mono ?_; rintro e w4 ⟨rfl, b4⟩)
      go_ret
      exact ⟨by trivial, bel.trans (b4.mono szr)⟩
end Go.Proofs.Ytlldkdhpilcilaa
