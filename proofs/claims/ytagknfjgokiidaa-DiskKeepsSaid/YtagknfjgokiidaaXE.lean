/- the document's disk: Read. -/
import Derived.Test.YtagknfjgokiidaaXD
namespace Go.Proofs.Ytagknfjgokiidaa
open Go.RowKit
set_option linter.unusedVariables false
set_option linter.unusedSimpArgs false
set_option maxRecDepth 6000

theorem lit_row (W : World) (e : TypeId) {N : Nat} (h : N = W.heap.size) : (W.alloc (.cells #[] e)).ownsRow N e 1 (.slice (some ⟨N, 0, none⟩) 0 0) 0 [] := by
  subst h
  exact World.ownsRow_lit (base := W.heap.size) (e := e) (size := 1) W #[] 0 (Nat.le_refl _) (by simp [maxLen]) (by simp)
section
variable {w : World} {bx : Nat} {FV LV : Value} {P : Int → Value} {Hd : Int → List Value} {R : Int} {F : List Int} {s : Ds}
theorem xread_no (H : Rsk w bx FV LV P Hd R F s) (hl : s.fs.length ≤ 32768) {n k : Int} (hf : s.find n = none ∨ k < 0) :
    Calls Try.prog 39 #[dp bx, .int .i64 n, .int .i64 k] w fun e w' => e = .returned (.tuple #[.slice none 0 0, .int .i64 4]) ∧ w' = w := by
  have HA := xat H hl n
  by_cases hk : k < 0
  · obtain ⟨a, ha⟩ : ∃ a, a = s.at_ n := ⟨_, rfl⟩
    rw [← ha] at HA
    have HA := Lib.hid HA
    by_cases h0 : a < 0
    · clear H hf ha
      go_enter Try.func39, Try.ntmps39
      go_wp2_with (go_at_call 41; refine HA.out.mono ?_; rintro e w1 ⟨rfl, hw⟩; obtain rfl := hw.symm; clear hw)
      go_ret2
      exact ⟨by trivial, rfl⟩
    · clear H hf ha
      go_enter Try.func39, Try.ntmps39
      go_wp2_with (go_at_call 41; refine HA.out.mono ?_; rintro e w1 ⟨rfl, hw⟩; obtain rfl := hw.symm; clear hw)
      go_ret2
      exact ⟨by trivial, rfl⟩
  · have hn : s.find n = none := hf.elim id (fun h => absurd h hk)
    rw [Ds.at_none hn] at HA
    have HA := Lib.hid HA
    clear H hf hn
    go_enter Try.func39, Try.ntmps39
    go_wp2_with (go_at_call 41; refine HA.out.mono ?_; rintro e w1 ⟨rfl, hw⟩; obtain rfl := hw.symm; clear hw)
    go_ret2
    exact ⟨by trivial, rfl⟩
theorem xread_long (H : Rsk w bx FV LV P Hd R F s) (hl : s.fs.length ≤ 32768) {n k : Int} {l : List Pg} (hf : s.find n = some l) (hk0 : 0 ≤ k) (hk : (l.length : Int) ≤ k) :
    Calls Try.prog 39 #[dp bx, .int .i64 n, .int .i64 k] w fun e w' => e = .returned (.tuple #[.slice none 0 0, .int .i64 4]) ∧ w' = w := by
  have HA := xat H hl n
  obtain ⟨i, hi, hx⟩ := Ds.at_some hf
  rw [hi] at HA
  have HA := Lib.hid HA
  obtain ⟨c0, c1, c2, c3, c4, c5, c6, c7, c8, hb⟩ := H.cells
  obtain ⟨g, c, e⟩ := H.shapeL hx
  have hil := (List.getElem?_eq_some_iff.1 hx).1
  have hc := (H.cellL e hx).1
  obtain ⟨A, cA, eP⟩ := own_slice (H.prow _ (List.mem_of_getElem? hx))
  dsimp only at hc eP
  rw [eP] at hc
  rw [e] at c2
  obtain ⟨m, hm⟩ : ∃ m, m = s.fs.length := ⟨_, rfl⟩
  rw [← hm] at c2 hl hil
  clear H hf hi hx e eP hm
  go_enter Try.func39, Try.ntmps39
  go_wp2_with (go_at_call 41; refine HA.out.mono ?_; rintro e w1 ⟨rfl, hw⟩; obtain rfl := hw.symm; clear hw)
  go_ret2
  exact ⟨by trivial, rfl⟩
theorem xdeed_at (H : Rsk w bx FV LV P Hd R F s) (K : DOk R s) (hd : s.deeds ≤ 1000000000) (hF : F.length ≤ 9223372036854775807) {b : Bool} (hb : F.contains (s.deeds + 1) = b) :
    Calls Try.prog 51 #[dp bx] w fun e w' => e = .returned (.bool (!b)) ∧ XDeed w bx FV LV P Hd R F s w' := by
  have := xdeed H (by have := K.acts; omega) hd hF
  rw [hb] at this
  exact this
theorem xread_fault (H : Rsk w bx FV LV P Hd R F s) (K : DOk R s) (hd : s.deeds ≤ 1000000000) (hF : F.length ≤ 9223372036854775807) {n k : Int} {l : List Pg} (hf : s.find n = some l) (hk0 : 0 ≤ k) (hk : k < (l.length : Int)) (hc : F.contains (s.deeds + 1) = true) :
    Calls Try.prog 39 #[dp bx, .int .i64 n, .int .i64 k] w fun e w' => e = .returned (.tuple #[.slice none 0 0, .int .i64 50]) ∧ Ch w (XS bx FV LV P Hd s) (XR bx R F s.deed_) w' := by
  have hl := K.len
  have HA := xat H hl n
  obtain ⟨i, hi, hx⟩ := Ds.at_some hf
  rw [hi] at HA
  have HA := Lib.hid HA
  have HD := Lib.hid ((xdeed_at H K hd hF hc).mono fun e w' h => (⟨h.1, h.2.ch⟩ : e = .returned (.bool false) ∧ Ch w (XS bx FV LV P Hd s) (XR bx R F s.deed_) w'))
  obtain ⟨c0, c1, c2, c3, c4, c5, c6, c7, c8, hb⟩ := H.cells
  obtain ⟨g, c, e⟩ := H.shapeL hx
  have hil := (List.getElem?_eq_some_iff.1 hx).1
  have hcl := (H.cellL e hx).1
  obtain ⟨A, cA, eP⟩ := own_slice (H.prow _ (List.mem_of_getElem? hx))
  dsimp only at hcl eP
  rw [eP] at hcl
  rw [e] at c2
  obtain ⟨m, hm⟩ : ∃ m, m = s.fs.length := ⟨_, rfl⟩
  rw [← hm] at c2 hl hil
  clear H hf hi hx e eP hm K hc
  go_enter Try.func39, Try.ntmps39
  go_wp2_with (first
    | (go_at_call 41; refine HA.out.mono ?_; rintro e w1 ⟨rfl, hw⟩; obtain rfl := hw.symm; clear hw)
    | (go_at_call 51; refine HD.out.mono ?_; rintro e w1 ⟨rfl, hp⟩; have HP := Lib.hid hp; clear hp))
  go_ret2
  exact ⟨by trivial, HP.out⟩
set_option maxHeartbeats 1000000 in
theorem xread_ok (H : Rsk w bx FV LV P Hd R F s) (K : DOk R s) (hd : s.deeds ≤ 1000000000) (hF : F.length ≤ 9223372036854775807) {n : Int} {j : Nat} {l : List Pg} {p : Pg} (hf : s.find n = some l) (hk : l[j]? = some p) (hc : F.contains (s.deeds + 1) = false) :
    Calls Try.prog 39 #[dp bx, .int .i64 n, .int .i64 (j : Int)] w fun e w' => ∃ v : Option Addr × Nat, e = .returned (.tuple #[.slice v.1 256 v.2, .int .i64 0]) ∧ Ch w (XS bx FV LV P Hd s) (star (XR bx R F ⟨s.made, s.deeds + 1, s.reads + 1, s.writes, s.used, s.peak, s.fs⟩) (rowR 5 1 (.slice v.1 256 v.2) 256 (b8 p))) w' := by
  have hl := K.len
  have HA := xat H hl n
  obtain ⟨i, hi, hx⟩ := Ds.at_some hf
  rw [hi] at HA
  have HA := Lib.hid HA
  have hjl := (List.getElem?_eq_some_iff.1 hk).1
  have hlp := pagesN_mem (List.mem_of_getElem? hx)
  rw [← K.cnt] at hlp
  have hus := K.used
  have hrm := K.room
  dsimp only at hlp
  have hac := K.acts
  have hpl := (K.pgs _ (List.mem_of_getElem? hx) p (List.mem_of_getElem? hk)).1
  have HD := Lib.hid ((xdeed_at H K hd hF hc).mono fun e w' h => (⟨h.1, h.2⟩ : e = .returned (.bool true) ∧ XDeed w bx FV LV P Hd R F s w'))
  obtain ⟨c0, c1, c2, c3, c4, c5, c6, c7, c8, hb⟩ := H.cells
  obtain ⟨g, c, e⟩ := H.shapeL hx
  have hil := (List.getElem?_eq_some_iff.1 hx).1
  obtain ⟨g2, cA, ad, cB, eP, eH⟩ := H.shapeP (List.mem_of_getElem? hx) hk
  have hcl := (H.cellL e hx).1
  dsimp only at hcl eP eH
  rw [eP] at hcl
  rw [e] at c2
  have HC := Lib.hid (fun W (h : Rsk W bx FV LV P Hd R F ⟨s.made, s.deeds + 1, s.reads + 1, s.writes, s.used, s.peak, s.fs⟩) => show W.cell? ⟨bx, 2, none⟩ = some (.slice (some ⟨g, 0, none⟩) s.fs.length c) ∧ W.cell? ⟨g, i * 2 + 1, none⟩ = some (.slice (some ⟨g2, 0, none⟩) l.length cA) ∧ W.cell? ⟨g2, j, none⟩ = some (.slice (some ad) 256 cB) ∧ At8 W ad p from by
    have h1 := h.cells.2.2.1
    rw [e] at h1
    have h2 := (h.cellL (x := (n, l)) e hx).1
    dsimp only at h2
    rw [eP] at h2
    have h3 := h.cellP (x := (n, l)) (List.mem_of_getElem? hx) hk eP eH
    exact ⟨h1, h2, h3.1, h3.2⟩)
  have HH := Lib.hid H
  obtain ⟨m, hm⟩ : ∃ m, m = s.fs.length := ⟨_, rfl⟩
  obtain ⟨q, hq⟩ : ∃ q, q = l.length := ⟨_, rfl⟩
  rw [← hm] at c2 hl hil HC
  rw [← hq] at hcl HC hjl hlp
  have HPL := Lib.hid hpl
  have hr0 := hac.1
  have hr1 : s.reads ≤ 1000000000 := by omega
  clear H hf hi hx e eP eH hm hq K hc hk hpl hus hrm hac
  go_enter Try.func39, Try.ntmps39
  go_wp2_with (first
    | (go_at_call 41; refine HA.out.mono ?_; rintro e w1 ⟨rfl, hw⟩; obtain rfl := hw.symm; clear hw)
    | (go_at_call 51; refine HD.out.mono ?_; rintro e w1 ⟨rfl, hp⟩; have HP := Lib.hid hp; clear hp; have k5 := HP.out.1.cells.2.2.2.2.2.1; have f5 := HP.out.1.frees 5; dsimp only [Ds.deed_] at k5; have HT1 : Hid (Turn (fun k => k = bx) w1 (w1.setCell ⟨bx, 5, none⟩ (.int .i64 (s.reads + 1)))) := (Turn.refl (fun k => k = bx) w1).cell bx 5 _ rfl; have H2 : Hid (Rsk (w1.setCell ⟨bx, 5, none⟩ (.int .i64 (s.reads + 1))) bx FV LV P Hd R F ⟨s.made, s.deeds + 1, s.reads + 1, s.writes, s.used, s.peak, s.fs⟩) := HP.out.1.upd HT1.out (blk_set HP.out.1.dsk 5 _) rfl; have H3 := Lib.hid (H2.out.turn ((Turn.refl (fun _ => False) (w1.setCell ⟨bx, 5, none⟩ (.int .i64 (s.reads + 1)))).alloc (.cells #[] 5)) (fun _ _ => id)); obtain ⟨z1, z2, z3, z4⟩ := HC.out _ H3.out; have Z4 := Lib.hid z4; clear z4; have ho := Lib.hid (lit_row (w1.setCell ⟨bx, 5, none⟩ (.int .i64 (s.reads + 1))) 5 (N := w1.heap.size) (by simp [World.setCell])))
    | (at_builtin; refine wp_appendL w1.heap.size rfl (.tmp 43) (.tmp 54) 31 5 (.int .u8 0) 1 1 rfl Try.underlying31 inf8 rfl (by omega) (by omega) (.slice (some ⟨w1.heap.size, 0, none⟩) 0 0) 0 [] rfl (some ad) 256 cB (b8 p) rfl (by rw [List.length_map]; exact HPL.out) (fun _ => ⟨ad, rfl, Z4.out.2⟩) (by intro u hu; obtain ⟨x, _, rfl⟩ := List.mem_map.1 hu; rfl) ho.out (by simp) (by omega) ?_; intro v3 w3 h3 t3 _; rw [Nat.zero_add, List.nil_append] at h3; obtain ⟨A3, c3, rfl⟩ := own_slice h3; have HO3 := Lib.hid h3; have HT3 := Lib.hid t3; clear h3 t3))
  go_ret2
  have hz : w.heap.size ≤ w1.heap.size := HP.out.2.size
  have tA : Turn (fun k => (Value.slice (some ⟨w1.heap.size, 0, none⟩) 0 0).ownBlock = some k) ((w1.setCell ⟨bx, 5, none⟩ (.int .i64 (s.reads + 1))).alloc (.cells #[] 5)) w3 := HT3.out
  have hb3 : Below (w1.setCell ⟨bx, 5, none⟩ (.int .i64 (s.reads + 1))).heap.size (w1.setCell ⟨bx, 5, none⟩ (.int .i64 (s.reads + 1))) w3 :=
    below_turn ((Below.refl _ _).alloc (Nat.le_refl _) _) tA (by simp) (fun k hk => by simp [Value.ownBlock] at hk; simp [World.setCell]; omega)
  have H4 : Rsk w3 bx FV LV P Hd R F ⟨s.made, s.deeds + 1, s.reads + 1, s.writes, s.used, s.peak, s.fs⟩ := H2.out.turn (Turn.of_below hb3 (fun _ => False)) (fun _ _ => id)
  have HT := (HP.out.2.then_ HT1.out (fun k hk => .inl hk)).then_ (Turn.of_below hb3 (fun _ => False)) (fun _ h => h.elim)
  refine ⟨(A3, c3), by trivial, fun k => XS bx FV LV P Hd s k ∨ (Value.slice A3 256 c3).ownBlock = some k, ⟨_, _, ⟨FV, LV, P, Hd, H4, rfl⟩, ⟨own_lower HO3.out (Nat.zero_le _), rfl⟩, ?_, fun k => Iff.rfl⟩, HT.mono (fun k hk => .inl hk), ?_⟩
  · intro k hk hk2
    have h1 := HH.out.lt k hk
    have h2 := own_ge HO3.out hk2
    omega
  · rintro k (hk | hk)
    · exact .inl hk
    · have h2 := own_ge HO3.out hk
      exact .inr (by omega)
end
end Go.Proofs.Ytagknfjgokiidaa
