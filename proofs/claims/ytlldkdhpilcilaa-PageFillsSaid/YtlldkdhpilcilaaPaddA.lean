/- page.New, Room, fits, Clone. -/
import Derived.Test.YtlldkdhpilcilaaPgw
import Derived.Laws.CopyOwn
import Derived.Lib.SliceRun
namespace Go.Proofs.Ytlldkdhpilcilaa
open Go.RowKit
set_option linter.unusedVariables false
set_option linter.unusedSimpArgs false

set_option maxRecDepth 6000 in
theorem pnew (w : World) : Calls Try.prog 31 #[] w fun e w' => e = .returned (.slice (some ⟨w.heap.size, 0, none⟩) 256 256) ∧ w'.heap[w.heap.size]? = some (.cells (u8s (List.replicate 256 0)).toArray 5 (0, 0)) ∧ Below w.heap.size w w' := by
  have info8 := info_u8
  go_enter Try.func31, Try.ntmps31
  go_wp2_with (at_make; refine wp_makeN rfl (.const (.int .i64 256)) 23 5 (.int .u8 0) 1 rfl Try.underlying23 info8 rfl 256 rfl (by omega) (by omega) ?_)
  go_ret
  refine ⟨rfl, ?_, (Below.refl _ _).alloc (Nat.le_refl _) _⟩
  rw [heap_alloc_new, u8s, List.map_replicate]
  rfl
section
variable {w : World} {A C : Option Addr} {n c m cc : Nat} {p : List Int} {r : List V}
theorem fits_bad (hr : RdV w C m r) (hk : rowOk r = false) : Calls Try.prog 56 #[.slice C m cc] w fun e w' => e = .returned (.tuple #[.slice none 0 0, .int .i64 20]) ∧ Below w.heap.size w w' := by
  have H := Lib.hid (rput_bad (c := cc) r hr hk)
  clear hr hk
  go_enter Try.func56, Try.ntmps56
  go_wp2_with (go_at_call 48; refine H.out.mono ?_; rintro e w1 ⟨rfl, b1⟩)
  go_ret2
  exact ⟨by trivial, b1⟩
theorem fits_long (hr : RdV w C m r) (hk : rowOk r = true) (hl : 253 < (encR r).length) : Calls Try.prog 56 #[.slice C m cc] w fun e w' => e = .returned (.tuple #[.slice none 0 0, .int .i64 3]) ∧ Below w.heap.size w w' := by
  have H := rput_ok (c := cc) r hr hk
  obtain ⟨k, hkk⟩ : ∃ k, k = (encR r).length := ⟨_, rfl⟩
  rw [← hkk] at H hl
  have H := Lib.hid H
  clear hr hk hkk
  go_enter Try.func56, Try.ntmps56
  go_wp2_with (go_at_call 48; refine H.out.mono ?_; rintro e w1 ⟨v, rfl, ho, b1⟩; obtain ⟨B, c', rfl⟩ := own_slice ho; clear ho)
  go_ret2
  exact ⟨by trivial, b1⟩
theorem fits_ok (hr : RdV w C m r) (hk : rowOk r = true) (hl : (encR r).length ≤ 253) : Calls Try.prog 56 #[.slice C m cc] w fun e w' => ∃ B c', e = .returned (.tuple #[.slice B (encR r).length c', .int .i64 0]) ∧ w'.ownsRow w.heap.size 5 1 (.slice B (encR r).length c') (encR r).length (u8s (encR r)) ∧ Below w.heap.size w w' := by
  have H := rput_ok (c := cc) r hr hk
  obtain ⟨E, hE⟩ : ∃ E, E = encR r := ⟨_, rfl⟩
  obtain ⟨k, hkk⟩ : ∃ k, k = E.length := ⟨_, rfl⟩
  rw [← hE, ← hkk] at H hl ⊢
  have H := Lib.hid H
  clear hr hk hkk hE
  go_enter Try.func56, Try.ntmps56
  go_wp2_with (go_at_call 48; refine H.out.mono ?_; rintro e w1 ⟨v, rfl, ho, b1⟩; obtain ⟨B, c', rfl⟩ := own_slice ho; have G := Lib.hid (And.intro ho b1); clear ho b1)
  go_ret2
  exact ⟨_, _, by trivial, G.out⟩
theorem scanS_len {p : List Int} {x : List (List V) × Nat} (h : scanS p = some x) : p.length = 256 := by
  unfold scanS at h
  split at h
  · next hc => exact hc.1
  · cases h
def roomN (rows : List (List V)) : Nat := 256 - 2 * (rows.length + 1) - (1 + (flat rows).length)
theorem proom_no (h : RdB w A n c p) (hs : scanS p = none) : Calls Try.prog 37 #[.slice A n c] w fun e w' => e = .returned (.int .i64 0) ∧ Below w.heap.size w w' := by
  have H := Lib.hid (scan_none h hs)
  clear h hs
  go_enter Try.func37, Try.ntmps37
  go_wp2_with (go_at_call 55; refine H.out.mono ?_; rintro e w1 ⟨rfl, b1⟩)
  go_ret
  exact ⟨by trivial, b1⟩
set_option maxRecDepth 6000 in
theorem proom_yes (h : RdB w A n c p) {rows : List (List V)} (hp : PG p rows) (hok : ∀ r ∈ rows, rowOk r = true) : Calls Try.prog 37 #[.slice A n c] w fun e w' => e = .returned (.int .i64 (roomN rows)) ∧ Below w.heap.size w w' := by
  have H := scan_some h (scanS_compl h.isb hp hok)
  have hn : n = 256 := by rw [← hp.len]; simpa using h.rd.1.symm
  have hu := hp.fit
  unfold usedN at hu
  have HX := Lib.hid (show (roomN rows : Int) = max 0 (256 - 2 * ((rows.length : Int) + 1) - ((1 + (flat rows).length : Nat) : Int)) by unfold roomN; omega)
  obtain ⟨a, ha⟩ : ∃ a, a = 1 + (flat rows).length := ⟨_, rfl⟩
  obtain ⟨k, hk⟩ : ∃ k, k = rows.length := ⟨_, rfl⟩
  rw [← ha] at H hu HX
  rw [← hk] at H hu HX
  have H := Lib.hid H
  subst hn
  clear h hp hok ha hk
  go_enter Try.func37, Try.ntmps37
  go_wp2_with (go_at_call 55; refine H.out.mono ?_; rintro e w1 ⟨B, c', hds, rfl, _, _, b1⟩)
  all_goals first
    | (exfalso; omega)
    | (go_ret; exact ⟨by rw [HX.out]; rfl, b1⟩)
set_option maxRecDepth 6000 in
theorem pclone {w : World} {ad : Addr} (h : RdB w (some ad) n c p) (hn : n ≤ 100000) : Calls Try.prog 57 #[.slice (some ad) n c] w fun e w' => ∃ v, e = .returned v ∧ w'.ownsRow w.heap.size 5 1 v n (u8s p) ∧ Below w.heap.size w w' := by
  have b0 : Below w.heap.size w (w.alloc (.cells #[] 5)) := (Below.refl _ _).alloc (Nat.le_refl _) _
  have ho := World.ownsRow_lit (base := w.heap.size) (e := 5) (size := 1) w #[] 0 (Nat.le_refl _) (by simp [maxLen]) (by simp)
  have hrd := h.rd.below b0
  have hl : p.length = n := by simpa using h.rd.1
  have HR := Lib.hid (And.intro ho (And.intro hrd (And.intro hl b0)))
  have hcmp := fun (t : TypeId) (h : Try.prog.underlying t = some (.slice 5)) => Go.Lib.run_eql_slice_nil (P := Try.prog) w t 5 (some ad) n c 0 0 h
  have hcmp := hcmp 23 Try.underlying23
  clear h b0 ho hrd hl
  go_enter Try.func57, Try.ntmps57
  go_wp2_with (at_builtin; refine wp_appendL w.heap.size rfl (.tmp 5) (.tmp 6) 23 5 (.int .u8 0) 1 1 rfl Try.underlying23 info_u8 rfl (by omega) (by omega) (.slice (some ⟨w.heap.size, 0, none⟩) 0 0) 0 [] rfl (some ad) n c (u8s p) rfl (by simp [HR.out.2.2.1]) (fun h => by obtain ⟨ad, e, _, hc⟩ := HR.out.2.1.2.2 h; exact ⟨ad, e, hc⟩) (by intro u hu; obtain ⟨x, _, rfl⟩ := List.mem_map.1 hu; rfl) HR.out.1 (by simp) (by omega) ?_; intro v1 w1 h1 t1 _)
  go_ret
  exact ⟨_, rfl, by simpa using h1, below_turn HR.out.2.2.2 t1 (by simp) (fun k hk => by simp [Value.ownBlock] at hk; omega)⟩
end
end Go.Proofs.Ytlldkdhpilcilaa
namespace Go.Proofs.Ytlldkdhpilcilaa
open Go.RowKit
set_option linter.unusedVariables false
set_option linter.unusedSimpArgs false

def AddPost (w : World) (p : List Int) (rows : List (List V)) (r : List V) (e : Ending) (w' : World) : Prop :=
  (if rowOk r = false then e = .returned (.tuple #[.slice none 0 0, .int .i64 20])
   else if 253 < (encR r).length then e = .returned (.tuple #[.slice none 0 0, .int .i64 3])
   else if 256 < usedN (rows ++ [r]) then e = .returned (.tuple #[.slice none 0 0, .int .i64 2])
   else ∃ ad c, e = .returned (.tuple #[.slice (some ad) 256 c, .int .i64 0]) ∧ w'.ownsRow w.heap.size 5 1 (.slice (some ad) 256 c) 256 (u8s (addP p (1 + (flat rows).length) (encR r)))) ∧ Below w.heap.size w w'
section
variable {w : World} {ad : Addr} {C : Option Addr} {c m cc : Nat} {p : List Int} {rows : List (List V)} {r : List V}
theorem add_err (h : RdB w (some ad) 256 c p) (hp : PG p rows) (hok : ∀ r ∈ rows, rowOk r = true) {E : Int} (hE : E ≠ 0)
    (hf : ∀ w1, Below w.heap.size w w1 → Calls Try.prog 56 #[.slice C m cc] w1 fun e w' => e = .returned (.tuple #[.slice none 0 0, .int .i64 E]) ∧ Below w1.heap.size w1 w') :
    Calls Try.prog 32 #[.slice (some ad) 256 c, .slice C m cc] w fun e w' => e = .returned (.tuple #[.slice none 0 0, .int .i64 E]) ∧ Below w.heap.size w w' := by
  have H := Lib.hid (scan_some h (scanS_compl h.isb hp hok))
  have HF := Lib.hid hf
  have hE2 : (E != 0) = true := by simpa using hE
  clear h hp hok hf
  go_enter Try.func32, Try.ntmps32
  go_wp2_with (first
    | (go_at_call 55; refine H.out.mono ?_; rintro e w1 ⟨B, c', hds, rfl, _, _, b1⟩)
    | (go_at_call 56; refine (HF.out _ b1).mono ?_; rintro e w2 ⟨rfl, b2⟩))
  go_ret2
  exact ⟨by trivial, b1.trans (b2.mono b1.size)⟩
set_option maxRecDepth 6000 in
theorem add_full (h : RdB w (some ad) 256 c p) (hp : PG p rows) (hok : ∀ r ∈ rows, rowOk r = true) (hr : RdV w C m r) (hk : rowOk r = true) (hl : (encR r).length ≤ 253) (hu : 256 < usedN (rows ++ [r])) :
    Calls Try.prog 32 #[.slice (some ad) 256 c, .slice C m cc] w fun e w' => e = .returned (.tuple #[.slice none 0 0, .int .i64 2]) ∧ Below w.heap.size w w' := by
  have H := scan_some h (scanS_compl h.isb hp hok)
  have hf := hp.fit
  unfold usedN at hu hf
  rw [flat_append, List.length_append, List.length_append] at hu
  have e1 : (flat [r]).length = (encR r).length := by simp [flat]
  rw [e1] at hu
  replace hu : 256 < (1 + (flat rows).length) + (encR r).length + 2 * (rows.length + 1) := by simp only [List.length_cons, List.length_nil] at hu; omega
  have HF := fun w1 (b : Below w.heap.size w w1) => fits_ok (cc := cc) (hr.below b) hk hl
  obtain ⟨E, hE⟩ : ∃ E, E = encR r := ⟨_, rfl⟩
  obtain ⟨a, ha⟩ : ∃ a, a = 1 + (flat rows).length := ⟨_, rfl⟩
  obtain ⟨k, hkk⟩ : ∃ k, k = rows.length := ⟨_, rfl⟩
  obtain ⟨n, hn⟩ : ∃ n, n = E.length := ⟨_, rfl⟩
  rw [← hE, ← hn] at HF
  rw [← hE, ← hn] at hl hu
  rw [← ha] at H hu hf
  rw [← hkk] at H hu hf
  have H := Lib.hid H
  have HF := Lib.hid HF
  have hd : ((256 : Int) - 2 * ((k : Int) + 1) < (a : Int) + n) := by omega
  have hk5 : ¬ ((255 : Int) ≤ k) := by omega
  clear h hp hok hr hk hE ha hkk hn e1
  go_enter Try.func32, Try.ntmps32
  go_wp2_with (first
    | (exfalso; omega)
    | (go_at_call 55; refine H.out.mono ?_; rintro e w1 ⟨B, c', hds, rfl, _, _, b1⟩)
    | (go_at_call 56; refine (HF.out _ b1).mono ?_; rintro e w2 ⟨D, cd, rfl, _, b2⟩))
  all_goals first
    | (exfalso; omega)
    | (go_ret2; exact ⟨by trivial, b1.trans (b2.mono b1.size)⟩)
theorem add_cells {L : List Value} {p E : List Int} {a k : Nat} (hL : L.take 256 = u8s p) (hp : p.getD 0 0 = (k : Int)) (ha : 1 ≤ a) (hfit : a + E.length + 2 * (k + 1) ≤ 256) :
    (((splice (L.set 0 (.int .u8 ((k : Int) + 1))) a (u8s E)).set (256 - 2 * (k + 1)) (.int .u8 ((a / 256 : Nat) : Int))).set (256 - 2 * (k + 1) + 1) (.int .u8 ((a % 256 : Nat) : Int))).take 256 = u8s (addP p a E) := by
  have hl : (u8s E).length = E.length := by simp
  have hsp : (splice (L.set 0 (.int .u8 ((k : Int) + 1))) a (u8s E)).take 256 = ((u8s p).set 0 (.int .u8 ((k : Int) + 1))).take a ++ u8s E ++ (u8s p).drop (a + E.length) := by
    unfold splice
    rw [← hL, hl, ← List.append_assoc]
    have e1 : ((L.set 0 (Value.int .u8 ((k : Int) + 1))).take a ++ u8s E) = (((L.take 256).set 0 (.int .u8 ((k : Int) + 1))).take a ++ u8s E) := by
      rw [← List.take_set, List.take_take, Nat.min_eq_left (by omega)]
    rcases Nat.lt_or_ge L.length a with hs | hs
    · have hd1 : (L.set 0 (Value.int .u8 ((k : Int) + 1))).drop (a + E.length) = [] := List.drop_eq_nil_iff.2 (by rw [List.length_set]; omega)
      have hd2 : (L.take 256).drop (a + E.length) = [] := List.drop_eq_nil_iff.2 (by rw [List.length_take]; omega)
      rw [hd1, hd2, e1, List.append_nil]
      refine List.take_of_length_le ?_
      rw [List.length_append, List.length_take, hl]
      omega
    · have hlen : ((L.set 0 (Value.int .u8 ((k : Int) + 1))).take a ++ u8s E).length = a + E.length := by
        rw [List.length_append, List.length_take, List.length_set, hl]
        omega
      rw [List.take_append, hlen, List.take_of_length_le (by rw [hlen]; omega), e1]
      congr 1
      rw [List.drop_set_of_lt (by omega), List.drop_take]
  rw [List.take_set, List.take_set, hsp]
  unfold addP
  rw [hp, Int.toNat_natCast]
  simp only [u8s, List.map_set, List.map_append, List.map_take, List.map_drop]
  rw [show 256 - 2 * k - 2 = 256 - 2 * (k + 1) by omega]
theorem own_block {w : World} {base n : Nat} {v : Value} {xs : List Value} (h : w.ownsRow base 5 1 v n xs) (h0 : 0 < n) : ∃ g L cap, v = .slice (some ⟨g, 0, none⟩) n cap ∧ base ≤ g ∧ w.heap[g]? = some (.cells (List.toArray L) 5 (0, 0)) ∧ n ≤ cap ∧ cap ≤ maxLen ∧ L.length = cap ∧ L.take n = xs := by
  rcases h.2 with ⟨rfl, h⟩ | ⟨g, cap, cur, rfl, h1, h2, h3, h4, h5, h6⟩
  · omega
  · exact ⟨g, cur.toList, cap, rfl, h1, by simpa using h2, h3, h4, by simpa using h5, by simpa using h6⟩
theorem take_get {L : List Value} {p : List Int} {N j : Nat} (h : L.take N = u8s p) (hj : j < N) (hp : p.length = N) : L[j]? = some (.int .u8 (p.getD j 0)) := by
  have : (L.take N)[j]? = L[j]? := List.getElem?_take_of_lt hj
  rw [← this, h]
  exact getD_map 0 (by omega)
theorem copy_src {w3 : World} {g n : Nat} {D : Option Addr} {E : List Int} (hD : Rd1 w3 D n (u8s E)) (hne : ∀ ad, D = some ad → ad.block ≠ g) (h0 : 0 < (u8s E).length) (v : Value) : ∃ ad, D = some ad ∧ ∀ j u, (u8s E)[j]? = some u → (w3.setCell ⟨g, 0, none⟩ v).cell? (ad.add j) = some u := by
  have t : Turn (fun i => i = g) w3 (w3.setCell ⟨g, 0, none⟩ v) := (Turn.refl (fun i => i = g) w3).setCell (.inl rfl) _
  obtain ⟨ad, rfl, _, hc⟩ := (hD.turn t hne).2.2 (by rw [← hD.1]; exact h0)
  exact ⟨ad, rfl, hc⟩
theorem cell_some {w : World} {g : Nat} {L : List Value} (hg : w.heap[g]? = some (.cells (List.toArray L) 5 (0, 0))) {j : Nat} (hj : j < L.length) : ∃ x, w.cell? ⟨g, j, none⟩ = some x := by
  refine ⟨L[j], ?_⟩
  rw [cell_of_blk hg j, List.getElem?_toArray, List.getElem?_eq_getElem hj]
theorem cell0_of {w : World} {g : Nat} {L : List Value} {p : List Int} {k : Int} (hg : w.heap[g]? = some (.cells (List.toArray L) 5 (0, 0))) (h : L.take 256 = u8s p) (hk : p.getD 0 0 = k) (hp : p.length = 256) : w.cell? ⟨g, 0, none⟩ = some (.int .u8 k) := by
  have h1 := cell_of_blk hg 0
  rw [h1, List.getElem?_toArray, take_get h (by omega) hp, hk]
set_option maxRecDepth 6000 in
set_option maxHeartbeats 400000 in
theorem add_ok (h : RdB w (some ad) 256 c p) (hp : PG p rows) (hok : ∀ r ∈ rows, rowOk r = true) (hr : RdV w C m r) (hk : rowOk r = true) (hl : (encR r).length ≤ 253) (hu : usedN (rows ++ [r]) ≤ 256) :
    Calls Try.prog 32 #[.slice (some ad) 256 c, .slice C m cc] w fun e w' => ∃ ad' c', e = .returned (.tuple #[.slice (some ad') 256 c', .int .i64 0]) ∧ w'.ownsRow w.heap.size 5 1 (.slice (some ad') 256 c') 256 (u8s (addP p (1 + (flat rows).length) (encR r))) ∧ Below w.heap.size w w' := by
  have H := scan_some h (scanS_compl h.isb hp hok)
  have hf := hp.fit
  unfold usedN at hu hf
  rw [flat_append, List.length_append, List.length_append] at hu
  have e1 : (flat [r]).length = (encR r).length := by simp [flat]
  rw [e1] at hu
  replace hu : (1 + (flat rows).length) + (encR r).length + 2 * (rows.length + 1) ≤ 256 := by simp only [List.length_cons, List.length_nil] at hu; omega
  have HF := fun w1 (b : Below w.heap.size w w1) => fits_ok (cc := cc) (hr.below b) hk hl
  have hp0 := hp.p0
  obtain ⟨E, hE⟩ : ∃ E, E = encR r := ⟨_, rfl⟩
  obtain ⟨a, ha⟩ : ∃ a, a = 1 + (flat rows).length := ⟨_, rfl⟩
  obtain ⟨k, hkk⟩ : ∃ k, k = rows.length := ⟨_, rfl⟩
  obtain ⟨n, hn⟩ : ∃ n, n = E.length := ⟨_, rfl⟩
  have ha1 : 1 ≤ a := by omega
  rw [← hE] at HF hu ⊢
  rw [← ha] at H hu ⊢
  rw [← hkk] at H hu hp0
  rw [← hn] at HF hu
  have H := Lib.hid H
  have HF := Lib.hid HF
  have HC := Lib.hid (fun w1 (b : Below w.heap.size w w1) => pclone (h.below b) (by omega))
  have HP := Lib.hid (And.intro hp0 (And.intro hn hp.len))
  have hw8 : IntKind.u8.wrap ((k : Int) + 1) = (k : Int) + 1 := u8_small (by omega) (by omega)
  obtain ⟨s, hs⟩ : ∃ s, s = 256 - 2 * (k + 1) := ⟨_, rfl⟩
  have hd : ¬ ((256 : Int) - 2 * ((k : Int) + 1) < (a : Int) + n) := by omega
  have hk5 : ¬ ((255 : Int) ≤ k) := by omega
  have hsI : (256 : Int) - 2 * ((k : Int) + 1) = s := by omega
  have HS := Lib.hid hs
  obtain ⟨s1, hs1⟩ : ∃ s1, s1 = s + 1 := ⟨_, rfl⟩
  have HS1 := Lib.hid hs1
  have hsI1 : (s : Int) + 1 = s1 := by omega
  have hs3 : s1 < 256 := by omega
  have han : a + n ≤ s := by omega
  have hs2 : s + 1 < 256 := by omega
  have hsk : s + 2 * (k + 1) = 256 := by omega
  have hx : IntKind.u8.wrap (a : Int) = a := u8_small (by omega) (by omega)
  have hy : (a : Int) / 256 = 0 := by omega
  clear hs1 h hp hok hr hk hE ha hkk hn e1 hp0 hs hf hl
  go_enter Try.func32, Try.ntmps32
  go_wp2_with (first
    | (exfalso; omega)
    | (go_at_call 55; refine H.out.mono ?_; rintro e w1 ⟨B, c', hds, rfl, _, _, b1⟩)
    | (go_at_call 56; refine (HF.out _ b1).mono ?_; rintro e w2 ⟨D, cd, rfl, hD, b2⟩; have HD := Lib.hid hD; have B2 := Lib.hid (b1.trans (b2.mono b1.size)); clear hD b2)
    | (go_at_call 57; refine (HC.out _ B2.out).mono ?_; go_loud (rintro e w3 ⟨v, rfl, hv, b3⟩); go_loud (obtain ⟨g, L, cap, rfl, hgB, hgH, hcap, hcm, hLl, hL⟩ := own_block hv (by omega)); go_loud (have B3 := Lib.hid (B2.out.trans (b3.mono B2.out.size))); go_loud (have HD3 := Lib.hid (own_below HD.out b3)); go_loud (have c0 : w3.cell? ⟨g, 0, none⟩ = some (.int .u8 k) := cell0_of hgH hL HP.out.1 HP.out.2.2); go_loud (have f0 := free_of_blk hgH 0); go_loud (have HG := Lib.hid (And.intro hgB (And.intro hgH (And.intro hLl hL)))); go_loud (have hca : ¬ cap = a := by omega); go_loud (clear hv b3 hgB hgH hLl hL))
    | ((with_reducible show wpList _ _ _ ({ dst := some 59, op := _, type := _, pos := _, after := _, guard := none } :: _) _ _); go_loud (refine wpList_copy_splice rfl (.tmp 57) (.tmp 58) 23 23 rfl 5 Try.underlying23 (by kernel_rfl) _ _ _ _ _ _ rfl rfl g a (L.set 0 (.int .u8 ((k : Int) + 1))) 5 (by have := blk_set HG.out.2.1 0 (.int .u8 ((k : Int) + 1)); rw [List.setIfInBounds_toArray] at this; exact this) (u8s E) (by rw [List.length_map, ← HP.out.2.1]; exact (Nat.min_eq_left (by omega)).symm) (fun h0 => ⟨by simp [Addr.add] <;> omega, copy_src (Rd1.of_own HD3.out).2 (fun ad' e => by have h1 := (HD.out.lt ad'.block (by rw [e]; simp [Value.ownBlock])).2; have h2 := HG.out.1; omega) h0 _⟩) (by rw [List.length_map, List.length_set, ← HP.out.2.1]; have := HG.out.2.2.1; omega) (by intro v hv; obtain ⟨x, _, rfl⟩ := List.mem_map.1 hv; rfl) w.heap.size w (B3.out.setCell (Nat.le_trans B2.out.size HG.out.1) _) (Nat.le_trans B2.out.size HG.out.1) ?_; intro w4 hg4 b4; have hlen : (splice (L.set 0 (.int .u8 ((k : Int) + 1))) a (u8s E)).length = cap := (length_splice _ _ _ (by rw [List.length_map, List.length_set, ← HP.out.2.1]; have := HG.out.2.2.1; omega)).trans (by rw [List.length_set]; exact HG.out.2.2.1); obtain ⟨x1, hx1⟩ := cell_some hg4.out (j := s) (by omega); obtain ⟨x2, hx2⟩ := cell_some hg4.out (j := s1) (by omega); have f1 := free_of_blk hg4.out s; have f2 := free_of_blk hg4.out s1; have B4 := Lib.hid b4; have HLEN := Lib.hid hlen; clear b4 hlen)))
  all_goals first
    | (exfalso; omega)
    | skip
  go_ret2
  have hw1 := blk_set (blk_set hg4.out s (.int .u8 0)) s1 (.int .u8 a)
  rw [List.setIfInBounds_toArray, List.setIfInBounds_toArray] at hw1
  have hgw : w.heap.size ≤ g := Nat.le_trans B2.out.size HG.out.1
  have hac := add_cells (a := a) (k := k) HG.out.2.2.2 HP.out.1 ha1 (by rw [← HP.out.2.1]; omega)
  rw [← HS.out, ← HS1.out, show a / 256 = 0 by omega, show a % 256 = a by omega] at hac
  have hl2 : (u8s (addP p a E)).length = 256 := by
    rw [← hac, List.length_take, List.length_set, List.length_set, HLEN.out]
    omega
  refine ⟨_, _, by trivial, ⟨by rw [hl2], .inr ⟨g, cap, _, rfl, hgw, hw1, hcap, hcm, ?_, hac⟩⟩, (B4.out.setCell hgw _).setCell hgw _⟩
  show (List.set _ _ _).toArray.size = _
  rw [List.size_toArray, List.length_set, List.length_set, HLEN.out, Nat.mul_one]
theorem add_walk (h : RdB w (some ad) 256 c p) (hp : PG p rows) (hok : ∀ r ∈ rows, rowOk r = true) (hr : RdV w C m r) : Calls Try.prog 32 #[.slice (some ad) 256 c, .slice C m cc] w (AddPost w p rows r) := by
  unfold AddPost
  by_cases hk : rowOk r = false
  · simp only [hk, if_true]
    exact add_err h hp hok (by decide) (fun w1 b => fits_bad (hr.below b) hk)
  · have hk : rowOk r = true := by simpa using hk
    simp only [hk, Bool.true_eq_false, if_false]
    by_cases hl : 253 < (encR r).length
    · simp only [hl, if_true]
      exact add_err h hp hok (by decide) (fun w1 b => fits_long (hr.below b) hk hl)
    · simp only [hl, if_false]
      by_cases hu : 256 < usedN (rows ++ [r])
      · simp only [hu, if_true]
        exact add_full h hp hok hr hk (by omega) hu
      · simp only [hu, if_false]
        refine (add_ok (cc := cc) h hp hok hr hk (by omega) (by omega)).mono ?_
        rintro e w' ⟨ad', c', h1, h2, h3⟩
        exact ⟨⟨ad', c', h1, h2⟩, h3⟩
end
end Go.Proofs.Ytlldkdhpilcilaa
