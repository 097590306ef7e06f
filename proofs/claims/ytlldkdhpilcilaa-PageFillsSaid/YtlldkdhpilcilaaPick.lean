/- values at places. -/
import Derived.Test.YtlldkdhpilcilaaHR
namespace Go.Proofs.Ytlldkdhpilcilaa
open Go.RowKit

abbrev i64s (cs : List Int) : List Value := cs.map (Value.int .i64)
def inR (n : Nat) (c : Int) : Bool := decide (0 ≤ c ∧ c < n)
theorem pick1_yes {w : World} {p : Addr} {A : Option Addr} {n c : Nat} {i : Int} (hp : w.cell? p = some (.slice A n c)) (h : inR n i = true) :
    Calls Try.prog 61 #[.int .i64 i, .pointer (some p)] w fun e w' => e = .returned (.bool false) ∧ w' = w := by
  have h := of_decide_eq_true h
  obtain ⟨h1, h2⟩ := h
  have h3 : decide (i < 0) = false := by simpa using h1
  have h4 : decide ((n : Int) ≤ i) = false := by simpa using h2
  go_enter Try.func61, Try.ntmps61
  go_wp2
  go_ret
  exact ⟨rfl, rfl⟩
theorem pick1_no {w : World} {p : Addr} {A : Option Addr} {n c : Nat} {i : Int} (hp : w.cell? p = some (.slice A n c)) (h : inR n i = false) :
    Calls Try.prog 61 #[.int .i64 i, .pointer (some p)] w fun e w' => e = .returned (.bool true) ∧ w' = w := by
  have h := of_decide_eq_false h
  by_cases h1 : i < 0
  · clear h
    go_enter Try.func61, Try.ntmps61
    go_wp2
    go_ret
    exact ⟨rfl, rfl⟩
  · have h2 : (n : Int) ≤ i := by omega
    have h3 : decide ((n : Int) ≤ i) = true := by simpa using h2
    clear h
    go_enter Try.func61, Try.ntmps61
    go_wp2
    go_ret
    exact ⟨rfl, rfl⟩
theorem allI_take {p : Int → Bool} {cs : List Int} {k : Nat} (h : k < cs.length) : (cs.take (k + 1)).all p = ((cs.take k).all p && p (cs.getD k 0)) := by
  rw [take_snoc cs 0 h, List.all_append]
  simp
theorem allI_false {p : Int → Bool} {cs : List Int} {k : Nat} (h : k < cs.length) (hp : p (cs.getD k 0) = false) : cs.all p = false := by
  rw [List.all_eq_false]
  refine ⟨cs.getD k 0, ?_, by simp only [hp]; decide⟩
  rw [List.getD_eq_getElem?_getD, List.getElem?_eq_getElem h]
  exact List.getElem_mem h
def JPost (b : Bool) (w : World) (e : Ending) (w' : World) : Prop := ∃ i : Int, e = .returned (.int .i64 i) ∧ decide (0 ≤ i) = b ∧ w' = w
theorem idxI_walk {w : World} {p : Addr} {A C : Option Addr} {n c m cc : Nat} (cs : List Int) (hp : w.cell? p = some (.slice A n c)) (hr : Rd1 w C m (i64s cs)) :
    Calls Try.prog 72 #[.slice C m cc, .func (.func 61) #[] #[.pointer (some p)]] w (JPost (!cs.all (inR n)) w) := by
  have hm := hr.2.1
  have hl : cs.length = m := by simpa using hr.1
  go_enter Try.func72, Try.ntmps72
  go_wp2
  go_loopw [8] (fun i wr => ∃ k : Nat, k ≤ m ∧ i = .int .i64 k ∧ (cs.take k).all (inR n) = true ∧ wr = w) (fun i _ => m - (intOf i).toNat)
  case atStart => exact ⟨0, by omega, rfl, rfl, rfl⟩
  case round =>
    obtain ⟨k, hk, rfl, hall, rfl⟩ := hrel
    have HA := Lib.hid hall
    clear hall
    by_cases hlt : k < m
    · obtain ⟨ad, rfl, had, hc⟩ := hr.at2 hlt
      have hkl : k < cs.length := by omega
      rw [getD_map 0 hkl] at hc
      have HT := allI_take (p := inR n) hkl
      have HF := allI_false (p := inR n) hkl
      obtain ⟨x, hx⟩ : ∃ x, x = cs.getD k 0 := ⟨_, rfl⟩
      rw [← hx] at hc HT HF
      have HT := Lib.hid HT
      have HF := Lib.hid HF
      clear hx hr
      cases ho : inR n x with
      | true =>
        have HO := Lib.hid (pick1_yes hp ho)
        have H2 := Lib.hid ho
        clear ho
        go_wp2_with (go_at_call 61; refine HO.out.mono ?_; rintro e w1 ⟨rfl, rfl⟩)
        go_roundw
        case rel => exact ⟨k + 1, by omega, by go_num, by rw [HT.out, HA.out, H2.out]; rfl, by trivial⟩
        case measure => simp [intOf]; omega
      | false =>
        have HO := Lib.hid (pick1_no hp ho)
        have H2 := Lib.hid (HF.out ho)
        clear ho
        go_wp2_with (go_at_call 61; refine HO.out.mono ?_; rintro e w1 ⟨rfl, rfl⟩)
        go_ret
        exact ⟨k, rfl, by rw [H2.out]; simp, rfl⟩
    · go_wp2
      go_ret
      have h := HA.out
      rw [List.take_of_length_le (by omega)] at h
      exact ⟨-1, rfl, by rw [h]; rfl, rfl⟩
theorem conI_walk {w : World} {p : Addr} {A C : Option Addr} {n c m cc : Nat} (cs : List Int) (hp : w.cell? p = some (.slice A n c)) (hr : Rd1 w C m (i64s cs)) (b : Bool) (hb : cs.all (inR n) = b) :
    Calls Try.prog 62 #[.slice C m cc, .func (.func 61) #[] #[.pointer (some p)]] w fun e w' => e = .returned (.bool (!b)) ∧ w' = w := by
  have HI := Lib.hid (idxI_walk (cc := cc) cs hp hr)
  subst hb
  clear hr hp
  go_enter Try.func62, Try.ntmps62
  go_wp2_with (go_at_call 72; refine HI.out.mono ?_; rintro e w1 ⟨i, rfl, hi, rfl⟩; have H := Lib.hid hi; clear hi)
  go_ret
  exact ⟨by rw [← H.out]; rfl, by trivial⟩

/-! ### rows of values that a call owns -/
def cellsV (v : V) : List Value := [.int .i64 v.k, .int .i64 v.n, .string v.s]
def cellsR (r : List V) : List Value := r.flatMap cellsV
theorem cellsR_len (r : List V) : (cellsR r).length = r.length * 3 := by
  induction r with
  | nil => rfl
  | cons v r ih => simp only [cellsR, List.flatMap_cons, List.length_append, List.length_cons] at ih ⊢; rw [ih]; simp [cellsV]; omega
theorem cellsR_get (r : List V) : ∀ (i : Nat) (v : V), r[i]? = some v → (cellsR r)[i * 3]? = some (.int .i64 v.k) ∧ (cellsR r)[i * 3 + 1]? = some (.int .i64 v.n) ∧ (cellsR r)[i * 3 + 2]? = some (.string v.s) := by
  induction r with
  | nil => intro i v h; simp at h
  | cons x r ih =>
    intro i v h
    have e : cellsR (x :: r) = cellsV x ++ cellsR r := by simp [cellsR]
    rw [e]
    cases i with
    | zero =>
      have : x = v := by simpa using h
      subst this
      exact ⟨rfl, rfl, rfl⟩
    | succ i =>
      obtain ⟨a, b, c⟩ := ih i v (by simpa using h)
      have e3 : (cellsV x).length = 3 := rfl
      refine ⟨?_, ?_, ?_⟩
      · rw [List.getElem?_append_right (by rw [e3]; omega), ← a]; congr 1; rw [e3]; omega
      · rw [List.getElem?_append_right (by rw [e3]; omega), ← b]; congr 1; rw [e3]; omega
      · rw [List.getElem?_append_right (by rw [e3]; omega), ← c]; congr 1; rw [e3]; omega
theorem RdV.of_own {w : World} {base : Nat} {e : TypeId} {A : Option Addr} {n m c : Nat} {r : List V} (h : w.ownsRow base e 3 (.slice A m c) n (cellsR r)) (hs : ∀ v ∈ r, v.s.size ≤ 9223372036854775807) : m = n ∧ RdV w A n r := by
  have hl : r.length = n := by have := h.1; rw [cellsR_len] at this; omega
  rcases h.2 with ⟨e, rfl⟩ | ⟨g, cap, cur, e, hb, hg, hnc, hm, _⟩
  · injection e with e1 e2
    exact ⟨e2, hl, by omega, fun h => absurd h (by omega), hs⟩
  · injection e with e1 e2
    subst e1
    refine ⟨e2, hl, by simp only [maxLen] at hm; omega, fun hn => ⟨_, rfl, lt_of_heap hg, fun i v hv => ?_⟩, hs⟩
    obtain ⟨a, b, d⟩ := cellsR_get r i v hv
    have hc := h.cells (g := g) rfl
    have e1 := hc _ _ a
    have e2 := hc _ _ b
    have e3 := hc _ _ d
    have ea : ∀ k : Nat, (⟨g, 0, none⟩ : Addr).add k = ⟨g, k, none⟩ := by
      intro k
      simp only [Addr.add]
      split
      · rename_i h; rw [h]
      · simp
    rw [ea] at e1 e2 e3 ⊢
    exact ⟨e1, e2, e3⟩
theorem info_V : (Try.prog.info? 76).map (fun i => (i.zero, i.size, i.bytes)) = some (some (.agg #[.int .i64 0, .int .i64 0, .string ⟨#[]⟩]), 3, 32) := by kernel_rfl
def dV : V := ⟨0, 0, ⟨#[]⟩⟩
def pickR (r : List V) (cs : List Int) : List V := cs.map fun c => r.getD c.toNat dV
def pickOk (r : List V) (cs : List Int) : Bool := cs.all (inR r.length)
theorem pickR_len (r : List V) (cs : List Int) : (pickR r cs).length = cs.length := by simp [pickR]
theorem pickR_snoc (r : List V) {cs : List Int} {k : Nat} (h : k < cs.length) : cellsR (pickR r (cs.take (k + 1))) = cellsR (pickR r (cs.take k)) ++ cellsV (r.getD (cs.getD k 0).toNat dV) := by
  rw [take_snoc cs 0 h]
  simp [pickR, cellsR]
theorem pickR_str {r : List V} (hs : ∀ v ∈ r, v.s.size ≤ 9223372036854775807) (cs : List Int) : ∀ v ∈ pickR r cs, v.s.size ≤ 9223372036854775807 := by
  intro v hv
  obtain ⟨c, _, rfl⟩ := List.mem_map.1 hv
  rw [List.getD_eq_getElem?_getD]
  cases h : r[c.toNat]? with
  | none => exact Nat.zero_le _
  | some x => exact hs x (List.mem_of_getElem? h)

theorem pick_ok {w : World} {A C : Option Addr} {n c m cc : Nat} (r : List V) (cs : List Int) (hr : RdV w A n r) (hc : Rd1 w C m (i64s cs)) (hok : pickOk r cs = true) (hm32 : m ≤ 32) :
    Calls Try.prog 53 #[.slice A n c, .slice C m cc] w fun e w' => ∃ v, e = .returned (.tuple #[v, .int .i64 0]) ∧ w'.ownsRow w.heap.size 76 3 v m (cellsR (pickR r cs)) ∧ Below w.heap.size w w' := by
  obtain ⟨W0, hW0⟩ : ∃ W0, W0 = w.alloc (.cells #[.slice A n c] 24) := ⟨_, rfl⟩
  have hlt : cs.length = m := by simpa using hc.1
  have hrl := hr.len
  have hn := hr.max
  have b0 : Below w.heap.size w W0 := hW0 ▸ (Below.refl _ _).alloc (Nat.le_refl _) _
  have s0 : W0.heap.size = w.heap.size + 1 := by rw [hW0]; simp
  have hbox : W0.cell? ⟨w.heap.size, 0, none⟩ = some (.slice A n c) := by rw [hW0]; exact cell_of_blk (heap_alloc_new w _) 0
  have hr0 := hr.below b0
  have hc0 := hc.below b0
  have HCON : Calls Try.prog 62 #[.slice C m cc, .func (.func 61) #[] #[.pointer (some ⟨w.heap.size, 0, none⟩)]] (w.alloc (.cells #[.slice A n c] 24)) fun e w' => e = .returned (.bool false) ∧ w' = W0 := by
    rw [← hW0]
    exact conI_walk (cc := cc) cs hbox hc0 true (by rw [← hrl]; exact hok)
  have HCON := Lib.hid HCON
  have HB0 := Lib.hid (And.intro b0 hok)
  have HW0 := Lib.hid hW0
  clear hr hc b0 hok hW0
  go_enter Try.func53, Try.ntmps53
  go_wp2_with (go_at_call 62; refine HCON.out.mono ?_; rintro e w1 ⟨rfl, rfl⟩)
  go_loopw [7, 21] (fun b i wr => ∃ k : Nat, k ≤ m ∧ i = .int .i64 k ∧ wr.ownsRow (w.heap.size + 1) 76 3 b k (cellsR (pickR r (cs.take k))) ∧ Below (w.heap.size + 1) w1 wr) (fun _ i _ => m - (intOf i).toNat)
  case atStart => exact ⟨0, by omega, rfl, World.ownsRow_nil _ _ _ _, Below.refl _ _⟩
  case round =>
    obtain ⟨k, hk, rfl, ho, bel⟩ := hrel
    by_cases hlk : k < m
    · obtain ⟨ad, rfl, had, hcc⟩ := (hc0.below (s0 ▸ bel)).at2 hlk
      have hkl : k < cs.length := by omega
      rw [getD_map 0 hkl] at hcc
      have hin : inR r.length (cs.getD k 0) = true := by
        have := HB0.out.2
        unfold pickOk at this
        rw [List.all_eq_true] at this
        refine this _ ?_
        rw [List.getD_eq_getElem?_getD, List.getElem?_eq_getElem hkl]
        exact List.getElem_mem hkl
      have hin := of_decide_eq_true hin
      have HS := pickR_snoc r hkl
      obtain ⟨x, hx⟩ : ∃ x, x = cs.getD k 0 := ⟨_, rfl⟩
      rw [← hx] at hcc HS hin
      obtain ⟨x, rfl⟩ : ∃ y : Nat, x = y := ⟨x.toNat, by omega⟩
      obtain ⟨ad2, v, rfl, had2, hv, hs, d0, d1, d2⟩ := hr0.at_ (s0 ▸ bel) (k := x) (by omega)
      rw [show r.getD (x : Int).toNat dV = v by rw [List.getD_eq_getElem?_getD]; simp [hv]] at HS
      have HS := Lib.hid HS
      have hxn : x < n := by omega
      have hb2 := cell_belowv hbox bel (by simp)
      have szr : w.heap.size + 1 ≤ wr.heap.size := by have := bel.size; omega
      obtain ⟨A3, c3, rfl⟩ := own_slice ho
      clear hx hin hr0 hc0 hv
      go_wp2_with (at_builtin; refine wp_append1 (w.heap.size + 1) rfl (.tmp 25) (.tmp 30) 24 76 (.agg #[.int .i64 0, .int .i64 0, .string ⟨#[]⟩]) 3 32 rfl Try.underlying24 info_V rfl (by omega) (by omega) (.slice A3 k c3) k _ [.int .i64 v.k, .int .i64 v.n, .string v.s] rfl rfl (by simp) rfl (by simp [Value.oneCell']) ho szr (by omega) ?_; intro v1 w2 h1 t1 _)
      have h2 : w2.ownsRow (w.heap.size + 1) 76 3 v1 (k + 1) (cellsR (pickR r (cs.take (k + 1)))) := by
        rw [HS.out]
        exact h1
      have b2 := below_turn bel t1 szr (fun k hk => own_ge ho hk)
      go_roundw
      case rel => exact ⟨k + 1, by omega, by go_num, h2, b2⟩
      case measure => simp [intOf]; omega
    · obtain rfl : k = m := by omega
      have h2 : wr.ownsRow w.heap.size 76 3 u7 k (cellsR (pickR r cs)) := by
        rw [List.take_of_length_le (by omega)] at ho
        exact own_lower ho (by omega)
      have b2 : Below w.heap.size w wr := HB0.out.1.trans (bel.mono (by omega))
      clear hr0 hc0
      go_wp2
      go_ret2
      exact ⟨_, rfl, h2, b2⟩
theorem pick_bad {w : World} {A C : Option Addr} {n c m cc : Nat} (r : List V) (cs : List Int) (hr : RdV w A n r) (hc : Rd1 w C m (i64s cs)) (hok : pickOk r cs = false ∨ 32 < m) :
    Calls Try.prog 53 #[.slice A n c, .slice C m cc] w fun e w' => e = .returned (.tuple #[.slice none 0 0, .int .i64 1]) ∧ Below w.heap.size w w' := by
  have hm := hc.2.1
  by_cases h32 : 32 < m
  · clear hr hc hok
    go_enter Try.func53, Try.ntmps53
    go_wp2
    go_ret2
    exact ⟨rfl, (Below.refl _ _).alloc (Nat.le_refl _) _⟩
  · have hok : pickOk r cs = false := hok.resolve_right h32
    have hrl := hr.len
    have b0 : Below w.heap.size w (w.alloc (.cells #[.slice A n c] 24)) := (Below.refl _ _).alloc (Nat.le_refl _) _
    have hbox : (w.alloc (.cells #[.slice A n c] 24)).cell? ⟨w.heap.size, 0, none⟩ = some (.slice A n c) := cell_of_blk (heap_alloc_new w _) 0
    have HCON := Lib.hid (conI_walk (cc := cc) cs hbox (hc.below b0) false (by rw [← hrl]; exact hok))
    clear hr hc hok hbox
    go_enter Try.func53, Try.ntmps53
    go_wp2_with (go_at_call 62; refine HCON.out.mono ?_; rintro e w1 ⟨rfl, rfl⟩)
    go_ret2
    exact ⟨rfl, b0⟩

/-! ### the document's -/
theorem refpick_ok {w : World} {A C : Option Addr} {n c m cc : Nat} (r : List V) (cs : List Int) (hr : RdV w A n r) (hc : Rd1 w C m (i64s cs)) (hok : pickOk r cs = true) (hm32 : m ≤ 100000) :
    Calls Try.prog 26 #[.slice A n c, .slice C m cc] w fun e w' => ∃ v, e = .returned (.tuple #[v, .bool (decide (m ≤ 32))]) ∧ w'.ownsRow w.heap.size 76 3 v m (cellsR (pickR r cs)) ∧ Below w.heap.size w w' := by
  have hlt : cs.length = m := by simpa using hc.1
  have hrl := hr.len
  have hn := hr.max
  have HB0 := Lib.hid hok
  clear hok
  go_enter Try.func26, Try.ntmps26
  go_wp2
  go_loopw [6, 7] (fun b i wr => ∃ k : Nat, k ≤ m ∧ i = .int .i64 k ∧ wr.ownsRow w.heap.size 76 3 b k (cellsR (pickR r (cs.take k))) ∧ Below w.heap.size w wr) (fun _ i _ => m - (intOf i).toNat)
  case atStart => exact ⟨0, by omega, rfl, World.ownsRow_nil _ _ _ _, Below.refl _ _⟩
  case round =>
    obtain ⟨k, hk, rfl, ho, bel⟩ := hrel
    by_cases hlk : k < m
    · obtain ⟨ad, rfl, had, hcc⟩ := (hc.below bel).at2 hlk
      have hkl : k < cs.length := by omega
      rw [getD_map 0 hkl] at hcc
      have hin : inR r.length (cs.getD k 0) = true := by
        have := HB0.out
        unfold pickOk at this
        rw [List.all_eq_true] at this
        refine this _ ?_
        rw [List.getD_eq_getElem?_getD, List.getElem?_eq_getElem hkl]
        exact List.getElem_mem hkl
      have hin := of_decide_eq_true hin
      have HS := pickR_snoc r hkl
      obtain ⟨x, hx⟩ : ∃ x, x = cs.getD k 0 := ⟨_, rfl⟩
      rw [← hx] at hcc HS hin
      obtain ⟨x, rfl⟩ : ∃ y : Nat, x = y := ⟨x.toNat, by omega⟩
      obtain ⟨ad2, v, rfl, had2, hv, hs, d0, d1, d2⟩ := hr.at_ bel (k := x) (by omega)
      rw [show r.getD (x : Int).toNat dV = v by rw [List.getD_eq_getElem?_getD]; simp [hv]] at HS
      have HS := Lib.hid HS
      have hxn : x < n := by omega
      have hxd : decide ((n : Int) ≤ x) = false := by simp; omega
      have szr : w.heap.size ≤ wr.heap.size := bel.size
      obtain ⟨A3, c3, rfl⟩ := own_slice ho
      clear hx hin hr hc hv
      go_wp2_with (at_builtin; refine wp_append1 w.heap.size rfl (.tmp 28) (.tmp 36) 24 76 (.agg #[.int .i64 0, .int .i64 0, .string ⟨#[]⟩]) 3 32 rfl Try.underlying24 info_V rfl (by omega) (by omega) (.slice A3 k c3) k _ [.int .i64 v.k, .int .i64 v.n, .string v.s] rfl rfl (by simp) rfl (by simp [Value.oneCell']) ho szr (by omega) ?_; intro v1 w2 h1 t1 _)
      have h2 : w2.ownsRow w.heap.size 76 3 v1 (k + 1) (cellsR (pickR r (cs.take (k + 1)))) := by
        rw [HS.out]
        exact h1
      have b2 := below_turn bel t1 szr (fun k hk => own_ge ho hk)
      go_roundw
      case rel => exact ⟨k + 1, by omega, by go_num, h2, b2⟩
      case measure => simp [intOf]; omega
    · obtain rfl : k = m := by omega
      have h2 : wr.ownsRow w.heap.size 76 3 u6 k (cellsR (pickR r cs)) := by
        rw [List.take_of_length_le (by omega)] at ho
        exact ho
      have hd : decide ((k : Int) ≤ 32) = decide (k ≤ 32) := by rw [decide_eq_decide]; omega
      clear hr hc
      go_wp2
      go_ret2
      exact ⟨_, by rw [← hd]; rfl, h2, bel⟩
theorem refpick_bad {w : World} {A C : Option Addr} {n c m cc : Nat} (r : List V) (cs : List Int) (hr : RdV w A n r) (hc : Rd1 w C m (i64s cs)) (hok : pickOk r cs = false) (hm32 : m ≤ 100000) :
    Calls Try.prog 26 #[.slice A n c, .slice C m cc] w fun e w' => e = .returned (.tuple #[.slice none 0 0, .bool false]) ∧ Below w.heap.size w w' := by
  have hlt : cs.length = m := by simpa using hc.1
  have hrl := hr.len
  have hn := hr.max
  have HB0 := Lib.hid hok
  clear hok
  go_enter Try.func26, Try.ntmps26
  go_wp2
  go_loopw [6, 7] (fun b i wr => ∃ k : Nat, k ≤ m ∧ i = .int .i64 k ∧ (cs.take k).all (inR r.length) = true ∧ wr.ownsRow w.heap.size 76 3 b k (cellsR (pickR r (cs.take k))) ∧ Below w.heap.size w wr) (fun _ i _ => m - (intOf i).toNat)
  case atStart => exact ⟨0, by omega, rfl, rfl, World.ownsRow_nil _ _ _ _, Below.refl _ _⟩
  case round =>
    obtain ⟨k, hk, rfl, hall, ho, bel⟩ := hrel
    have HA := Lib.hid hall
    clear hall
    by_cases hlk : k < m
    · obtain ⟨ad, rfl, had, hcc⟩ := (hc.below bel).at2 hlk
      have hkl : k < cs.length := by omega
      rw [getD_map 0 hkl] at hcc
      have HS := pickR_snoc r hkl
      have HT := allI_take (p := inR r.length) hkl
      obtain ⟨x, hx⟩ : ∃ x, x = cs.getD k 0 := ⟨_, rfl⟩
      rw [← hx] at hcc HS HT
      have HT := Lib.hid HT
      obtain ⟨A3, c3, rfl⟩ := own_slice ho
      have szr : w.heap.size ≤ wr.heap.size := bel.size
      cases hin : inR r.length x with
      | true =>
        have HIN := Lib.hid hin
        have hin := of_decide_eq_true hin
        obtain ⟨x, rfl⟩ : ∃ y : Nat, x = y := ⟨x.toNat, by omega⟩
        obtain ⟨ad2, v, rfl, had2, hv, hs, d0, d1, d2⟩ := hr.at_ bel (k := x) (by omega)
        rw [show r.getD (x : Int).toNat dV = v by rw [List.getD_eq_getElem?_getD]; simp [hv]] at HS
        have HS := Lib.hid HS
        have hxn : x < n := by omega
        have hxd : decide ((n : Int) ≤ x) = false := by simp; omega
        clear hx hin hr hc hv
        go_wp2_with (at_builtin; refine wp_append1 w.heap.size rfl (.tmp 28) (.tmp 36) 24 76 (.agg #[.int .i64 0, .int .i64 0, .string ⟨#[]⟩]) 3 32 rfl Try.underlying24 info_V rfl (by omega) (by omega) (.slice A3 k c3) k _ [.int .i64 v.k, .int .i64 v.n, .string v.s] rfl rfl (by simp) rfl (by simp [Value.oneCell']) ho szr (by omega) ?_; intro v1 w2 h1 t1 _)
        have h2 : w2.ownsRow w.heap.size 76 3 v1 (k + 1) (cellsR (pickR r (cs.take (k + 1)))) := by
          rw [HS.out]
          exact h1
        have b2 := below_turn bel t1 szr (fun k hk => own_ge ho hk)
        go_roundw
        case rel => exact ⟨k + 1, by omega, by go_num, by rw [HT.out, HA.out, HIN.out]; rfl, h2, b2⟩
        case measure => simp [intOf]; omega
      | false =>
        have hin := of_decide_eq_false hin
        clear hx hr hc HS
        by_cases hx0 : x < 0
        · clear hin
          go_wp2
          go_ret2
          exact ⟨rfl, bel⟩
        · have hxd : decide ((n : Int) ≤ x) = true := by simp; omega
          clear hin
          go_wp2
          go_ret2
          exact ⟨rfl, bel⟩
    · have h := HA.out
      rw [List.take_of_length_le (by omega)] at h
      have h2 := HB0.out
      unfold pickOk at h2
      rw [h] at h2
      cases h2
end Go.Proofs.Ytlldkdhpilcilaa
