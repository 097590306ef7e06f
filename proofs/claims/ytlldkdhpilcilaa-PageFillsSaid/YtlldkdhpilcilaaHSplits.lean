/- HashSplits: the walk. -/
import Derived.Test.YtlldkdhpilcilaaLives
import Derived.Test.YtlldkdhpilcilaaSame
import Derived.Test.YtlldkdhpilcilaaRSplit
import Derived.Test.YtlldkdhpilcilaaOpen
namespace Go.Proofs.Ytlldkdhpilcilaa
open Go.RowKit

theorem large_walk {w : World} {A : Option Addr} {n c : Nat} {hds : List Value} {rows : List (List V)} (hl : RdL w A n hds rows) :
    Calls Try.prog 22 #[.slice A n c] w fun e w' => ∃ b, e = .returned (.bool b) ∧ w' = w ∧ (b = false → n ≤ 300) := by
  have hn := hl.hd.2.1
  by_cases h3 : 300 < n
  · clear hl
    go_enter Try.func22, Try.ntmps22
    go_wp2
    go_ret
    exact ⟨true, rfl, rfl, by simp⟩
  · go_enter Try.func22, Try.ntmps22
    go_wp2
    go_loopw [3] (fun i wr => ∃ k : Nat, k ≤ n ∧ i = .int .i64 k ∧ wr = w) (fun i _ => n - (intOf i).toNat)
    case atStart => exact ⟨0, by omega, rfl, rfl⟩
    case round =>
      obtain ⟨k, hk, rfl, rfl⟩ := hrel
      by_cases hlt : k < n
      · obtain ⟨ad, B, m, cc, r, rfl, had, hrk, hdk, hcell, hrv⟩ := hl.at_ hlt
        have hm := hrv.max
        clear hl hrk hdk hrv
        by_cases h1 : 100 < m
        · go_wp2
          go_ret
          exact ⟨true, rfl, rfl, by simp⟩
        · go_wp2
          go_roundw
          case rel => exact ⟨k + 1, by omega, by go_num, by trivial⟩
          case measure => simp [intOf]; omega
      · clear hl
        go_wp2
        go_ret
        exact ⟨false, rfl, rfl, fun _ => by omega⟩
/-- Two lists of parts, part for part the same headers. -/
def Alike (w : World) (hs hs2 : List Value) : Prop := ∀ (i : Nat) h h', hs[i]? = some h → hs2[i]? = some h' → ∃ P1 P2 m c1 c2 hds, h = Value.slice P1 m c1 ∧ h' = Value.slice P2 m c2 ∧ Rd1 w P1 m hds ∧ Rd1 w P2 m hds ∧ RdHs w hds
theorem Alike.below {w w' : World} {hs hs2 : List Value} (h : Alike w hs hs2) (hb : Below w.heap.size w w') : Alike w' hs hs2 := fun i x y hx hy => by
  obtain ⟨P1, P2, m, c1, c2, hds, e1, e2, h1, h2, h3⟩ := h i x y hx hy
  exact ⟨P1, P2, m, c1, c2, hds, e1, e2, h1.below hb, h2.below hb, h3.below hb⟩
theorem same_walk {w : World} {A A2 : Option Addr} {n c c2 : Nat} (hs hs2 : List Value) (ha : Rd1 w A n hs) (hb : Rd1 w A2 n hs2) (hh : Alike w hs hs2) :
    Calls Try.prog 25 #[.slice A n c, .slice A2 n c2] w fun e w' => e = .returned (.bool true) ∧ Below w.heap.size w w' := by
  have hn := ha.2.1
  go_enter Try.func25, Try.ntmps25
  go_wp2
  go_loopw [5] (fun i wr => ∃ k : Nat, k ≤ n ∧ i = .int .i64 k ∧ Below w.heap.size w wr) (fun i _ => n - (intOf i).toNat)
  case atStart => exact ⟨0, by omega, rfl, Below.refl _ _⟩
  case round =>
    obtain ⟨k, hk, rfl, bel⟩ := hrel
    by_cases hlt : k < n
    · obtain ⟨ad, rfl, had, hc⟩ := (ha.below bel).at2 hlt
      obtain ⟨ad2, rfl, had2, hc2⟩ := (hb.below bel).at2 hlt
      have hkl : k < hs.length := by have := ha.1; omega
      have hkl2 : k < hs2.length := by have := hb.1; omega
      obtain ⟨h0, hh0⟩ : ∃ h0, hs[k]? = some h0 := ⟨_, List.getElem?_eq_getElem hkl⟩
      obtain ⟨h1, hh1⟩ : ∃ h1, hs2[k]? = some h1 := ⟨_, List.getElem?_eq_getElem hkl2⟩
      obtain ⟨P1, P2, m, q1, q2, hds, rfl, rfl, r1, r2, r3⟩ := (hh.below bel) k h0 h1 hh0 hh1
      rw [hh0] at hc
      rw [hh1] at hc2
      have HS := Lib.hid (fun (W : World) (b : Below wr.heap.size wr W) => samelist_same (c := q1) (c2 := q2) hds (r1.below b) (r2.below b) (r3.below b))
      have HB0 := Lib.hid (below_drew (Below.refl wr.heap.size wr))
      clear ha hb hh hh0 hh1 r1 r2 r3
      go_wp2
      go_region_with (go_at_call 27; refine (HS.out _ HB0.out).mono ?_; rintro e w1 ⟨rfl, b1⟩)
      all_goals
        have b2 : Below w.heap.size w w1 := (below_drew bel).trans (b1.mono bel.size)
        go_wp2
        go_roundw
      all_goals first
        | exact ⟨k + 1, by omega, by go_num, b2⟩
        | (simp [intOf]; omega)
    · clear ha hb hh
      go_wp2
      go_ret
      exact ⟨by trivial, bel⟩
theorem parts_mem (F : Nat) (xs : List (Value × Nat)) : ∀ p ∈ partsOf F xs, ∀ h ∈ p, h ∈ xs.map Prod.fst := by
  have : ∀ (xs : List (Value × Nat)) (ps : List (List Value)) (S : List Value), (∀ p ∈ ps, ∀ h ∈ p, h ∈ S) → ∀ p ∈ xs.foldl putP ps, ∀ h ∈ p, h ∈ S ++ xs.map Prod.fst := by
    intro xs
    induction xs with
    | nil => intro ps S h p hp x hx; simpa using h p hp x hx
    | cons y xs ih =>
      intro ps S h p hp x hx
      have h2 : ∀ p ∈ putP ps y, ∀ h ∈ p, h ∈ S ++ [y.1] := by
        intro p hp x hx
        rcases List.mem_or_eq_of_mem_set hp with hp | rfl
        · exact List.mem_append_left _ (h p hp x hx)
        · rcases List.mem_append.1 hx with hx | hx
          · rw [List.getD_eq_getElem?_getD] at hx
            cases e : ps[y.2]? with
            | none => rw [e] at hx; simp at hx
            | some q => rw [e] at hx; exact List.mem_append_left _ (h q (List.mem_of_getElem? e) x hx)
          · exact List.mem_append_right _ hx
      have := ih (putP ps y) (S ++ [y.1]) h2 p hp x hx
      simpa using this
  intro p hp h hh
  have := this xs (List.replicate F []) [] (by intro p hp; have := List.eq_of_mem_replicate hp; subst this; simp) p hp h hh
  simpa using this
theorem RdL.hs {w : World} {A : Option Addr} {n : Nat} {hds : List Value} {rows : List (List V)} (h : RdL w A n hds rows) : ∀ x ∈ hds, ∃ B m c r, x = Value.slice B m c ∧ RdV w B m r := by
  intro x hx
  obtain ⟨i, hi, rfl⟩ := List.getElem_of_mem hx
  have hl : i < rows.length := by have := h.len; have := h.hd.1; omega
  obtain ⟨B, m, c, e, hr⟩ := h.row i _ (List.getElem?_eq_getElem hl)
  rw [List.getElem?_eq_getElem hi] at e
  exact ⟨B, m, c, _, Option.some.inj e, hr⟩
theorem Outs.alike {w w0 : World} {A : Option Addr} {n base base2 g g2 F : Nat} {hds : List Value} {rows : List (List V)} {nums : List Nat} {hs hs2 : List Value} (hl : RdL w0 A n hds rows) (b : Below w0.heap.size w0 w)
    (h : Outs w base g hs (partsOf F (hds.zip nums))) (h2 : Outs w base2 g2 hs2 (partsOf F (hds.zip nums))) : Alike w hs hs2 := by
  intro i x y hx hy
  have hi : i < (partsOf F (hds.zip nums)).length := by
    have := (List.getElem?_eq_some_iff.1 hx).1
    have := h.len
    omega
  obtain ⟨p, hp⟩ : ∃ p, (partsOf F (hds.zip nums))[i]? = some p := ⟨_, List.getElem?_eq_getElem hi⟩
  have o1 := h.own i x p hx hp
  have o2 := h2.own i y p hy hp
  obtain ⟨A1, c1, rfl⟩ := own_slice o1
  obtain ⟨A2, c2, rfl⟩ := own_slice o2
  refine ⟨A1, A2, p.length, c1, c2, p, rfl, rfl, (Rd1.of_own o1).2, (Rd1.of_own o2).2, ?_⟩
  intro j z hz
  have hm := parts_mem F _ p (List.mem_of_getElem? hp) z (List.mem_of_getElem? hz)
  obtain ⟨q, hq, rfl⟩ := List.mem_map.1 hm
  have := (List.of_mem_zip (a := q.1) (b := q.2) hq).1
  obtain ⟨B, m, c, r, e, hr⟩ := hl.hs _ this
  exact ⟨B, m, c, r, e, hr.below b⟩
theorem Outs.rd {w : World} {base g : Nat} {hs : List Value} {ps : List (List Value)} (h : Outs w base g hs ps) (hm : hs.length ≤ 64) : Rd1 w (some ⟨g, 0, none⟩) hs.length hs :=
  ⟨rfl, by omega, fun _ => ⟨_, rfl, lt_of_heap h.blk, fun j u hu => by
    have ea : (⟨g, 0, none⟩ : Addr).add j = ⟨g, j, none⟩ := by unfold Addr.add; split <;> simp_all
    rw [ea]
    exact (cell_of_blk h.blk j).trans (by simpa using hu)⟩⟩
end Go.Proofs.Ytlldkdhpilcilaa
