/- HashKeeps: the walk. -/
import Derived.Test.YtlldkdhpilcilaaKeepsW
namespace Go.Proofs.Ytlldkdhpilcilaa
open Go.RowKit

set_option maxHeartbeats 2000000 in
theorem HashKeeps.walk {w : World} (seed : Int) (_ : (Lit.int .u64 seed).wf = true) (level : Int) (_ : (Lit.int .i64 level).wf = true) (fan : Int) (_ : (Lit.int .i64 fan).wf = true)
    (A : Option Addr) (n c : Nat) (x : List Value × List (List V)) (hl0 : RdL w A n x.1 x.2 ∧ n ≤ c) (C : Option Addr) (m cc : Nat) (cs : List Int) (hc : Rd1 w C m (i64s cs)) :
    Calls Try.prog 6 #[.int .u64 seed, .int .i64 level, .int .i64 fan, .slice A n c, .slice C m cc] w fun e w' => e = .returned (.bool true) ∧ Below w.heap.size w w' := by
  obtain ⟨hds, rows⟩ := x
  obtain ⟨hl, hnc⟩ := hl0
  dsimp only at hl
  have hn := hl.hd.2.1
  have hm := hc.2.1
  have HL := Lib.hid lives_walk
  have HG := Lib.hid (large_walk (c := c) hl)
  have HD := Lib.hid (And.intro hl (And.intro hc hnc))
  clear hl hc hnc
  by_cases hm1 : 100 < m
  · go_enter Try.func6, Try.ntmps6
    go_wp2_with (first
      | (go_at_call 22; refine HG.out.mono ?_; rintro e w1 ⟨b, rfl, hw, hb3⟩; obtain rfl := hw.symm; clear hw hb3; cases b)
      | (go_at_call 13; refine (HL.out _).mono ?_; rintro e w2 ⟨rfl, bz⟩))
    all_goals
      go_ret
      exact ⟨by trivial, bz⟩
  by_cases hmay : 0 ≤ level ∧ level ≤ 8 ∧ 1 ≤ fan ∧ fan ≤ 64
  · obtain ⟨m1, m2, m3, m4⟩ := hmay
    obtain ⟨F, rfl⟩ : ∃ F : Nat, fan = F := ⟨fan.toNat, by omega⟩
    obtain ⟨E, hE⟩ : ∃ E, E = firstE cs rows := ⟨_, rfl⟩
    obtain ⟨ps, hps⟩ : ∃ ps, ps = partsOf F (hds.zip (numsOf seed level F cs rows)) := ⟨_, rfl⟩
    have HPS := Lib.hid hps
    have HEE := Lib.hid hE
    have HS := fun (hn3 : n ≤ 300) => split_walk (F := F) (c := c) (cc := cc) seed level cs HD.out.1 HD.out.2.1 m1 m2 (by omega) (by omega) (by omega) (by omega)
    rw [← hE, ← hps] at HS
    have HS := Lib.hid HS
    have hF64 : F ≤ 64 := by omega
    have hF1 : 1 ≤ F := by omega
    clear hE hps m3 m4
    by_cases hE0 : E = 0
    · have HE0 := Lib.hid hE0
      clear hE0
      go_enter Try.func6, Try.ntmps6
      go_wp2_with (first
        | (go_at_call 22; refine HG.out.mono ?_; rintro e w1 ⟨b, rfl, hw, hb3⟩; obtain rfl := hw.symm; clear hw; have HB3 := Lib.hid hb3; clear hb3; cases b)
        | (go_at_call 23; refine (HS.out (HB3.out (by trivial))).mono ?_; rintro e w2 hp; obtain ⟨g1, hs1, rfl, O1, B2⟩ := spost_ok hp HE0.out; have HO1 := Lib.hid O1; clear O1 hp)
        | (go_at_call 13; refine (HL.out _).mono ?_; rintro e w3 ⟨rfl, b3⟩; have B3 := B2.trans (b3.mono B2.size))
        | (go_at_call 13; refine (HL.out _).mono ?_; rintro e w2 ⟨rfl, bz⟩))
      all_goals first
        | (go_ret; exact ⟨by trivial, bz⟩)
        | skip
      obtain ⟨P, hPl, hPm, hPp, hPi⟩ := parts_facts (F := F) (seed := seed) (level := level) (cs := cs) HD.out.1 (HEE.out ▸ HE0.out) hF1 hF64
      have O3 : Outs w3 w.heap.size g1 hs1 (P.map (List.map Prod.fst)) := by
        have := HO1.out.below b3
        rwa [HPS.out, hPm] at this
      have hsl : hs1.length = F := by have := O3.len; simp at this; omega
      have hcl : cs.length = m := by simpa using HD.out.2.1.1
      have HI := HD.out.1.its
      have hIl : (itemsOf hds rows).length = n := by have := congrArg List.length HI.2.1; have h2 := HD.out.1.hd.1; simp at this; omega
      have hPt : P.flatten.length = n := hPp.length_eq.trans hIl
      have hn3 := HB3.out (by trivial)
      have HW3 := Lib.hid B3
      have HO3 := Lib.hid O3
      have HPP := Lib.hid (And.intro hPl (And.intro hPp (And.intro hPi (And.intro HI (And.intro hPt (And.intro hsl hcl))))))
      have hD3 : RdL w3 A n hds rows ∧ Rd1 w3 C m (i64s cs) := ⟨HD.out.1.below B3, HD.out.2.1.below B3⟩
      have HD3 := Lib.hid hD3
      have HI3 := Lib.hid (HI.1.below B3)
      clear O3 hsl hcl HI hIl hPt hPl hPm hPp hPi hD3 B3 B2 b3
      go_loopw [13, 14] (fun a i wr => ∃ k : Nat, k ≤ F ∧ i = .int .i64 k ∧ wr.ownsRow w3.heap.size 24 1 a (P.take k).flatten.length ((P.take k).flatten.map Prod.fst) ∧ Below w3.heap.size w3 wr) (fun _ i _ => F - (intOf i).toNat)
      case atStart => exact ⟨0, by omega, rfl, World.ownsRow_nil _ _ _ _, Below.refl _ _⟩
      case round =>
        obtain ⟨k, hk, rfl, ho, bel⟩ := hrel
        by_cases hlt : k < F
        · have hkP : k < P.length := by have := HPP.out.1; omega
          obtain ⟨q, hq⟩ : ∃ q, P[k]? = some q := ⟨_, List.getElem?_eq_getElem hkP⟩
          have hkh : k < hs1.length := by have := HPP.out.2.2.2.2.2.1; omega
          obtain ⟨h0, hh0⟩ : ∃ h0, hs1[k]? = some h0 := ⟨_, List.getElem?_eq_getElem hkh⟩
          have o0 := (HO3.out.below bel).own k h0 (q.map Prod.fst) hh0 (by rw [List.getElem?_map, hq]; rfl)
          obtain ⟨A1, c1, rfl⟩ := own_slice o0
          rw [List.length_map] at o0
          have rd := (Rd1.of_own o0).2
          have cg : wr.cell? ⟨g1, k, none⟩ = some (.slice A1 (q.map Prod.fst).length c1) := (cell_of_blk (HO3.out.below bel).blk k).trans (by simpa using hh0)
          rw [List.length_map] at cg
          have esn : (P.take (k + 1)).flatten = (P.take k).flatten ++ q := by
            rw [List.take_add_one, hq]
            simp
          have hlen : (P.take k).flatten.length + q.length ≤ 300 := by
            have h1 := congrArg List.length esn
            have h2 : (P.take (k + 1)).flatten.length ≤ P.flatten.length := by
              conv => rhs; rw [← List.take_append_drop (k + 1) P, List.flatten_append, List.length_append]
              omega
            have h3 := HPP.out.2.2.2.2.1
            rw [List.length_append] at h1
            omega
          obtain ⟨N, hN⟩ : ∃ N, N = (P.take k).flatten.length := ⟨_, rfl⟩
          rw [← hN] at ho hlen
          obtain ⟨Ao, co, rfl⟩ := own_slice ho
          have HQ := Lib.hid (And.intro hq (And.intro hh0 (And.intro esn (And.intro o0 hN))))
          have HRD := Lib.hid rd
          have hone : ∀ u ∈ q.map Prod.fst, u.oneCell' = true := by
            intro u hu
            obtain ⟨it, hit, rfl⟩ := List.mem_map.1 hu
            obtain ⟨B, mm, cx, e, _⟩ := HPP.out.2.2.2.1.1 it (HPP.out.2.2.1 k q hq it hit).1
            rw [e]; rfl
          have HON := Lib.hid hone
          have szr := bel.size
          clear hq hh0 o0 esn rd hone hkP hkh hN
          go_wp2_with (at_builtin; refine wp_appendL w3.heap.size rfl (.tmp 50) (.tmp 54) 38 24 (.slice none 0 0) 1 24 rfl Try.underlying38 info_L rfl (by omega) (by omega) (.slice Ao N co) N _ rfl A1 q.length c1 (q.map Prod.fst) rfl (by simp) (fun h => by obtain ⟨ad, e, _, hc⟩ := HRD.out.2.2 h; exact ⟨ad, e, hc⟩) HON.out ho szr (by omega) ?_; intro v1 w4 h1 t1 _)
          have B4 := below_turn bel t1 szr (fun k hk => own_ge ho hk)
          have HB4 := Lib.hid (And.intro h1 B4)
          clear h1 B4 t1 bel ho cg
          go_loopw [15] (fun i wq => ∃ j : Nat, j ≤ q.length ∧ i = .int .i64 j ∧ Below w4.heap.size w4 wq) (fun i _ => q.length - (intOf i).toNat)
          case atStart => exact ⟨0, by omega, rfl, Below.refl _ _⟩
          case round =>
            obtain ⟨j, hj, rfl, bq⟩ := hrel
            have BQ := HB4.out.2.trans (bq.mono HB4.out.2.size)
            have oq := (HO3.out.below BQ).own k _ (q.map Prod.fst) HQ.out.2.1 (by rw [List.getElem?_map, HQ.out.1]; rfl)
            rw [List.length_map] at oq
            have rdq := (Rd1.of_own oq).2
            have cg := (cell_of_blk (HO3.out.below BQ).blk k).trans (show hs1.toArray[k]? = some (.slice A1 q.length c1) by simpa using HQ.out.2.1)
            by_cases hjl : j < q.length
            · obtain ⟨ad1, rfl, had1, hc1⟩ := rdq.at2 hjl
              have hmem : q[j] ∈ q := List.getElem_mem hjl
              obtain ⟨f1, f2, f3⟩ := HPP.out.2.2.1 k q HQ.out.1 q[j] hmem
              obtain ⟨B, mm, cx, ex, hv⟩ := HI3.out.below BQ q[j] f1
              rw [List.getElem?_map, List.getElem?_eq_getElem hjl, Option.map_some, ex] at hc1
              obtain ⟨g1', g2', g3'⟩ := rowE_zero f2
              have HPK := refpick_ok (c := cx) (cc := cc) q[j].2 cs hv (HD3.out.2.below BQ) g1' (by omega)
              have HPA := fun (W : World) A' n' c' (h : RdV W A' n' (pickR q[j].2 cs)) => f3 ▸ part_ok (c := c') seed level F (pickR q[j].2 cs) h g3' m1 m2 (by omega) (by omega)
              have HPK := Lib.hid HPK
              have HPA := Lib.hid HPA
              have HST := Lib.hid (pickR_str hv.str cs)
              clear oq rdq hmem f1 f2 f3 ex hv g1' g2' g3' BQ
              go_wp2_with (first
                | (go_at_call 26; refine HPK.out.mono ?_; rintro e w5 ⟨v5, rfl, o5, b5⟩; obtain ⟨A5, c5, rfl⟩ := own_slice o5; have HP2 := Lib.hid (HPA.out _ _ _ c5 (RdV.of_own o5 HST.out).2))
                | (go_at_call 19; refine HP2.out.mono ?_; rintro e w6 ⟨rfl, b6⟩; have b56 := bq.trans ((b5.trans (b6.mono b5.size)).mono bq.size)))
              go_roundw
              case rel => exact ⟨j + 1, by omega, by go_num, b56⟩
              case measure => simp [intOf]; omega
            · obtain rfl : j = q.length := by omega
              have oz := own_below HB4.out.1 bq
              rw [HQ.out.2.2.2.2, ← List.length_append, ← List.map_append, ← HQ.out.2.2.1] at oz
              have HZ := Lib.hid (And.intro oz BQ)
              clear oq rdq oz BQ
              go_wp2
              go_roundw
              case rel => exact ⟨k + 1, by omega, by go_num, HZ.out⟩
              case measure => simp [intOf]; omega
        · obtain rfl : k = F := by omega
          have hPk : P.take k = P := List.take_of_length_le (by have := HPP.out.1; omega)
          rw [hPk, HPP.out.2.2.2.2.1] at ho
          obtain ⟨Ao, co, rfl, hco⟩ := own_slice_cap ho
          have hI := HPP.out.2.2.2.1
          have hmem : RdIts wr P.flatten := fun x hx => HI3.out.below bel x (HPP.out.2.1.subset hx)
          have S1 := sort_walk n (by omega) wr Ao co P.flatten (Rd1.of_own ho).2 hmem hco
          have S2 := fun (W : World) (b : Below w3.heap.size w3 W) => sort_walk n (by omega) W A c (itemsOf hds rows) (by rw [hI.2.1]; exact (HD3.out.1.below b).hd) (HI3.out.below b) HD.out.2.2
          have HS1 := Lib.hid S1
          have HS2 := Lib.hid S2
          have HBE := Lib.hid bel
          have HME := Lib.hid hmem
          clear S1 S2 ho hI hmem hPk bel hco
          go_wp2_with (first
            | (go_at_call 28; (with_reducible refine HS1.out.mono ?_); rintro e w5 ⟨v5, j5, rfl, o5, p5, s5, b5⟩; have B5 := HBE.out.trans (b5.mono HBE.out.size))
            | (go_at_call 28; refine (HS2.out _ B5).mono ?_; rintro e w6 ⟨v6, j6, rfl, o6, p6, s6, b6⟩; have o5' := own_below o5 b6; obtain ⟨A5, c5, rfl⟩ := own_slice o5'; obtain ⟨A6, c6, rfl⟩ := own_slice o6; have B6 := B5.trans (b6.mono B5.size); have HSL := Lib.hid (samelist_rows (c := c5) (c2 := c6) j5 j6 (Rd1.of_own o5').2 (Rd1.of_own o6).2 (fun x hx => HI3.out.below B6 x (HPP.out.2.1.subset (p5.subset hx))) (fun x hx => HI3.out.below B6 x (p6.subset hx)) (sorted_perm ((p5.trans (HPP.out.2.1.trans p6.symm)).map Prod.snd) (List.pairwise_map.2 s5) (List.pairwise_map.2 s6))))
            | (go_at_call 27; refine HSL.out.mono ?_; rintro e w7 ⟨rfl, b7⟩))
          go_ret
          exact ⟨by trivial, HW3.out.trans ((B6.trans (b7.mono B6.size)).mono HW3.out.size)⟩
    · have HE0 := Lib.hid hE0
      have hE1 : (E != 0) = true := by simpa using hE0
      clear hE0
      go_enter Try.func6, Try.ntmps6
      go_wp2_with (first
        | (go_at_call 22; refine HG.out.mono ?_; rintro e w1 ⟨b, rfl, hw, hb3⟩; obtain rfl := hw.symm; clear hw; have HB3 := Lib.hid hb3; clear hb3; cases b)
        | (go_at_call 23; refine (HS.out (HB3.out (by trivial))).mono ?_; rintro e w2 hp; obtain ⟨rfl, B2⟩ := spost_bad hp HE0.out; clear hp)
        | (go_at_call 13; refine (HL.out _).mono ?_; rintro e w3 ⟨rfl, b3⟩; have bz := B2.trans (b3.mono B2.size); clear B2; have B2 := bz; clear bz; have bz := B2)
        | (go_at_call 13; refine (HL.out _).mono ?_; rintro e w2 ⟨rfl, bz⟩))
      all_goals
        go_ret
        exact ⟨by trivial, bz⟩
  · have HS := Lib.hid (fun W v c => split_arg W seed level fan v c hmay)
    clear hmay
    go_enter Try.func6, Try.ntmps6
    go_wp2_with (first
      | (go_at_call 22; refine HG.out.mono ?_; rintro e w1 ⟨b, rfl, hw, hb3⟩; obtain rfl := hw.symm; clear hw hb3; cases b)
      | (go_at_call 23; refine (HS.out _ _ _).mono ?_; rintro e w2 ⟨rfl, hw⟩; obtain rfl := hw.symm; clear hw)
      | (go_at_call 13; refine (HL.out _).mono ?_; rintro e w3 ⟨rfl, bb⟩; have bz := bz.trans (bb.mono bz.size))
      | (go_at_call 13; refine (HL.out _).mono ?_; rintro e w2 ⟨rfl, bz⟩))
    all_goals
      go_ret
      exact ⟨by trivial, bz⟩
section
open Go.ChangeShapes Go.WideShapes Go.Deep
variable {H : Type} {enc : TypeId × Value → H} {W : World} {base : Nat} {spare : Nat → Bool} {held : Bool}
theorem LawHashKeeps.open_SSValue {A : Option Addr} {len cap : Nat} {d : DataW H} {ps : List MemPlace} (h : DataW.Trod enc Try.prog W base spare held 38 (.slice A len cap) d ps) : ∃ x : List Value × List (List V), RdL W A len x.1 x.2 ∧ len ≤ cap := by
  obtain ⟨x, hx⟩ := Go.Proofs.Ytlldkdhpilcilaa.open_SSValue h
  obtain ⟨fuel, hf⟩ := h
  refine ⟨x, hx, ?_⟩
  rcases open_slice Try.underlying38 hf with ⟨hcs, _⟩ | ⟨a, l, c, m, n, D, Pl, hcs, hb, hl, _⟩
  · obtain ⟨_, rfl, rfl⟩ := slice_cells hcs
    exact Nat.le_refl _
  · obtain ⟨_, rfl, rfl⟩ := slice_cells hcs
    exact hl
end
end Go.Proofs.Ytlldkdhpilcilaa
