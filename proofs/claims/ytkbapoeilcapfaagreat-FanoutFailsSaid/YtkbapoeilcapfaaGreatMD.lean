/- Pages of rows. -/
import Derived.Test.YtkbapoeilcapfaaGreatMC
import Derived.Laws.BitsAllLaws
import Derived.Laws.CopyOwn
import Derived.Lib.SliceRun
import Derived.RegionTactic
import Derived.BigRegion
import Derived.Deep.RegionLaw
/- a page: are bytes free; where a row begins. -/
namespace Go.Proofs.YtkbapoeilcapfaaGreat
open Go.RowKit
set_option linter.unusedVariables false
set_option linter.unusedSimpArgs false

def isZ (x : Int) : Bool := decide (x = 0)
theorem z_walk {w : World} (x : Int) (b : Bool) (h : isZ x = b) : Calls Tryz.prog 132 #[.int .u8 x] w fun e w' => e = .returned (.bool (!b)) ∧ w' = w := by
  have HH := Lib.hid h
  clear h
  go_enter Tryz.func132, Tryz.ntmps132
  go_wp2
  go_ret
  refine ⟨ret_bool ?_, rfl⟩
  rw [← HH.out]
  unfold isZ
  show (x != 0) = _
  by_cases h : x = 0 <;> simp [h]
def ZPost (b : Bool) (w : World) (e : Ending) (w' : World) : Prop := ∃ i : Int, e = .returned (.int .i64 i) ∧ decide (0 ≤ i) = b ∧ w' = w
theorem idxB_walk {w : World} {C : Option Addr} {m cc : Nat} (cs : List Int) (hr : Rd1 w C m (u8s cs)) :
    Calls Tryz.prog 151 #[.slice C m cc, .func (.func 132) #[] #[]] w (ZPost (!cs.all isZ) w) := by
  have hm := hr.2.1
  have hl : cs.length = m := by simpa using hr.1
  go_enter Tryz.func151, Tryz.ntmps151
  go_wp2
  go_loopw [8] (fun i wr => ∃ k : Nat, k ≤ m ∧ i = .int .i64 k ∧ (cs.take k).all isZ = true ∧ wr = w) (fun i _ => m - (intOf i).toNat)
  case atStart => exact ⟨0, by omega, rfl, rfl, rfl⟩
  case round =>
    obtain ⟨k, hk, rfl, hall, rfl⟩ := hrel
    have HA := Lib.hid hall
    clear hall
    by_cases hlt : k < m
    · obtain ⟨ad, rfl, had, hc⟩ := hr.at2 hlt
      have hkl : k < cs.length := by omega
      rw [getD_map 0 hkl] at hc
      have HT := allI_take (p := isZ) hkl
      have HF := allI_false (p := isZ) hkl
      obtain ⟨x, hx⟩ : ∃ x, x = cs.getD k 0 := ⟨_, rfl⟩
      rw [← hx] at hc HT HF
      have HT := Lib.hid HT
      have HF := Lib.hid HF
      clear hx hr
      cases ho : isZ x with
      | true =>
        have HO := Lib.hid (z_walk (w := wr) x true ho)
        have H2 := Lib.hid ho
        clear ho
        go_wp2_with (go_at_call 132; refine HO.out.mono ?_; rintro e w1 ⟨rfl, rfl⟩)
        go_roundw
        case rel => exact ⟨k + 1, by omega, by go_num, by rw [HT.out, HA.out, H2.out]; rfl, by trivial⟩
        case measure => simp [intOf]; omega
      | false =>
        have HO := Lib.hid (z_walk (w := wr) x false ho)
        have H2 := Lib.hid (HF.out ho)
        clear ho
        go_wp2_with (go_at_call 132; refine HO.out.mono ?_; rintro e w1 ⟨rfl, rfl⟩)
        go_ret
        exact ⟨k, rfl, by rw [H2.out]; simp, rfl⟩
    · go_wp2
      go_ret
      have h := HA.out
      rw [List.take_of_length_le (by omega)] at h
      exact ⟨-1, rfl, by rw [h]; rfl, rfl⟩
theorem conB_walk {w : World} {C : Option Addr} {m cc : Nat} (cs : List Int) (hr : Rd1 w C m (u8s cs)) (b : Bool) (hb : cs.all isZ = b) :
    Calls Tryz.prog 131 #[.slice C m cc, .func (.func 132) #[] #[]] w fun e w' => e = .returned (.bool (!b)) ∧ w' = w := by
  have HI := Lib.hid (idxB_walk (cc := cc) cs hr)
  subst hb
  clear hr
  go_enter Tryz.func131, Tryz.ntmps131
  go_wp2_with (go_at_call 151; refine HI.out.mono ?_; rintro e w1 ⟨i, rfl, hi, rfl⟩; have H := Lib.hid hi; clear hi)
  go_ret
  exact ⟨by rw [← H.out]; rfl, by trivial⟩
theorem ori64 {z y : Int} (z0 : 0 ≤ z) (z1 : z ≤ 255) (y0 : 0 ≤ y) (y1 : y ≤ 255) : bits .or .i64 (z * 256) y = z * 256 + y := by
  obtain ⟨a, rfl⟩ := Int.eq_ofNat_of_zero_le z0
  obtain ⟨c, rfl⟩ := Int.eq_ofNat_of_zero_le y0
  have e : ((a : Int) * 256) = ((a * 256 : Nat) : Int) := by omega
  have h : a * 256 ||| c = a * 256 + c := by
    have := Nat.shiftLeft_add_eq_or_of_lt (i := 8) (b := c) (by omega) a
    rw [Nat.shiftLeft_eq] at this
    exact this.symm
  rw [e]
  show IntKind.i64.wrap ((BitVec.ofInt 64 ((a * 256 : Nat) : Int) ||| BitVec.ofInt 64 (c : Int)).toNat : Int) = _
  rw [BitVec.toNat_or, ofInt_u64 (a * 256) (by omega), ofInt_u64 c (by omega), h]
  have e2 : ((a * 256 + c : Nat) : Int) % 2 ^ 64 = (a * 256 + c : Nat) := Int.emod_eq_of_lt (by omega) (by omega)
  simp only [IntKind.wrap, IntKind.bits, IntKind.signed, e2]
  rw [if_neg]
  · omega
  · simp
    omega
/-- Where row i begins. -/
def startS (p : List Int) (i : Nat) : Int := p.getD (256 - 2 * (i + 1)) 0 * 256 + p.getD (256 - 2 * (i + 1) + 1) 0
theorem start_walk {w : World} {ad : Addr} {c i : Nat} {p : List Int} (hr : Rd1 w (some ad) 256 (u8s p)) (hb : isB p) (hi : 2 * (i + 1) ≤ 256) :
    Calls Tryz.prog 130 #[.slice (some ad) 256 c, .int .i64 i] w fun e w' => e = .returned (.int .i64 (startS p i)) ∧ Below w.heap.size w w' := by
  have hl : p.length = 256 := by simpa using hr.1
  obtain ⟨a, ha⟩ : ∃ a, a = 256 - 2 * (i + 1) := ⟨_, rfl⟩
  have ha2 : a + 1 < 256 := by omega
  obtain ⟨ad', e, had, h0⟩ := hr.at2 (k := a) (by omega)
  obtain rfl := Option.some.inj e
  obtain ⟨ad', e, _, h1⟩ := hr.at2 (k := a + 1) (by omega)
  obtain rfl := Option.some.inj e
  rw [getD_map 0 (by omega)] at h0 h1
  have D0 := getD_isB hb a
  have D1 := getD_isB hb (a + 1)
  have HS : startS p i = p.getD a 0 * 256 + p.getD (a + 1) 0 := by unfold startS; rw [← ha]
  obtain ⟨x, hx⟩ : ∃ x, x = p.getD a 0 := ⟨_, rfl⟩
  obtain ⟨y, hy⟩ : ∃ y, y = p.getD (a + 1) 0 := ⟨_, rfl⟩
  rw [← hx] at h0 D0 HS
  rw [← hy] at h1 D1 HS
  have HS := Lib.hid HS
  have hw : (256 : Int) - 2 * ((i : Int) + 1) = a := by omega
  obtain ⟨a1, ha1⟩ : ∃ a1, a1 = a + 1 := ⟨_, rfl⟩
  have hw1 : (a : Int) + 1 = a1 := by omega
  rw [← ha1] at h1 ha2
  have ha3 : a < 256 := by omega
  have hi2 : (i : Int) ≤ 255 := by omega
  clear hx hy e hr ha ha1 hl hi
  go_enter Tryz.func130, Tryz.ntmps130
  go_wp2
  go_quiet (fail)
  go_wp2
  go_ret
  refine ⟨ret_int ?_, ⟨rfl, rfl, rfl, Nat.le_refl _, fun _ _ => rfl⟩⟩
  rw [HS.out, ← ori64 D0.1 D0.2 D1.1 D1.2]
end Go.Proofs.YtkbapoeilcapfaaGreat
namespace Go.Proofs.YtkbapoeilcapfaaGreat
open Go.RowKit
set_option linter.unusedVariables false
set_option linter.unusedSimpArgs false

def scanA (p : List Int) (en : Nat) : Nat → Nat → Nat → List (List V) → Option (List (List V) × Nat)
  | 0, _, a, acc => if ((p.drop a).take (en - a)).all isZ = true then some (acc, a) else none
  | k + 1, i, a, acc => match decR ((p.drop a).take (en - a)) with
    | none => none
    | some (r, m) => if startS p i = a then scanA p en k (i + 1) (a + m) (acc ++ [r]) else none
def scanS (p : List Int) : Option (List (List V) × Nat) :=
  if p.length = 256 ∧ 2 * (p.getD 0 0).toNat < 256 then scanA p (256 - 2 * (p.getD 0 0).toNat) (p.getD 0 0).toNat 0 1 [] else none
/-- Rows that a call owns, by their headers. -/
structure OwnRs (w : World) (base : Nat) (hds : List Value) (rows : List (List V)) : Prop where
  len : hds.length = rows.length
  own : ∀ (i : Nat) h r, hds[i]? = some h → rows[i]? = some r → w.ownsRow base 86 3 h r.length (cellsR r)
  ok : ∀ r ∈ rows, rowOk r = true
theorem own_ne_own {w : World} {b1 b2 : Nat} {e1 e2 : TypeId} {s1 s2 n1 n2 : Nat} {v1 v2 : Value} {x1 x2 : List Value} (h1 : w.ownsRow b1 e1 s1 v1 n1 x1) (h2 : w.ownsRow b2 e2 s2 v2 n2 x2) (hne : e1 ≠ e2) {k : Nat} (hk : v1.ownBlock = some k) : ¬ v2.ownBlock = some k := by
  intro hk2
  rcases h2.2 with ⟨rfl, _⟩ | ⟨g', cap', cur, rfl, _, hg', _⟩
  · cases hk2
  · obtain rfl : g' = k := by simpa [Value.ownBlock] using hk2
    exact own_ne_typed h1 hg' hne _ hk rfl
theorem OwnRs.nil (w : World) (base : Nat) : OwnRs w base [] [] := ⟨rfl, fun i h r hh => by simp at hh, fun r hr => by simp at hr⟩
theorem OwnRs.turn {S : Nat → Prop} {w w' : World} {base : Nat} {hds : List Value} {rows : List (List V)} (h : OwnRs w base hds rows) (ht : Turn S w w') (hs : ∀ v n r, w.ownsRow base 86 3 v n r → ∀ k, v.ownBlock = some k → ¬ S k) : OwnRs w' base hds rows :=
  ⟨h.len, fun i x r hx hr => own_turn (h.own i x r hx hr) ht (hs _ _ _ (h.own i x r hx hr)), h.ok⟩
theorem OwnRs.below {w w' : World} {base : Nat} {hds : List Value} {rows : List (List V)} (h : OwnRs w base hds rows) (hb : Below w.heap.size w w') : OwnRs w' base hds rows :=
  h.turn (Turn.of_below hb (fun _ => False)) (fun _ _ _ _ _ _ => id)
theorem OwnRs.lower {w : World} {base base' : Nat} {hds : List Value} {rows : List (List V)} (h : OwnRs w base hds rows) (hb : base' ≤ base) : OwnRs w base' hds rows :=
  ⟨h.len, fun i x r hx hr => own_lower (h.own i x r hx hr) hb, h.ok⟩
theorem OwnRs.snoc {w : World} {base : Nat} {hds : List Value} {rows : List (List V)} {x : Value} {r : List V} (h : OwnRs w base hds rows) (hx : w.ownsRow base 86 3 x r.length (cellsR r)) (hr : rowOk r = true) : OwnRs w base (hds ++ [x]) (rows ++ [r]) := by
  refine ⟨by simp [h.len], fun i y s hy hs => ?_, fun s hs => ?_⟩
  · rcases Nat.lt_or_ge i hds.length with hl | hl
    · rw [List.getElem?_append_left hl] at hy
      rw [List.getElem?_append_left (by rw [← h.len]; exact hl)] at hs
      exact h.own i y s hy hs
    · rw [List.getElem?_append_right hl] at hy
      rw [List.getElem?_append_right (by rw [← h.len]; exact hl), ← h.len] at hs
      rcases hz : i - hds.length with _ | j
      · rw [hz] at hy hs
        simp at hy hs
        subst hy hs
        exact hx
      · rw [hz] at hy
        simp at hy
  · rcases List.mem_append.1 hs with e | e
    · exact h.ok s e
    · obtain rfl : s = r := by simpa using e
      exact hr
def ScanP (w : World) (o : Option (List (List V) × Nat)) (e : Ending) (w' : World) : Prop :=
  (match o with
  | some (rows, a) => ∃ A c hds, e = .returned (.tuple #[.slice A rows.length c, .int .i64 a, .int .i64 0]) ∧ w'.ownsRow w.heap.size 25 1 (.slice A rows.length c) rows.length hds ∧ OwnRs w' w.heap.size hds rows
  | none => e = .returned (.tuple #[.slice none 0 0, .int .i64 0, .int .i64 40])) ∧ Below w.heap.size w w'
theorem ScanP.none {w w' : World} {o : Option (List (List V) × Nat)} (h : o = Option.none) {e : Ending} (he : e = .returned (.tuple #[.slice Option.none 0 0, .int .i64 0, .int .i64 40])) (b : Below w.heap.size w w') : ScanP w o e w' := by
  subst h
  exact ⟨he, b⟩
theorem scan_len {w : World} {A : Option Addr} {n c : Nat} {p : List Int} (hl : p.length = n) (h : n ≠ 256) : Calls Tryz.prog 105 #[.slice A n c] w (ScanP w (scanS p)) := by
  have HS := Lib.hid (show scanS p = none by unfold scanS; rw [if_neg (by omega)])
  have hn : ((n : Int) != 256) = true := by simp; omega
  clear hl
  go_enter Tryz.func105, Tryz.ntmps105
  go_wp2
  go_ret3
  exact ScanP.none HS.out rfl (Below.refl _ _)
theorem scan_many {w : World} {ad : Addr} {c k : Nat} {t : List Int} (h : Rd1 w (some ad) 256 (u8s ((k : Int) :: t))) (hk : 128 ≤ k) (hk5 : k ≤ 255) : Calls Tryz.prog 105 #[.slice (some ad) 256 c] w (ScanP w (scanS ((k : Int) :: t))) := by
  obtain ⟨c0, had, hn⟩ := rd_head h
  have HS := Lib.hid (show scanS ((k : Int) :: t) = none by unfold scanS; rw [if_neg]; simp; omega)
  have hlt : decide ((256 : Int) - 2 * (k : Int) < 1) = true := by simp; omega
  clear h
  go_enter Tryz.func105, Tryz.ntmps105
  go_wp2
  go_ret3
  exact ScanP.none HS.out rfl (Below.refl _ _)
end Go.Proofs.YtkbapoeilcapfaaGreat
namespace Go.Proofs.YtkbapoeilcapfaaGreat
open Go.RowKit
set_option linter.unusedVariables false
set_option linter.unusedSimpArgs false

theorem get_none {w : World} {n c : Nat} {ad : Addr} {bs : List Int} (hr : Rd1 w (some ad) n (u8s bs)) (hb : isB bs) (hab : ad.block < w.heap.size) (hnc : n ≤ c) (hc : c ≤ 9223372036854775807) (hn : n ≤ 100000) (h : decR bs = none) :
    Calls Tryz.prog 129 #[.slice (some ad) n c] w fun e w' => e = .returned (.tuple #[.slice none 0 0, .int .i64 0, .int .i64 20]) ∧ Below w.heap.size w w' := by
  refine (get_walk hr hb hab hnc hc hn).mono ?_
  intro e w' H
  unfold GetPost at H
  rw [h] at H
  exact H
theorem get_some {w : World} {n c : Nat} {ad : Addr} {bs : List Int} (hr : Rd1 w (some ad) n (u8s bs)) (hb : isB bs) (hab : ad.block < w.heap.size) (hnc : n ≤ c) (hc : c ≤ 9223372036854775807) (hn : n ≤ 100000) {r : List V} {m : Nat} (h : decR bs = some (r, m)) :
    Calls Tryz.prog 129 #[.slice (some ad) n c] w fun e w' => ∃ B c', e = .returned (.tuple #[.slice B r.length c', .int .i64 m, .int .i64 0]) ∧ w'.ownsRow w.heap.size 86 3 (.slice B r.length c') r.length (cellsR r) ∧ Below w.heap.size w w' := by
  refine (get_walk hr hb hab hnc hc hn).mono ?_
  intro e w' H
  unfold GetPost at H
  rw [h] at H
  obtain ⟨⟨v', rfl, ho⟩, b⟩ := H
  obtain ⟨B, c', rfl⟩ := own_slice ho
  exact ⟨B, c', rfl, ho, b⟩
theorem scanA_succ (p : List Int) (en k i a : Nat) (acc : List (List V)) : scanA p en (k + 1) i a acc = match decR ((p.drop a).take (en - a)) with
    | none => none
    | some (r, m) => if startS p i = a then scanA p en k (i + 1) (a + m) (acc ++ [r]) else none := rfl
set_option maxHeartbeats 400000 in
theorem scan_ok {w : World} {ad : Addr} {c k : Nat} {t : List Int} (h : Rd1 w (some ad) 256 (u8s ((k : Int) :: t))) (hb : isB ((k : Int) :: t)) (hk : k < 128) (hc : 256 ≤ c) (hc6 : c ≤ 9223372036854775807) : Calls Tryz.prog 105 #[.slice (some ad) 256 c] w (ScanP w (scanS ((k : Int) :: t))) := by
  obtain ⟨c0, had, hn⟩ := rd_head h
  obtain ⟨p, hp⟩ : ∃ p, p = (k : Int) :: t := ⟨_, rfl⟩
  obtain ⟨en, hen⟩ : ∃ en, en = 256 - 2 * k := ⟨_, rfl⟩
  have hS : scanS ((k : Int) :: t) = scanA p en k 0 1 [] := by
    unfold scanS
    rw [if_pos (by simp; omega), hen, ← hp]
    simp [hp]
  rw [hS]
  rw [← hp] at h hb
  have hw : (256 : Int) - 2 * (k : Int) = en := by omega
  have hen1 : 1 ≤ en := by omega
  have hen2 : en ≤ 256 := by omega
  have HE := Lib.hid (And.intro hen hk)
  have HH := Lib.hid (And.intro h (And.intro hb (show p.length = 256 by simpa using h.1)))
  clear h hb hp hS hen hn hk
  go_enter Tryz.func105, Tryz.ntmps105
  go_wp2
  go_loopw [7, 8, 28] (fun q o x wr => ∃ (i a : Nat) (A : Option Addr) (C : Nat) (hds : List Value) (rows : List (List V)), i ≤ k ∧ a ≤ en ∧ q = .int .i64 a ∧ x = .int .i64 i ∧ o = .slice A i C ∧ rows.length = i ∧ scanA p en k 0 1 [] = scanA p en (k - i) i a rows ∧ wr.ownsRow w.heap.size 25 1 (.slice A i C) i hds ∧ OwnRs wr w.heap.size hds rows ∧ Below w.heap.size w wr) (fun _ _ x _ => k - (intOf x).toNat)
  case atStart => exact ⟨0, 1, none, 0, [], [], by omega, hen1, rfl, rfl, rfl, rfl, rfl, World.ownsRow_nil _ _ _ _, OwnRs.nil _ _, Below.refl _ _⟩
  case round =>
    obtain ⟨i, a, A, C, hds, rows, hi, ha, rfl, rfl, rfl, hrl, hsc, ho, hrs, bel⟩ := hrel
    have szr := bel.size
    have hbw : ad.block < wr.heap.size := by omega
    by_cases hlt : i < k
    · rw [show k - i = k - (i + 1) + 1 by omega, scanA_succ] at hsc
      have R2 : ∃ ad2, (if en = a then some ad else some (ad.add a)) = some ad2 ∧ Rd1 wr (some ad2) (en - a) (u8s ((p.drop a).take (en - a))) ∧ ad2.block < wr.heap.size := by
        by_cases hae : en = a
        · refine ⟨ad, by rw [if_pos hae], ?_, hbw⟩
          subst hae
          rw [Nat.sub_self]
          exact ⟨by simp, by omega, fun h => absurd h (by omega)⟩
        · refine ⟨ad.add a, by rw [if_neg hae], ?_, by rw [add_block]; exact hbw⟩
          have := ((HH.out.1.below bel).drop (h := a) (by omega)).take (h := en - a) (by omega)
          rwa [← List.map_drop, ← List.map_take] at this
      obtain ⟨ad2, had2, hr2, hb2⟩ := R2
      have hbt : isB ((p.drop a).take (en - a)) := (HH.out.2.1.drop a).take _
      have HG := Lib.hid (And.intro ho (And.intro hrs (And.intro bel hrl)))
      have HI := Lib.hid (show 2 * (i + 1) ≤ 256 by have := HE.out; omega)
      have hac : a ≤ c := by omega
      have henc : en ≤ c := by omega
      cases hd : decR ((p.drop a).take (en - a)) with
      | none =>
        rw [hd] at hsc
        have HD := Lib.hid (show scanA p en k 0 1 [] = none from hsc)
        have HC := get_none hr2 hbt hb2 (Nat.le_refl _) (by omega) (by omega) hd
        rw [← had2] at HC
        have HC := Lib.hid HC
        clear hr2 hbt ho hrs bel hd hsc hrl had2
        go_wp2_with (go_at_call 129; refine HC.out.mono ?_; rintro e w2 ⟨rfl, b2⟩)
        all_goals go_ret3
        all_goals first
          | exact ScanP.none HD.out rfl (HG.out.2.2.1.trans (b2.mono szr))
          | (obtain rfl : en = a := by assumption
             exact ScanP.none HD.out rfl (HG.out.2.2.1.trans (b2.mono szr)))
      | some x =>
        obtain ⟨r, m⟩ := x
        rw [hd] at hsc
        have S := decR_sound hbt hd
        have hm : a + m ≤ en := by
          have := S.2.2.2
          rw [List.length_take] at this
          omega
        have HC := get_some hr2 hbt hb2 (Nat.le_refl _) (by omega) (by omega) hd
        rw [← had2] at HC
        have HC := Lib.hid HC
        have HR := Lib.hid S.1
        obtain ⟨z, hz⟩ : ∃ z, z = startS p i := ⟨_, rfl⟩
        have HSt := fun w2 (b : Below wr.heap.size wr w2) => start_walk (c := c) (i := i) ((HH.out.1.below bel).below b) HH.out.2.1 HI.out
        rw [← hz] at HSt
        have HSt := Lib.hid HSt
        by_cases hza : z = a
        · replace hsc : scanA p en k 0 1 [] = scanA p en (k - (i + 1)) (i + 1) (a + m) (rows ++ [r]) := by
            have h2 : scanA p en k 0 1 [] = if startS p i = a then scanA p en (k - (i + 1)) (i + 1) (a + m) (rows ++ [r]) else none := hsc
            rw [h2, ← hz, if_pos hza]
          have HD := Lib.hid hsc
          subst hza
          clear hr2 hbt ho hrs bel hd hsc hrl had2 S hz
          go_wp2_with (first
            | (go_at_call 129; refine HC.out.mono ?_; rintro e w2 ⟨B, c', rfl, hrow, b2⟩; have HRow := Lib.hid hrow; have B2 := Lib.hid b2; clear hrow b2)
            | (go_at_call 130; refine (HSt.out _ B2.out).mono ?_; rintro e w3 ⟨rfl, b3⟩; have h3 := own_below (own_below HG.out.1 B2.out) b3; have s3 : w.heap.size ≤ w3.heap.size := Nat.le_trans szr (Nat.le_trans B2.out.size b3.size); have HRow3 := Lib.hid (own_lower (own_below HRow.out b3) szr); have B3 := Lib.hid ((HG.out.2.2.1.trans (B2.out.mono szr)).trans (b3.mono (Nat.le_trans szr B2.out.size))); have RS3 := Lib.hid ((HG.out.2.1.below B2.out).below b3); clear b3)
            | (at_builtin; refine wp_append1 w.heap.size rfl (.tmp 50) (.tmp 52) 23 25 (.slice none 0 0) 1 24 rfl Tryz.underlying23 info_L rfl (by omega) (by omega) (.slice A i C) i _ [.slice B r.length c'] rfl rfl (by simp) rfl (by simp [Value.oneCell']) h3 s3 (by omega) ?_; intro v1 w4 h4 t4 _))
          obtain ⟨A4, c4, rfl⟩ := own_slice h4
          have B4 := below_turn B3.out t4 s3 (fun i hi => own_ge h3 hi)
          have RS4 := (RS3.out.snoc HRow3.out HR.out).turn t4 (fun v n r hv k hk => own_ne_own hv h3 (by decide) hk)
          go_roundw
          case rel =>
            refine ⟨i + 1, a + m, A4, c4, _, _, by omega, hm, by go_num, by go_num, rfl, ?_, HD.out, h4, RS4, B4⟩
            have := HG.out.2.2.2
            simp [this]
          case measure => simp [intOf]; omega
        · replace hsc : scanA p en k 0 1 [] = none := by
            have h2 : scanA p en k 0 1 [] = if startS p i = a then scanA p en (k - (i + 1)) (i + 1) (a + m) (rows ++ [r]) else none := hsc
            rw [h2, ← hz, if_neg hza]
          have HD := Lib.hid hsc
          have hzb : (z != (a : Int)) = true := by simpa using hza
          clear hr2 hbt ho hrs bel hd hsc hrl had2 S hz hza
          go_wp2_with (first
            | (go_at_call 129; refine HC.out.mono ?_; rintro e w2 ⟨B, c', rfl, hrow, b2⟩; have B2 := Lib.hid b2; clear hrow b2)
            | (go_at_call 130; refine (HSt.out _ B2.out).mono ?_; rintro e w3 ⟨rfl, b3⟩; have B3 := Lib.hid ((HG.out.2.2.1.trans (B2.out.mono szr)).trans (b3.mono (Nat.le_trans szr B2.out.size))); clear b3))
          all_goals go_ret3
          all_goals first
            | exact ScanP.none HD.out rfl B3.out
            | (obtain rfl : en = a := by assumption
               exact ScanP.none HD.out rfl B3.out)
    · obtain rfl : i = k := by omega
      rw [Nat.sub_self] at hsc
      replace hsc : scanA p en i 0 1 [] = if ((p.drop a).take (en - a)).all isZ = true then some (rows, a) else none := hsc
      have R2 : Rd1 wr (if c = a then some ad else some (ad.add a)) (en - a) (u8s ((p.drop a).take (en - a))) := by
        by_cases hae : c = a
        · rw [if_pos hae]
          have : en = a := by omega
          subst this
          rw [Nat.sub_self]
          exact ⟨by simp, by omega, fun h => absurd h (by omega)⟩
        · rw [if_neg hae]
          have := ((HH.out.1.below bel).drop (h := a) (by omega)).take (h := en - a) (by omega)
          rwa [← List.map_drop, ← List.map_take] at this
      have hac : a ≤ c := by omega
      have henc : en ≤ c := by omega
      have HG := Lib.hid (And.intro ho (And.intro hrs (And.intro bel hrl)))
      cases hz : ((p.drop a).take (en - a)).all isZ with
      | true =>
        rw [hz] at hsc
        have HD := Lib.hid (show scanA p en i 0 1 [] = some (rows, a) from hsc)
        have HC := Lib.hid (conB_walk (cc := c - a) _ R2 true hz)
        clear ho hrs bel hrl hsc hz R2
        go_wp2_with (go_at_call 131; refine HC.out.mono ?_; rintro e w2 ⟨rfl, hw2⟩; obtain rfl := hw2.symm; clear hw2)
        all_goals go_ret3
        all_goals rw [HD.out]
        all_goals obtain rfl := HG.out.2.2.2
        all_goals exact ⟨⟨_, _, _, rfl, HG.out.1, HG.out.2.1⟩, HG.out.2.2.1⟩
      | false =>
        rw [hz] at hsc
        have HD := Lib.hid (show scanA p en i 0 1 [] = none from hsc)
        have HC := Lib.hid (conB_walk (cc := c - a) _ R2 false hz)
        clear ho hrs bel hrl hsc hz R2
        go_wp2_with (go_at_call 131; refine HC.out.mono ?_; rintro e w2 ⟨rfl, hw2⟩; obtain rfl := hw2.symm; clear hw2)
        all_goals go_ret3
        all_goals exact ScanP.none HD.out rfl HG.out.2.2.1
theorem scan_walk {w : World} {A : Option Addr} {n c : Nat} {p : List Int} (h : Rd1 w A n (u8s p)) (hb : isB p) (hnc : n ≤ c) (hc6 : c ≤ 9223372036854775807) : Calls Tryz.prog 105 #[.slice A n c] w (ScanP w (scanS p)) := by
  have hl : p.length = n := by simpa using h.1
  by_cases hn : n = 256
  · subst hn
    obtain ⟨ad, rfl, _⟩ := h.at2 (k := 0) (by omega)
    match p, h, hb, hl with
    | k :: t, h, hb, _ =>
      have hk := hb k (by simp)
      obtain ⟨k, rfl⟩ : ∃ j : Nat, k = j := ⟨k.toNat, by omega⟩
      by_cases h1 : k < 128
      · exact scan_ok h hb h1 hnc hc6
      · exact scan_many h (by omega) (by omega)
  · exact scan_len hl hn
end Go.Proofs.YtkbapoeilcapfaaGreat

/- pages, plainly: what bytes are a page of rows. -/
namespace Go.Proofs.YtkbapoeilcapfaaGreat
open Go.RowKit
set_option linter.unusedVariables false
set_option linter.unusedSimpArgs false

def flat (rows : List (List V)) : List Int := rows.flatMap encR
def usedN (rows : List (List V)) : Nat := 1 + (flat rows).length + 2 * rows.length
def offAt (rows : List (List V)) (i : Nat) : Nat := 1 + (flat (rows.take i)).length
/-- p is the page of rows. -/
structure PG (p : List Int) (rows : List (List V)) : Prop where
  len : p.length = 256
  fit : usedN rows ≤ 256
  head : p.take (1 + (flat rows).length) = (rows.length : Int) :: flat rows
  zero : ∀ j, 1 + (flat rows).length ≤ j → j < 256 - 2 * rows.length → p.getD j 0 = 0
  slot : ∀ i, i < rows.length → p.getD (256 - 2 * (i + 1)) 0 = ((offAt rows i / 256 : Nat) : Int) ∧ p.getD (256 - 2 * (i + 1) + 1) 0 = ((offAt rows i % 256 : Nat) : Int)
theorem flat_append (a b : List (List V)) : flat (a ++ b) = flat a ++ flat b := by simp [flat]
theorem flat_cons (r : List V) (b : List (List V)) : flat (r :: b) = encR r ++ flat b := by simp [flat]
theorem getD_take {p : List Int} {n j : Nat} (h : j < n) : (p.take n).getD j 0 = p.getD j 0 := by
  rw [List.getD_eq_getElem?_getD, List.getD_eq_getElem?_getD, List.getElem?_take_of_lt h]
theorem getD_drop (p : List Int) (n j : Nat) : (p.drop n).getD j 0 = p.getD (n + j) 0 := by
  rw [List.getD_eq_getElem?_getD, List.getD_eq_getElem?_getD, List.getElem?_drop]
theorem ext_getD {p q : List Int} (hl : p.length = q.length) (h : ∀ j, j < p.length → p.getD j 0 = q.getD j 0) : p = q := by
  refine List.ext_getElem hl fun j h1 h2 => ?_
  have := h j h1
  rwa [List.getD_eq_getElem?_getD, List.getD_eq_getElem?_getD, List.getElem?_eq_getElem h1, List.getElem?_eq_getElem h2] at this
theorem PG.unique {p q : List Int} {rows : List (List V)} (hp : PG p rows) (hq : PG q rows) : p = q := by
  refine ext_getD (by rw [hp.len, hq.len]) fun j hj => ?_
  rw [hp.len] at hj
  have hu := hp.fit
  unfold usedN at hu
  by_cases h1 : j < 1 + (flat rows).length
  · rw [← getD_take (p := p) h1, ← getD_take (p := q) h1, hp.head, hq.head]
  · by_cases h2 : j < 256 - 2 * rows.length
    · rw [hp.zero j (by omega) h2, hq.zero j (by omega) h2]
    · obtain ⟨i, hi, hj2⟩ : ∃ i, i < rows.length ∧ (j = 256 - 2 * (i + 1) ∨ j = 256 - 2 * (i + 1) + 1) := ⟨(255 - j) / 2, by omega, by omega⟩
      rcases hj2 with rfl | rfl
      · rw [(hp.slot i hi).1, (hq.slot i hi).1]
      · rw [(hp.slot i hi).2, (hq.slot i hi).2]
theorem all_isZ {l : List Int} : l.all isZ = true ↔ ∀ j, l.getD j 0 = 0 := by
  rw [List.all_eq_true]
  constructor
  · intro h j
    rcases Nat.lt_or_ge j l.length with hl | hl
    · rw [List.getD_eq_getElem?_getD, List.getElem?_eq_getElem hl]
      exact of_decide_eq_true (h _ (List.getElem_mem hl))
    · rw [List.getD_eq_getElem?_getD, List.getElem?_eq_none hl]
      rfl
  · intro h x hx
    obtain ⟨j, hj, rfl⟩ := List.getElem_of_mem hx
    have := h j
    rw [List.getD_eq_getElem?_getD, List.getElem?_eq_getElem hj] at this
    exact decide_eq_true this
theorem take_split {l x : List Int} {m n : Nat} (h : l.take m = x) (hx : x.length = m) (hmn : m ≤ n) : l.take n = x ++ (l.drop m).take (n - m) := by
  have : n = m + (n - m) := by omega
  rw [this, List.take_add, h]
  congr 2
  omega
theorem take_flat_step {p : List Int} {a : Nat} {r : List V} {rs : List (List V)} (h : (p.drop a).take (flat (r :: rs)).length = flat (r :: rs)) : (p.drop a).take (encR r).length = encR r ∧ (p.drop (a + (encR r).length)).take (flat rs).length = flat rs := by
  rw [flat_cons, List.length_append] at h
  constructor
  · have := congrArg (List.take (encR r).length) h
    rwa [List.take_take, Nat.min_eq_left (by omega), List.take_left] at this
  · have := congrArg (List.drop (encR r).length) h
    rwa [List.drop_left, List.drop_take, List.drop_drop, Nat.add_sub_cancel_left] at this
theorem scanA_sound (p : List Int) (en : Nat) (hb : isB p) (hen : en ≤ p.length) : ∀ (k i a : Nat) (acc rows : List (List V)) (a' : Nat), a ≤ en → scanA p en k i a acc = some (rows, a') →
    ∃ rs, rows = acc ++ rs ∧ rs.length = k ∧ (∀ r ∈ rs, rowOk r = true) ∧ a' = a + (flat rs).length ∧ a' ≤ en ∧ (p.drop a).take (flat rs).length = flat rs ∧ (∀ j, j < k → startS p (i + j) = ((a + (flat (rs.take j)).length : Nat) : Int)) ∧ ((p.drop a').take (en - a')).all isZ = true
  | 0, i, a, acc, rows, a', ha, h => by
    unfold scanA at h
    split at h
    · next hz =>
      simp only [Option.some.injEq, Prod.mk.injEq] at h
      obtain ⟨rfl, rfl⟩ := h
      exact ⟨[], by simp, rfl, by simp, by simp [flat], ha, by simp [flat], fun j hj => absurd hj (by omega), hz⟩
    · cases h
  | k + 1, i, a, acc, rows, a', ha, h => by
    rw [scanA_succ] at h
    split at h
    · cases h
    · next r m e =>
      obtain ⟨h1, h2, h3, h4⟩ := decR_sound ((hb.drop a).take _) e
      rw [List.length_take, List.length_drop] at h4
      split at h
      · next hs =>
        obtain ⟨rs, e1, e2, e3, e4, e5, e6, e7, e8⟩ := scanA_sound p en hb hen k (i + 1) (a + m) _ rows a' (by omega) h
        have hm : (p.drop a).take m = encR r := by
          rw [← h2, List.take_take, Nat.min_eq_left (by omega)]
        refine ⟨r :: rs, by simp [e1], by simp [e2], ?_, by rw [flat_cons, List.length_append]; omega, e5, ?_, ?_, e8⟩
        · intro s hs
          rcases List.mem_cons.1 hs with rfl | hs
          · exact h1
          · exact e3 s hs
        · rw [flat_cons, List.length_append, take_split hm h3.symm (by omega), List.drop_drop, ← h3, Nat.add_sub_cancel_left, e6]
        · intro j hj
          rcases j with _ | j
          · simpa [flat] using hs
          · have := e7 j (by omega)
            rw [show i + (j + 1) = i + 1 + j by omega, this, List.take_succ_cons, flat_cons, List.length_append]
            omega
      · cases h
theorem scanA_compl (p : List Int) (en : Nat) (hen : en ≤ p.length) : ∀ (rs : List (List V)) (i a : Nat) (acc : List (List V)), (∀ r ∈ rs, rowOk r = true) → a + (flat rs).length ≤ en → (p.drop a).take (flat rs).length = flat rs → (∀ j, j < rs.length → startS p (i + j) = ((a + (flat (rs.take j)).length : Nat) : Int)) →
    ((p.drop (a + (flat rs).length)).take (en - (a + (flat rs).length))).all isZ = true → scanA p en rs.length i a acc = some (acc ++ rs, a + (flat rs).length)
  | [], i, a, acc, _, _, _, _, hz => by
    simp only [flat, List.flatMap_nil, List.length_nil, Nat.add_zero] at hz ⊢
    unfold scanA
    rw [if_pos hz, List.append_nil]
  | r :: rs, i, a, acc, hok, hle, htk, hst, hz => by
    obtain ⟨h1, h2⟩ := take_flat_step htk
    rw [flat_cons, List.length_append] at hle hz ⊢
    have hd : decR ((p.drop a).take (en - a)) = some (r, (encR r).length) := by
      rw [take_split h1 rfl (by omega)]
      exact decR_enc r (hok r (by simp)) _
    show scanA p en (rs.length + 1) i a acc = _
    rw [scanA_succ, hd]
    have h0 := hst 0 (by simp)
    simp only [flat, List.take_zero, List.flatMap_nil, List.length_nil, Nat.add_zero] at h0
    dsimp only
    rw [if_pos h0, scanA_compl p en hen rs (i + 1) (a + (encR r).length) _ (fun s hs => hok s (by simp [hs])) (by omega) h2 ?_ (by rw [Nat.add_assoc]; exact hz)]
    · simp
      omega
    · intro j hj
      have := hst (j + 1) (by simp; omega)
      rw [show i + 1 + j = i + (j + 1) by omega, this, List.take_succ_cons, flat_cons, List.length_append]
      omega
theorem startS_iff {p : List Int} (hb : isB p) (i a : Nat) (ha : a < 65536) : startS p i = (a : Int) ↔ (p.getD (256 - 2 * (i + 1)) 0 = ((a / 256 : Nat) : Int) ∧ p.getD (256 - 2 * (i + 1) + 1) 0 = ((a % 256 : Nat) : Int)) := by
  have h0 := getD_isB hb (256 - 2 * (i + 1))
  have h1 := getD_isB hb (256 - 2 * (i + 1) + 1)
  unfold startS
  omega
theorem head_of {p : List Int} (h : 0 < p.length) : p.take 1 = [p.getD 0 0] := by
  cases p with
  | nil => simp at h
  | cons x t => rfl
theorem scanS_sound {p : List Int} (hb : isB p) {rows : List (List V)} {a : Nat} (h : scanS p = some (rows, a)) : PG p rows ∧ (∀ r ∈ rows, rowOk r = true) ∧ a = 1 + (flat rows).length := by
  unfold scanS at h
  split at h
  · next hc =>
    obtain ⟨hl, hk⟩ := hc
    obtain ⟨k, hkk⟩ : ∃ k, k = (p.getD 0 0).toNat := ⟨_, rfl⟩
    have h0 := getD_isB hb 0
    rw [← hkk] at h hk
    have hp0 : p.getD 0 0 = (k : Int) := by omega
    obtain ⟨rs, e1, e2, e3, e4, e5, e6, e7, e8⟩ := scanA_sound p (256 - 2 * k) hb (by omega) k 0 1 [] rows a (by omega) h
    obtain rfl : rows = rs := by simpa using e1
    subst e2
    refine ⟨⟨hl, by unfold usedN; omega, ?_, ?_, ?_⟩, e3, e4⟩
    · rw [List.take_add, e6, head_of (by omega), hp0]
      rfl
    · intro j h1 h2
      have := all_isZ.1 e8 (j - a)
      rw [getD_take (by omega), getD_drop] at this
      rwa [show a + (j - a) = j by omega] at this
    · intro i hi
      have := e7 i hi
      rw [Nat.zero_add] at this
      have hle : (flat (rows.take i)).length ≤ (flat rows).length := by
        conv => rhs; rw [← List.take_append_drop i rows, flat_append, List.length_append]
        omega
      exact (startS_iff hb i (offAt rows i) (by unfold offAt; omega)).1 this
  · cases h
theorem offAt_le {rows : List (List V)} (i : Nat) : offAt rows i ≤ 1 + (flat rows).length := by
  unfold offAt
  conv => rhs; rw [← List.take_append_drop i rows, flat_append, List.length_append]
  omega
theorem PG.p0 {p : List Int} {rows : List (List V)} (h : PG p rows) : p.getD 0 0 = (rows.length : Int) := by
  have := congrArg (fun l => l.getD 0 0) h.head
  rw [getD_take (by omega)] at this
  exact this
theorem PG.flat_ {p : List Int} {rows : List (List V)} (h : PG p rows) : (p.drop 1).take (flat rows).length = flat rows := by
  have := congrArg (List.drop 1) h.head
  rw [List.drop_take] at this
  simpa using this
theorem scanS_compl {p : List Int} (hb : isB p) {rows : List (List V)} (hp : PG p rows) (hok : ∀ r ∈ rows, rowOk r = true) : scanS p = some (rows, 1 + (flat rows).length) := by
  have hu := hp.fit
  unfold usedN at hu
  have hk : (p.getD 0 0).toNat = rows.length := by rw [hp.p0]; simp
  unfold scanS
  rw [hk, if_pos ⟨hp.len, by omega⟩, scanA_compl p (256 - 2 * rows.length) (by rw [hp.len]; omega) rows 0 1 [] hok (by omega) hp.flat_]
  · rfl
  · intro j hj
    rw [Nat.zero_add]
    have := offAt_le (rows := rows) j
    exact (startS_iff hb j (offAt rows j) (by omega)).2 (hp.slot j hj)
  · rw [all_isZ]
    intro j
    by_cases hj : j < 256 - 2 * rows.length - (1 + (flat rows).length)
    · rw [getD_take hj, getD_drop]
      exact hp.zero _ (by omega) (by omega)
    · rw [List.getD_eq_getElem?_getD, List.getElem?_eq_none (by rw [List.length_take]; omega)]
      rfl
theorem PG.rows_unique {p : List Int} (hb : isB p) {r1 r2 : List (List V)} (h1 : PG p r1) (h2 : PG p r2) (o1 : ∀ r ∈ r1, rowOk r = true) (o2 : ∀ r ∈ r2, rowOk r = true) : r1 = r2 := by
  have a := scanS_compl hb h1 o1
  rw [scanS_compl hb h2 o2] at a
  simp only [Option.some.injEq, Prod.mk.injEq] at a
  exact a.1.symm
theorem PG.nil : PG (List.replicate 256 0) [] := by
  refine ⟨List.length_replicate, by decide, rfl, ?_, fun i hi => absurd hi (Nat.not_lt_zero i)⟩
  intro j _ _
  rw [List.getD_eq_getElem?_getD, List.getElem?_replicate]
  split <;> rfl
/-- A row behind all. -/
def addP (p : List Int) (a : Nat) (e : List Int) : List Int :=
  (((p.set 0 (p.getD 0 0 + 1)).take a ++ e ++ (p.drop (a + e.length))).set (256 - 2 * (p.getD 0 0).toNat - 2) ((a / 256 : Nat) : Int)).set (256 - 2 * (p.getD 0 0).toNat - 2 + 1) ((a % 256 : Nat) : Int)
theorem getD_set (l : List Int) (i j : Nat) (x : Int) : (l.set i x).getD j 0 = if i = j ∧ j < l.length then x else l.getD j 0 := by
  rw [List.getD_eq_getElem?_getD, List.getElem?_set, List.getD_eq_getElem?_getD]
  by_cases h : i = j
  · subst h
    by_cases h2 : i < l.length
    · simp [h2]
    · simp [h2]
  · simp [h]
theorem PG.add {p : List Int} {rows : List (List V)} (hp : PG p rows) (r : List V) (hf : usedN (rows ++ [r]) ≤ 256) : PG (addP p (1 + (flat rows).length) (encR r)) (rows ++ [r]) := by
  have hfl : flat (rows ++ [r]) = flat rows ++ encR r := by rw [flat_append]; simp [flat]
  have hu := hf
  unfold usedN at hu
  rw [hfl, List.length_append, List.length_append] at hu
  simp only [List.length_cons, List.length_nil] at hu
  have hk : (p.getD 0 0).toNat = rows.length := by rw [hp.p0]; simp
  obtain ⟨a, ha⟩ : ∃ a, a = 1 + (flat rows).length := ⟨_, rfl⟩
  obtain ⟨n, hn⟩ : ∃ n, n = (encR r).length := ⟨_, rfl⟩
  have hl0 : ((p.set 0 (p.getD 0 0 + 1)).take a).length = a := by rw [List.length_take, List.length_set, hp.len]; omega
  obtain ⟨q, hq⟩ : ∃ q, q = (p.set 0 (p.getD 0 0 + 1)).take a ++ encR r ++ (p.drop (a + n)) := ⟨_, rfl⟩
  have hql : q.length = 256 := by rw [hq, List.length_append, List.length_append, hl0, List.length_drop, hp.len]; omega
  have hqt : q.take (a + n) = (p.set 0 (p.getD 0 0 + 1)).take a ++ encR r := by
    rw [hq]
    exact List.take_left' (by rw [List.length_append, hl0, hn])
  have hqd : ∀ j, a + n ≤ j → q.getD j 0 = p.getD j 0 := by
    intro j hj
    have : q.drop (a + n) = p.drop (a + n) := by
      rw [hq]
      exact List.drop_left' (by rw [List.length_append, hl0, hn])
    have h2 := congrArg (fun l => l.getD (j - (a + n)) 0) this
    simp only [getD_drop] at h2
    rwa [show a + n + (j - (a + n)) = j by omega] at h2
  have hh : (p.set 0 (p.getD 0 0 + 1)).take a = ((rows.length + 1 : Nat) : Int) :: flat rows := by
    have h1 := hp.head
    rw [← ha] at h1
    rw [List.take_set, h1, hp.p0]
    rfl
  unfold addP
  rw [← ha, ← hn, ← hq, hk]
  obtain ⟨s, hs⟩ : ∃ s, s = 256 - 2 * rows.length - 2 := ⟨_, rfl⟩
  rw [← hs]
  have hrl : (rows ++ [r]).length = rows.length + 1 := by simp
  refine ⟨by simp [hql], hf, ?_, ?_, ?_⟩
  · rw [hfl, List.length_append, hrl, show 1 + ((flat rows).length + (encR r).length) = a + n by omega, List.take_set_of_le (by omega), List.take_set_of_le (by omega), hqt, hh]
    rfl
  · intro j h1 h2
    rw [hfl, List.length_append] at h1
    rw [hrl] at h2
    rw [getD_set, if_neg (by omega), getD_set, if_neg (by omega), hqd j (by omega)]
    exact hp.zero j (by omega) (by omega)
  · intro i hi
    rw [hrl] at hi
    rw [getD_set, getD_set, getD_set, getD_set, List.length_set, hql]
    by_cases hik : i < rows.length
    · have ho : offAt (rows ++ [r]) i = offAt rows i := by
        unfold offAt
        rw [List.take_append_of_le_length (by omega)]
      rw [if_neg (by omega), if_neg (by omega), if_neg (by omega), if_neg (by omega), hqd _ (by omega), hqd _ (by omega), ho]
      exact hp.slot i hik
    · obtain rfl : i = rows.length := by omega
      have ho : offAt (rows ++ [r]) rows.length = a := by
        unfold offAt
        rw [List.take_left, ha]
      rw [if_neg (by omega), if_pos (by omega), if_pos (by omega), ho]
      exact ⟨rfl, rfl⟩
end Go.Proofs.YtkbapoeilcapfaaGreat

/- page.Check, Count, Rows, Get, Room, New, fits. -/
namespace Go.Proofs.YtkbapoeilcapfaaGreat
open Go.RowKit
set_option linter.unusedVariables false
set_option linter.unusedSimpArgs false

/-- Bytes that are read. -/
structure RdB (w : World) (A : Option Addr) (n c : Nat) (p : List Int) : Prop where
  rd : Rd1 w A n (u8s p)
  isb : isB p
  cap : n ≤ c
  c64 : c ≤ 9223372036854775807
theorem RdB.below {w w' : World} {A : Option Addr} {n c : Nat} {p : List Int} (h : RdB w A n c p) (b : Below w.heap.size w w') : RdB w' A n c p := ⟨h.rd.below b, h.isb, h.cap, h.c64⟩
theorem RdB.turn {S : Nat → Prop} {w w' : World} {A : Option Addr} {n c : Nat} {p : List Int} (h : RdB w A n c p) (ht : Turn S w w') (hs : ∀ ad, A = some ad → ¬ S ad.block) : RdB w' A n c p := ⟨h.rd.turn ht hs, h.isb, h.cap, h.c64⟩
theorem rowOk_mem {r : List V} (h : rowOk r = true) {v : V} (hv : v ∈ r) : vOk v = true := by
  unfold rowOk at h
  simp only [Bool.and_eq_true, List.all_eq_true] at h
  exact h.2 v hv
theorem vOk_size {v : V} (h : vOk v = true) : v.s.size ≤ 9223372036854775807 := by
  unfold vOk at h
  have h := of_decide_eq_true h
  omega
section
variable {w : World} {A : Option Addr} {n c : Nat} {p : List Int}
theorem scan_none (h : RdB w A n c p) (hs : scanS p = none) : Calls Tryz.prog 105 #[.slice A n c] w fun e w' => e = .returned (.tuple #[.slice none 0 0, .int .i64 0, .int .i64 40]) ∧ Below w.heap.size w w' := by
  refine (scan_walk h.rd h.isb h.cap h.c64).mono ?_
  intro e w' H
  unfold ScanP at H
  rw [hs] at H
  exact H
theorem scan_some (h : RdB w A n c p) {rows : List (List V)} {a : Nat} (hs : scanS p = some (rows, a)) : Calls Tryz.prog 105 #[.slice A n c] w fun e w' => ∃ B c' hds, e = .returned (.tuple #[.slice B rows.length c', .int .i64 a, .int .i64 0]) ∧ w'.ownsRow w.heap.size 25 1 (.slice B rows.length c') rows.length hds ∧ OwnRs w' w.heap.size hds rows ∧ Below w.heap.size w w' := by
  refine (scan_walk h.rd h.isb h.cap h.c64).mono ?_
  intro e w' H
  unfold ScanP at H
  rw [hs] at H
  obtain ⟨⟨B, c', hds, h1, h2, h3⟩, h4⟩ := H
  exact ⟨B, c', hds, h1, h2, h3, h4⟩
theorem pcount_no (h : RdB w A n c p) (hs : scanS p = none) : Calls Tryz.prog 108 #[.slice A n c] w fun e w' => e = .returned (.int .i64 0) ∧ Below w.heap.size w w' := by
  have H := Lib.hid (scan_none h hs)
  clear h hs
  go_enter Tryz.func108, Tryz.ntmps108
  go_wp2_with (go_at_call 105; refine H.out.mono ?_; rintro e w1 ⟨rfl, b1⟩)
  go_ret
  exact ⟨by trivial, b1⟩
theorem pcount_yes (h : RdB w A n c p) {rows : List (List V)} {a : Nat} (hs : scanS p = some (rows, a)) : Calls Tryz.prog 108 #[.slice A n c] w fun e w' => e = .returned (.int .i64 rows.length) ∧ Below w.heap.size w w' := by
  have H := Lib.hid (scan_some h hs)
  clear h hs
  go_enter Tryz.func108, Tryz.ntmps108
  go_wp2_with (go_at_call 105; refine H.out.mono ?_; rintro e w1 ⟨B, c', hds, rfl, _, _, b1⟩)
  go_ret
  exact ⟨by trivial, b1⟩
theorem prows_no (h : RdB w A n c p) (hs : scanS p = none) : Calls Tryz.prog 111 #[.slice A n c] w fun e w' => e = .returned (.tuple #[.slice none 0 0, .int .i64 40]) ∧ Below w.heap.size w w' := by
  have H := Lib.hid (scan_none h hs)
  clear h hs
  go_enter Tryz.func111, Tryz.ntmps111
  go_wp2_with (go_at_call 105; refine H.out.mono ?_; rintro e w1 ⟨rfl, b1⟩)
  go_ret2
  exact ⟨by trivial, b1⟩
theorem prows_yes (h : RdB w A n c p) {rows : List (List V)} {a : Nat} (hs : scanS p = some (rows, a)) : Calls Tryz.prog 111 #[.slice A n c] w fun e w' => ∃ B c' hds, e = .returned (.tuple #[.slice B rows.length c', .int .i64 0]) ∧ w'.ownsRow w.heap.size 25 1 (.slice B rows.length c') rows.length hds ∧ OwnRs w' w.heap.size hds rows ∧ Below w.heap.size w w' := by
  have H := Lib.hid (scan_some h hs)
  clear h hs
  go_enter Tryz.func111, Tryz.ntmps111
  go_wp2_with (go_at_call 105; refine H.out.mono ?_; rintro e w1 ⟨B, c', hds, rfl, h1, h2, b1⟩; have G := Lib.hid (And.intro h1 (And.intro h2 b1)); clear h1 h2 b1)
  go_ret2
  exact ⟨_, _, _, by trivial, G.out⟩
end
end Go.Proofs.YtkbapoeilcapfaaGreat

/- page.New, Room, fits, Clone. -/
namespace Go.Proofs.YtkbapoeilcapfaaGreat
open Go.RowKit
set_option linter.unusedVariables false
set_option linter.unusedSimpArgs false

set_option maxRecDepth 6000 in
theorem pnew (w : World) : Calls Tryz.prog 76 #[] w fun e w' => e = .returned (.slice (some ⟨w.heap.size, 0, none⟩) 256 256) ∧ w'.heap[w.heap.size]? = some (.cells (u8s (List.replicate 256 0)).toArray 5 (0, 0)) ∧ Below w.heap.size w w' := by
  have info8 := info_u8
  go_enter Tryz.func76, Tryz.ntmps76
  go_wp2_with (at_make; refine wp_makeN rfl (.const (.int .i64 256)) 136 5 (.int .u8 0) 1 rfl Tryz.underlying136 info8 rfl 256 rfl (by omega) (by omega) ?_)
  go_ret
  refine ⟨rfl, ?_, (Below.refl _ _).alloc (Nat.le_refl _) _⟩
  rw [heap_alloc_new, u8s, List.map_replicate]
  rfl
section
variable {w : World} {A C : Option Addr} {n c m cc : Nat} {p : List Int} {r : List V}
theorem fits_bad (hr : RdV w C m r) (hk : rowOk r = false) : Calls Tryz.prog 106 #[.slice C m cc] w fun e w' => e = .returned (.tuple #[.slice none 0 0, .int .i64 20]) ∧ Below w.heap.size w w' := by
  have H := Lib.hid (rput_bad (c := cc) r hr hk)
  clear hr hk
  go_enter Tryz.func106, Tryz.ntmps106
  go_wp2_with (go_at_call 133; refine H.out.mono ?_; rintro e w1 ⟨rfl, b1⟩)
  go_ret2
  exact ⟨by trivial, b1⟩
theorem fits_long (hr : RdV w C m r) (hk : rowOk r = true) (hl : 253 < (encR r).length) : Calls Tryz.prog 106 #[.slice C m cc] w fun e w' => e = .returned (.tuple #[.slice none 0 0, .int .i64 3]) ∧ Below w.heap.size w w' := by
  have H := rput_ok (c := cc) r hr hk
  obtain ⟨k, hkk⟩ : ∃ k, k = (encR r).length := ⟨_, rfl⟩
  rw [← hkk] at H hl
  have H := Lib.hid H
  clear hr hk hkk
  go_enter Tryz.func106, Tryz.ntmps106
  go_wp2_with (go_at_call 133; refine H.out.mono ?_; rintro e w1 ⟨v, rfl, ho, b1⟩; obtain ⟨B, c', rfl⟩ := own_slice ho; clear ho)
  go_ret2
  exact ⟨by trivial, b1⟩
theorem fits_ok (hr : RdV w C m r) (hk : rowOk r = true) (hl : (encR r).length ≤ 253) : Calls Tryz.prog 106 #[.slice C m cc] w fun e w' => ∃ B c', e = .returned (.tuple #[.slice B (encR r).length c', .int .i64 0]) ∧ w'.ownsRow w.heap.size 5 1 (.slice B (encR r).length c') (encR r).length (u8s (encR r)) ∧ Below w.heap.size w w' := by
  have H := rput_ok (c := cc) r hr hk
  obtain ⟨E, hE⟩ : ∃ E, E = encR r := ⟨_, rfl⟩
  obtain ⟨k, hkk⟩ : ∃ k, k = E.length := ⟨_, rfl⟩
  rw [← hE, ← hkk] at H hl ⊢
  have H := Lib.hid H
  clear hr hk hkk hE
  go_enter Tryz.func106, Tryz.ntmps106
  go_wp2_with (go_at_call 133; refine H.out.mono ?_; rintro e w1 ⟨v, rfl, ho, b1⟩; obtain ⟨B, c', rfl⟩ := own_slice ho; have G := Lib.hid (And.intro ho b1); clear ho b1)
  go_ret2
  exact ⟨_, _, by trivial, G.out⟩
theorem scanS_len {p : List Int} {x : List (List V) × Nat} (h : scanS p = some x) : p.length = 256 := by
  unfold scanS at h
  split at h
  · next hc => exact hc.1
  · cases h
def roomN (rows : List (List V)) : Nat := 256 - 2 * (rows.length + 1) - (1 + (flat rows).length)
set_option maxRecDepth 6000 in
theorem pclone {w : World} {ad : Addr} (h : RdB w (some ad) n c p) (hn : n ≤ 100000) : Calls Tryz.prog 107 #[.slice (some ad) n c] w fun e w' => ∃ v, e = .returned v ∧ w'.ownsRow w.heap.size 5 1 v n (u8s p) ∧ Below w.heap.size w w' := by
  have b0 : Below w.heap.size w (w.alloc (.cells #[] 5)) := (Below.refl _ _).alloc (Nat.le_refl _) _
  have ho := World.ownsRow_lit (base := w.heap.size) (e := 5) (size := 1) w #[] 0 (Nat.le_refl _) (by simp [maxLen]) (by simp)
  have hrd := h.rd.below b0
  have hl : p.length = n := by simpa using h.rd.1
  have HR := Lib.hid (And.intro ho (And.intro hrd (And.intro hl b0)))
  have hcmp := fun (t : TypeId) (h : Tryz.prog.underlying t = some (.slice 5)) => Go.Lib.run_eql_slice_nil (P := Tryz.prog) w t 5 (some ad) n c 0 0 h
  have hcmp := hcmp 136 Tryz.underlying136
  clear h b0 ho hrd hl
  go_enter Tryz.func107, Tryz.ntmps107
  go_wp2_with (at_builtin; refine wp_appendL w.heap.size rfl (.tmp 5) (.tmp 6) 136 5 (.int .u8 0) 1 1 rfl Tryz.underlying136 info_u8 rfl (by omega) (by omega) (.slice (some ⟨w.heap.size, 0, none⟩) 0 0) 0 [] rfl (some ad) n c (u8s p) rfl (by simp [HR.out.2.2.1]) (fun h => by obtain ⟨ad, e, _, hc⟩ := HR.out.2.1.2.2 h; exact ⟨ad, e, hc⟩) (by intro u hu; obtain ⟨x, _, rfl⟩ := List.mem_map.1 hu; rfl) HR.out.1 (by simp) (by omega) ?_; intro v1 w1 h1 t1 _)
  go_ret
  exact ⟨_, rfl, by simpa using h1, below_turn HR.out.2.2.2 t1 (by simp) (fun k hk => by simp [Value.ownBlock] at hk; omega)⟩
end
end Go.Proofs.YtkbapoeilcapfaaGreat
namespace Go.Proofs.YtkbapoeilcapfaaGreat
open Go.RowKit
set_option linter.unusedVariables false
set_option linter.unusedSimpArgs false

def AddPost (w : World) (p : List Int) (rows : List (List V)) (r : List V) (e : Ending) (w' : World) : Prop :=
  (if rowOk r = false then e = .returned (.tuple #[.slice none 0 0, .int .i64 20])
   else if 253 < (encR r).length then e = .returned (.tuple #[.slice none 0 0, .int .i64 3])
   else if 256 < usedN (rows ++ [r]) then e = .returned (.tuple #[.slice none 0 0, .int .i64 2])
   else ∃ ad c, e = .returned (.tuple #[.slice (some ad) 256 c, .int .i64 0]) ∧ w'.ownsRow w.heap.size 5 1 (.slice (some ad) 256 c) 256 (u8s (addP p (1 + (flat rows).length) (encR r)))) ∧ Below w.heap.size w w'
section
variable {w : World} {ad : Addr} {C : Option Addr} {c m cc : Nat} {p : List Int} {rows : List (List V)} {r : List V}
theorem add_err (h : RdB w (some ad) 256 c p) (hp : PG p rows) (hok : ∀ r ∈ rows, rowOk r = true) {E : Int} (hE : E ≠ 0)
    (hf : ∀ w1, Below w.heap.size w w1 → Calls Tryz.prog 106 #[.slice C m cc] w1 fun e w' => e = .returned (.tuple #[.slice none 0 0, .int .i64 E]) ∧ Below w1.heap.size w1 w') :
    Calls Tryz.prog 78 #[.slice (some ad) 256 c, .slice C m cc] w fun e w' => e = .returned (.tuple #[.slice none 0 0, .int .i64 E]) ∧ Below w.heap.size w w' := by
  have H := Lib.hid (scan_some h (scanS_compl h.isb hp hok))
  have HF := Lib.hid hf
  have hE2 : (E != 0) = true := by simpa using hE
  clear h hp hok hf
  go_enter Tryz.func78, Tryz.ntmps78
  go_wp2_with (first
    | (go_at_call 105; refine H.out.mono ?_; rintro e w1 ⟨B, c', hds, rfl, _, _, b1⟩)
    | (go_at_call 106; refine (HF.out _ b1).mono ?_; rintro e w2 ⟨rfl, b2⟩))
  go_ret2
  exact ⟨by trivial, b1.trans (b2.mono b1.size)⟩
set_option maxRecDepth 6000 in
theorem add_full (h : RdB w (some ad) 256 c p) (hp : PG p rows) (hok : ∀ r ∈ rows, rowOk r = true) (hr : RdV w C m r) (hk : rowOk r = true) (hl : (encR r).length ≤ 253) (hu : 256 < usedN (rows ++ [r])) :
    Calls Tryz.prog 78 #[.slice (some ad) 256 c, .slice C m cc] w fun e w' => e = .returned (.tuple #[.slice none 0 0, .int .i64 2]) ∧ Below w.heap.size w w' := by
  have H := scan_some h (scanS_compl h.isb hp hok)
  have hf := hp.fit
  unfold usedN at hu hf
  rw [flat_append, List.length_append, List.length_append] at hu
  have e1 : (flat [r]).length = (encR r).length := by simp [flat]
  rw [e1] at hu
  replace hu : 256 < (1 + (flat rows).length) + (encR r).length + 2 * (rows.length + 1) := by simp only [List.length_cons, List.length_nil] at hu; omega
  have HF := fun w1 (b : Below w.heap.size w w1) => fits_ok (cc := cc) (hr.below b) hk hl
  obtain ⟨E, hE⟩ : ∃ E, E = encR r := ⟨_, rfl⟩
  obtain ⟨a, ha⟩ : ∃ a, a = 1 + (flat rows).length := ⟨_, rfl⟩
  obtain ⟨k, hkk⟩ : ∃ k, k = rows.length := ⟨_, rfl⟩
  obtain ⟨n, hn⟩ : ∃ n, n = E.length := ⟨_, rfl⟩
  rw [← hE, ← hn] at HF
  rw [← hE, ← hn] at hl hu
  rw [← ha] at H hu hf
  rw [← hkk] at H hu hf
  have H := Lib.hid H
  have HF := Lib.hid HF
  have hd : ((256 : Int) - 2 * ((k : Int) + 1) < (a : Int) + n) := by omega
  have hk5 : ¬ ((255 : Int) ≤ k) := by omega
  clear h hp hok hr hk hE ha hkk hn e1
  go_enter Tryz.func78, Tryz.ntmps78
  go_wp2_with (first
    | (exfalso; omega)
    | (go_at_call 105; refine H.out.mono ?_; rintro e w1 ⟨B, c', hds, rfl, _, _, b1⟩)
    | (go_at_call 106; refine (HF.out _ b1).mono ?_; rintro e w2 ⟨D, cd, rfl, _, b2⟩))
  all_goals first
    | (exfalso; omega)
    | (go_ret2; exact ⟨by trivial, b1.trans (b2.mono b1.size)⟩)
theorem add_cells {L : List Value} {p E : List Int} {a k : Nat} (hL : L.take 256 = u8s p) (hp : p.getD 0 0 = (k : Int)) (ha : 1 ≤ a) (hfit : a + E.length + 2 * (k + 1) ≤ 256) :
    (((splice (L.set 0 (.int .u8 ((k : Int) + 1))) a (u8s E)).set (256 - 2 * (k + 1)) (.int .u8 ((a / 256 : Nat) : Int))).set (256 - 2 * (k + 1) + 1) (.int .u8 ((a % 256 : Nat) : Int))).take 256 = u8s (addP p a E) := by
  have hl : (u8s E).length = E.length := by simp
  have hsp : (splice (L.set 0 (.int .u8 ((k : Int) + 1))) a (u8s E)).take 256 = ((u8s p).set 0 (.int .u8 ((k : Int) + 1))).take a ++ u8s E ++ (u8s p).drop (a + E.length) := by
    unfold splice
    rw [← hL, hl, ← List.append_assoc]
    have e1 : ((L.set 0 (Value.int .u8 ((k : Int) + 1))).take a ++ u8s E) = (((L.take 256).set 0 (.int .u8 ((k : Int) + 1))).take a ++ u8s E) := by
      rw [← List.take_set, List.take_take, Nat.min_eq_left (by omega)]
    rcases Nat.lt_or_ge L.length a with hs | hs
    · have hd1 : (L.set 0 (Value.int .u8 ((k : Int) + 1))).drop (a + E.length) = [] := List.drop_eq_nil_iff.2 (by rw [List.length_set]; omega)
      have hd2 : (L.take 256).drop (a + E.length) = [] := List.drop_eq_nil_iff.2 (by rw [List.length_take]; omega)
      rw [hd1, hd2, e1, List.append_nil]
      refine List.take_of_length_le ?_
      rw [List.length_append, List.length_take, hl]
      omega
    · have hlen : ((L.set 0 (Value.int .u8 ((k : Int) + 1))).take a ++ u8s E).length = a + E.length := by
        rw [List.length_append, List.length_take, List.length_set, hl]
        omega
      rw [List.take_append, hlen, List.take_of_length_le (by rw [hlen]; omega), e1]
      congr 1
      rw [List.drop_set_of_lt (by omega), List.drop_take]
  rw [List.take_set, List.take_set, hsp]
  unfold addP
  rw [hp, Int.toNat_natCast]
  simp only [u8s, List.map_set, List.map_append, List.map_take, List.map_drop]
  rw [show 256 - 2 * k - 2 = 256 - 2 * (k + 1) by omega]
theorem own_block {w : World} {base n : Nat} {v : Value} {xs : List Value} (h : w.ownsRow base 5 1 v n xs) (h0 : 0 < n) : ∃ g L cap, v = .slice (some ⟨g, 0, none⟩) n cap ∧ base ≤ g ∧ w.heap[g]? = some (.cells (List.toArray L) 5 (0, 0)) ∧ n ≤ cap ∧ cap ≤ maxLen ∧ L.length = cap ∧ L.take n = xs := by
  rcases h.2 with ⟨rfl, h⟩ | ⟨g, cap, cur, rfl, h1, h2, h3, h4, h5, h6⟩
  · omega
  · exact ⟨g, cur.toList, cap, rfl, h1, by simpa using h2, h3, h4, by simpa using h5, by simpa using h6⟩
theorem take_get {L : List Value} {p : List Int} {N j : Nat} (h : L.take N = u8s p) (hj : j < N) (hp : p.length = N) : L[j]? = some (.int .u8 (p.getD j 0)) := by
  have : (L.take N)[j]? = L[j]? := List.getElem?_take_of_lt hj
  rw [← this, h]
  exact getD_map 0 (by omega)
theorem copy_src {w3 : World} {g n : Nat} {D : Option Addr} {E : List Int} (hD : Rd1 w3 D n (u8s E)) (hne : ∀ ad, D = some ad → ad.block ≠ g) (h0 : 0 < (u8s E).length) (v : Value) : ∃ ad, D = some ad ∧ ∀ j u, (u8s E)[j]? = some u → (w3.setCell ⟨g, 0, none⟩ v).cell? (ad.add j) = some u := by
  have t : Turn (fun i => i = g) w3 (w3.setCell ⟨g, 0, none⟩ v) := (Turn.refl (fun i => i = g) w3).setCell (.inl rfl) _
  obtain ⟨ad, rfl, _, hc⟩ := (hD.turn t hne).2.2 (by rw [← hD.1]; exact h0)
  exact ⟨ad, rfl, hc⟩
theorem cell_some {w : World} {g : Nat} {L : List Value} (hg : w.heap[g]? = some (.cells (List.toArray L) 5 (0, 0))) {j : Nat} (hj : j < L.length) : ∃ x, w.cell? ⟨g, j, none⟩ = some x := by
  refine ⟨L[j], ?_⟩
  rw [cell_of_blk hg j, List.getElem?_toArray, List.getElem?_eq_getElem hj]
theorem cell0_of {w : World} {g : Nat} {L : List Value} {p : List Int} {k : Int} (hg : w.heap[g]? = some (.cells (List.toArray L) 5 (0, 0))) (h : L.take 256 = u8s p) (hk : p.getD 0 0 = k) (hp : p.length = 256) : w.cell? ⟨g, 0, none⟩ = some (.int .u8 k) := by
  have h1 := cell_of_blk hg 0
  rw [h1, List.getElem?_toArray, take_get h (by omega) hp, hk]
set_option maxRecDepth 6000 in
set_option maxHeartbeats 400000 in
theorem add_ok (h : RdB w (some ad) 256 c p) (hp : PG p rows) (hok : ∀ r ∈ rows, rowOk r = true) (hr : RdV w C m r) (hk : rowOk r = true) (hl : (encR r).length ≤ 253) (hu : usedN (rows ++ [r]) ≤ 256) :
    Calls Tryz.prog 78 #[.slice (some ad) 256 c, .slice C m cc] w fun e w' => ∃ ad' c', e = .returned (.tuple #[.slice (some ad') 256 c', .int .i64 0]) ∧ w'.ownsRow w.heap.size 5 1 (.slice (some ad') 256 c') 256 (u8s (addP p (1 + (flat rows).length) (encR r))) ∧ Below w.heap.size w w' := by
  have H := scan_some h (scanS_compl h.isb hp hok)
  have hf := hp.fit
  unfold usedN at hu hf
  rw [flat_append, List.length_append, List.length_append] at hu
  have e1 : (flat [r]).length = (encR r).length := by simp [flat]
  rw [e1] at hu
  replace hu : (1 + (flat rows).length) + (encR r).length + 2 * (rows.length + 1) ≤ 256 := by simp only [List.length_cons, List.length_nil] at hu; omega
  have HF := fun w1 (b : Below w.heap.size w w1) => fits_ok (cc := cc) (hr.below b) hk hl
  have hp0 := hp.p0
  obtain ⟨E, hE⟩ : ∃ E, E = encR r := ⟨_, rfl⟩
  obtain ⟨a, ha⟩ : ∃ a, a = 1 + (flat rows).length := ⟨_, rfl⟩
  obtain ⟨k, hkk⟩ : ∃ k, k = rows.length := ⟨_, rfl⟩
  obtain ⟨n, hn⟩ : ∃ n, n = E.length := ⟨_, rfl⟩
  have ha1 : 1 ≤ a := by omega
  rw [← hE] at HF hu ⊢
  rw [← ha] at H hu ⊢
  rw [← hkk] at H hu hp0
  rw [← hn] at HF hu
  have H := Lib.hid H
  have HF := Lib.hid HF
  have HC := Lib.hid (fun w1 (b : Below w.heap.size w w1) => pclone (h.below b) (by omega))
  have HP := Lib.hid (And.intro hp0 (And.intro hn hp.len))
  have hw8 : IntKind.u8.wrap ((k : Int) + 1) = (k : Int) + 1 := u8_small (by omega) (by omega)
  obtain ⟨s, hs⟩ : ∃ s, s = 256 - 2 * (k + 1) := ⟨_, rfl⟩
  have hd : ¬ ((256 : Int) - 2 * ((k : Int) + 1) < (a : Int) + n) := by omega
  have hk5 : ¬ ((255 : Int) ≤ k) := by omega
  have hsI : (256 : Int) - 2 * ((k : Int) + 1) = s := by omega
  have HS := Lib.hid hs
  obtain ⟨s1, hs1⟩ : ∃ s1, s1 = s + 1 := ⟨_, rfl⟩
  have HS1 := Lib.hid hs1
  have hsI1 : (s : Int) + 1 = s1 := by omega
  have hs3 : s1 < 256 := by omega
  have han : a + n ≤ s := by omega
  have hs2 : s + 1 < 256 := by omega
  have hsk : s + 2 * (k + 1) = 256 := by omega
  have hx : IntKind.u8.wrap (a : Int) = a := u8_small (by omega) (by omega)
  have hy : (a : Int) / 256 = 0 := by omega
  clear hs1 h hp hok hr hk hE ha hkk hn e1 hp0 hs hf hl
  go_enter Tryz.func78, Tryz.ntmps78
  go_wp2_with (first
    | (exfalso; omega)
    | (go_at_call 105; refine H.out.mono ?_; rintro e w1 ⟨B, c', hds, rfl, _, _, b1⟩)
    | (go_at_call 106; refine (HF.out _ b1).mono ?_; rintro e w2 ⟨D, cd, rfl, hD, b2⟩; have HD := Lib.hid hD; have B2 := Lib.hid (b1.trans (b2.mono b1.size)); clear hD b2)
    | (go_at_call 107; refine (HC.out _ B2.out).mono ?_; go_loud (rintro e w3 ⟨v, rfl, hv, b3⟩); go_loud (obtain ⟨g, L, cap, rfl, hgB, hgH, hcap, hcm, hLl, hL⟩ := own_block hv (by omega)); go_loud (have B3 := Lib.hid (B2.out.trans (b3.mono B2.out.size))); go_loud (have HD3 := Lib.hid (own_below HD.out b3)); go_loud (have c0 : w3.cell? ⟨g, 0, none⟩ = some (.int .u8 k) := cell0_of hgH hL HP.out.1 HP.out.2.2); go_loud (have f0 := free_of_blk hgH 0); go_loud (have HG := Lib.hid (And.intro hgB (And.intro hgH (And.intro hLl hL)))); go_loud (have hca : ¬ cap = a := by omega); go_loud (clear hv b3 hgB hgH hLl hL))
    | ((with_reducible show wpList _ _ _ ({ dst := some 59, op := _, type := _, pos := _, after := _, guard := none } :: _) _ _); go_loud (refine wpList_copy_splice rfl (.tmp 57) (.tmp 58) 136 136 rfl 5 Tryz.underlying136 (by kernel_rfl) _ _ _ _ _ _ rfl rfl g a (L.set 0 (.int .u8 ((k : Int) + 1))) 5 (by have := blk_set HG.out.2.1 0 (.int .u8 ((k : Int) + 1)); rw [List.setIfInBounds_toArray] at this; exact this) (u8s E) (by rw [List.length_map, ← HP.out.2.1]; exact (Nat.min_eq_left (by omega)).symm) (fun h0 => ⟨by simp [Addr.add] <;> omega, copy_src (Rd1.of_own HD3.out).2 (fun ad' e => by have h1 := (HD.out.lt ad'.block (by rw [e]; simp [Value.ownBlock])).2; have h2 := HG.out.1; omega) h0 _⟩) (by rw [List.length_map, List.length_set, ← HP.out.2.1]; have := HG.out.2.2.1; omega) (by intro v hv; obtain ⟨x, _, rfl⟩ := List.mem_map.1 hv; rfl) w.heap.size w (B3.out.setCell (Nat.le_trans B2.out.size HG.out.1) _) (Nat.le_trans B2.out.size HG.out.1) ?_; intro w4 hg4 b4; have hlen : (splice (L.set 0 (.int .u8 ((k : Int) + 1))) a (u8s E)).length = cap := (length_splice _ _ _ (by rw [List.length_map, List.length_set, ← HP.out.2.1]; have := HG.out.2.2.1; omega)).trans (by rw [List.length_set]; exact HG.out.2.2.1); obtain ⟨x1, hx1⟩ := cell_some hg4.out (j := s) (by omega); obtain ⟨x2, hx2⟩ := cell_some hg4.out (j := s1) (by omega); have f1 := free_of_blk hg4.out s; have f2 := free_of_blk hg4.out s1; have B4 := Lib.hid b4; have HLEN := Lib.hid hlen; clear b4 hlen)))
  all_goals first
    | (exfalso; omega)
    | skip
  go_ret2
  have hw1 := blk_set (blk_set hg4.out s (.int .u8 0)) s1 (.int .u8 a)
  rw [List.setIfInBounds_toArray, List.setIfInBounds_toArray] at hw1
  have hgw : w.heap.size ≤ g := Nat.le_trans B2.out.size HG.out.1
  have hac := add_cells (a := a) (k := k) HG.out.2.2.2 HP.out.1 ha1 (by rw [← HP.out.2.1]; omega)
  rw [← HS.out, ← HS1.out, show a / 256 = 0 by omega, show a % 256 = a by omega] at hac
  have hl2 : (u8s (addP p a E)).length = 256 := by
    rw [← hac, List.length_take, List.length_set, List.length_set, HLEN.out]
    omega
  refine ⟨_, _, by trivial, ⟨by rw [hl2], .inr ⟨g, cap, _, rfl, hgw, hw1, hcap, hcm, ?_, hac⟩⟩, (B4.out.setCell hgw _).setCell hgw _⟩
  show (List.set _ _ _).toArray.size = _
  rw [List.size_toArray, List.length_set, List.length_set, HLEN.out, Nat.mul_one]
theorem add_walk (h : RdB w (some ad) 256 c p) (hp : PG p rows) (hok : ∀ r ∈ rows, rowOk r = true) (hr : RdV w C m r) : Calls Tryz.prog 78 #[.slice (some ad) 256 c, .slice C m cc] w (AddPost w p rows r) := by
  unfold AddPost
  by_cases hk : rowOk r = false
  · simp only [hk, if_true]
    exact add_err h hp hok (by decide) (fun w1 b => fits_bad (hr.below b) hk)
  · have hk : rowOk r = true := by simpa using hk
    simp only [hk, Bool.true_eq_false, if_false]
    by_cases hl : 253 < (encR r).length
    · simp only [hl, if_true]
      exact add_err h hp hok (by decide) (fun w1 b => fits_long (hr.below b) hk hl)
    · simp only [hl, if_false]
      by_cases hu : 256 < usedN (rows ++ [r])
      · simp only [hu, if_true]
        exact add_full h hp hok hr hk (by omega) hu
      · simp only [hu, if_false]
        refine (add_ok (cc := cc) h hp hok hr hk (by omega) (by omega)).mono ?_
        rintro e w' ⟨ad', c', h1, h2, h3⟩
        exact ⟨⟨ad', c', h1, h2⟩, h3⟩
end
end Go.Proofs.YtkbapoeilcapfaaGreat

/- the document's Used, May. -/
namespace Go.Proofs.YtkbapoeilcapfaaGreat
open Go.RowKit
set_option linter.unusedVariables false
set_option linter.unusedSimpArgs false

theorem flat_take {rows : List (List V)} {k : Nat} {r : List V} (h : rows[k]? = some r) : flat (rows.take (k + 1)) = flat (rows.take k) ++ encR r := by
  obtain ⟨hl, e⟩ := List.getElem?_eq_some_iff.1 h
  rw [List.take_succ_eq_append_getElem hl, e, flat_append]
  simp [flat]
theorem encR_le (r : List V) (h : rowOk r = true) : (encR r).length ≤ 2113 := by
  unfold rowOk at h
  simp only [Bool.and_eq_true, decide_eq_true_eq] at h
  have := encs_length_le r h.2
  simp only [encR, List.length_cons]
  omega
theorem flat_le : ∀ (rows : List (List V)), (∀ r ∈ rows, rowOk r = true) → (flat rows).length ≤ rows.length * 2113
  | [], _ => by simp [flat]
  | r :: t, h => by
    have h1 := encR_le r (h r (by simp))
    have h2 := flat_le t (fun s hs => h s (by simp [hs]))
    rw [flat_cons, List.length_append, List.length_cons]
    omega
set_option maxRecDepth 6000 in
theorem used_walk {w : World} {A : Option Addr} {n c : Nat} {hds : List Value} {rows : List (List V)} (hl : RdL w A n hds rows) (hok : ∀ r ∈ rows, rowOk r = true) (hn : n ≤ 10000) :
    Calls Tryz.prog 58 #[.slice A n c] w fun e w' => e = .returned (.int .i64 (usedN rows)) ∧ Below w.heap.size w w' := by
  have hlen := hl.len
  have HO := Lib.hid hok
  have HL := Lib.hid hl
  have HN := Lib.hid hlen
  clear hok hl hlen
  go_enter Tryz.func58, Tryz.ntmps58
  go_wp2
  go_loopw [3, 4] (fun u i wr => ∃ k f : Nat, k ≤ n ∧ f = (flat (rows.take k)).length ∧ u = .int .i64 ((1 + f + 2 * k : Nat) : Int) ∧ i = .int .i64 k ∧ Below w.heap.size w wr) (fun _ i _ => n - (intOf i).toNat)
  case atStart => exact ⟨0, 0, by omega, by simp [flat], rfl, rfl, Below.refl _ _⟩
  case round =>
    obtain ⟨k, f, hk, hf, rfl, rfl, bel⟩ := hrel
    have szr := bel.size
    by_cases hlt : k < n
    · obtain ⟨ad, B, m, cc, r, rfl, had, hrk, hhk, hcell, hrv⟩ := (HL.out.below bel).at_ hlt
      have hro := HO.out r (List.mem_of_getElem? hrk)
      have HP := Lib.hid (refput (c := cc) r hrv hro)
      have hf2 := flat_take hrk
      obtain ⟨g, hg⟩ : ∃ g, g = (encR r).length := ⟨_, rfl⟩
      have HF := Lib.hid (show f + g = (flat (rows.take (k + 1))).length by rw [hf2, List.length_append, hf, hg])
      have hg5 : g ≤ 2113 := by rw [hg]; exact encR_le r hro
      have hf5 : f ≤ 21130000 := by
        have := flat_le (rows.take k) (fun s hs => HO.out s (List.mem_of_mem_take hs))
        rw [List.length_take, HN.out, ← hf] at this
        have : min k n ≤ 10000 := by omega
        omega
      have HG := Lib.hid hg
      clear hrv hrk hhk hf hf2 hg
      go_wp2_with (go_at_call 92; refine HP.out.mono ?_; rintro e w1 ⟨v, rfl, ho, b1⟩; obtain ⟨D, cd, rfl⟩ := own_slice ho; rw [← HG.out] at *; clear ho)
      go_roundw
      case rel => exact ⟨k + 1, f + g, by omega, HF.out, by go_num, by go_num, bel.trans (b1.mono szr)⟩
      case measure => simp [intOf]; omega
    · obtain rfl : k = n := by omega
      have HF := Lib.hid (show 1 + f + 2 * k = usedN rows by rw [List.take_of_length_le (by rw [HN.out]; omega)] at hf; unfold usedN; rw [hf, HN.out])
      clear hf
      go_wp2
      go_ret
      exact ⟨by rw [← HF.out]; go_num, bel⟩
def mayE (r : List V) : Int := if rowOk r = false then 20 else if 253 < (encR r).length then 3 else 0
theorem may_walk {w : World} {A : Option Addr} {n c : Nat} {r : List V} (hr : RdV w A n r) :
    Calls Tryz.prog 86 #[.slice A n c] w fun e w' => e = .returned (.int .i64 (mayE r)) ∧ Below w.heap.size w w' := by
  have HC := rcheckRef (c := c) r hr
  cases hk : rowOk r with
  | false =>
    rw [hk] at HC
    have HC := Lib.hid HC
    have HM := Lib.hid (show mayE r = 20 by unfold mayE; rw [if_pos hk])
    clear hr hk
    go_enter Tryz.func86, Tryz.ntmps86
    go_wp2_with (go_at_call 101; refine HC.out.mono ?_; rintro e w1 ⟨rfl, b1⟩)
    go_ret
    exact ⟨by rw [HM.out]; rfl, b1⟩
  | true =>
    rw [hk] at HC
    have HC := Lib.hid HC
    have HP := fun w1 (b : Below w.heap.size w w1) => refput (c := c) r (hr.below b) hk
    obtain ⟨g, hg⟩ : ∃ g, g = (encR r).length := ⟨_, rfl⟩
    have HM := Lib.hid (show mayE r = if 253 < g then 3 else 0 by unfold mayE; rw [if_neg (by rw [hk]; decide), ← hg])
    have HG := Lib.hid hg
    have HP := Lib.hid HP
    clear hr hk hg
    go_enter Tryz.func86, Tryz.ntmps86
    go_wp2_with (first
      | (go_at_call 101; refine HC.out.mono ?_; rintro e w1 ⟨rfl, b1⟩)
      | (go_at_call 92; refine (HP.out _ b1).mono ?_; rintro e w2 ⟨v, rfl, ho, b2⟩; obtain ⟨D, cd, rfl⟩ := own_slice ho; rw [← HG.out]; clear ho))
    all_goals go_ret
    all_goals refine ⟨?_, b1.trans (b2.mono b1.size)⟩
    · rw [HM.out, if_pos (by omega)]
      rfl
    · rw [HM.out, if_neg (by omega)]
      rfl
end Go.Proofs.YtkbapoeilcapfaaGreat
namespace Go.Proofs.YtkbapoeilcapfaaGreat
open Go.RowKit
set_option linter.unusedVariables false
set_option linter.unusedSimpArgs false

section
variable {P : Program} {ops : Array Oper} {o : Oper} {a : Act} {K : Act → World → Prop} {Q : Exit → Act → World → Prop}
theorem op_append2 {W : World} (base : Nat) (s x : Operand) (t e : TypeId) (z : Value) (bytes : Nat)
    (ho : o.op = .call { callee := .builtin .append, args := #[s, x], argTypes := #[t, t] })
    (ht : P.underlying t = some (.slice e)) (hinfo : (P.info? e).map (fun i => (i.zero, i.size, i.bytes)) = some (some z, 1, bytes)) (hz : z.cells.size = 1) (hb0 : 0 < bytes)
    (v : Value) (n : Nat) (xs : List Value) (y1 y2 : Value) (hs : a.eval s = v) {S : Nat} (hx : a.eval x = .slice (some ⟨S, 0, none⟩) 2 2) (hS : S = W.heap.size) (h1 : y1.oneCell' = true) (h2 : y2.oneCell' = true)
    (HO : W.ownsRow base e 1 v n xs) (hbase : base ≤ W.heap.size) (hl : (n + 2) * bytes ≤ 140737488355328)
    (h : ∀ v1 w1, w1.ownsRow base e 1 v1 (n + 2) (xs ++ [y1, y2]) → Turn (fun k => v.ownBlock = some k) W w1 → K (a.put o.dst v1) w1) :
    o.wp P a (W.alloc (.cells #[y1, y2] e)) K Q := by
  subst hS
  obtain ⟨i0, hi, hz0, hz1, hz2⟩ := info_parts hinfo
  have hlen : n + 2 ≤ 140737488355328 := Nat.le_trans (Nat.le_mul_of_pos_right _ hb0) hl
  obtain ⟨v1, w1, hrun, hown, hg, _, hat⟩ := run_append_own_at (P := P) (W.alloc (.cells #[y1, y2] e)) base t o.type e i0 z 1 bytes ht hi hz0 hz1 hz2 hz (by omega) v n xs (HO.alloc _) ⟨W.heap.size, 0, none⟩ 2 2 [y1, y2] rfl
    (by simpa using World.news_of_block (cs := #[y1, y2]) (t := e) (fr := (0, 0)) (heap_alloc_new W (.cells #[y1, y2] e))) (by intro u hu; simp at hu; rcases hu with rfl | rfl; exact h1; exact h2) (by simp only [maxLen]; omega) hl (by simp; omega)
  unfold Oper.wp execOp
  simp only [ho, resolve, invoke, builtin, Sem.run_bind, Sem.run_pure, Result.andThen_ok, List.map_toArray, List.map_cons, List.map_nil, hs, hx, hrun]
  exact h v1 w1 hown (((Turn.refl _ W).alloc _).grown hg (fun k hk => .inl hk))
end
theorem getD_app_l {a b : List Int} {j : Nat} (h : j < a.length) : (a ++ b).getD j 0 = a.getD j 0 := by
  rw [List.getD_eq_getElem?_getD, List.getElem?_append_left h, ← List.getD_eq_getElem?_getD]
theorem getD_app_r {a b : List Int} {j : Nat} (h : a.length ≤ j) : (a ++ b).getD j 0 = b.getD (j - a.length) 0 := by
  rw [List.getD_eq_getElem?_getD, List.getElem?_append_right h, ← List.getD_eq_getElem?_getD]
/-- What stands behind all: so many rows' places, the last one first. -/
def tlS (off : Nat → Nat) (k : Nat) : Nat → List Int
  | 0 => []
  | m + 1 => tlS off k m ++ [((off (k - 1 - m) / 256 : Nat) : Int), ((off (k - 1 - m) % 256 : Nat) : Int)]
theorem tlS_len (off : Nat → Nat) (k : Nat) : ∀ m, (tlS off k m).length = 2 * m
  | 0 => rfl
  | m + 1 => by rw [tlS, List.length_append, tlS_len off k m]; simp; omega
theorem tlS_get (off : Nat → Nat) (k : Nat) : ∀ m j, j < m → (tlS off k m).getD (2 * j) 0 = ((off (k - 1 - j) / 256 : Nat) : Int) ∧ (tlS off k m).getD (2 * j + 1) 0 = ((off (k - 1 - j) % 256 : Nat) : Int)
  | 0, j, h => absurd h (by omega)
  | m + 1, j, h => by
    have hl := tlS_len off k m
    rw [tlS]
    by_cases hj : j < m
    · have := tlS_get off k m j hj
      rw [getD_app_l (show 2 * j < _ by omega), getD_app_l (show 2 * j + 1 < _ by omega)]
      exact this
    · obtain rfl : j = m := by omega
      rw [getD_app_r (show _ ≤ 2 * j by omega), getD_app_r (show _ ≤ 2 * j + 1 by omega), hl]
      simp
def mkP (rows : List (List V)) : List Int := ((rows.length : Int) :: flat rows) ++ List.replicate (256 - 2 * rows.length - (1 + (flat rows).length)) 0 ++ tlS (offAt rows) rows.length rows.length
theorem mkP_PG (rows : List (List V)) (h : usedN rows ≤ 256) : PG (mkP rows) rows := by
  have hu := h
  unfold usedN at hu
  obtain ⟨X, hX⟩ : ∃ X, X = ((rows.length : Int) :: flat rows) ++ List.replicate (256 - 2 * rows.length - (1 + (flat rows).length)) 0 := ⟨_, rfl⟩
  have hXl : X.length = 256 - 2 * rows.length := by rw [hX, List.length_append, List.length_replicate, List.length_cons]; omega
  have htl := tlS_len (offAt rows) rows.length rows.length
  have hm : mkP rows = X ++ tlS (offAt rows) rows.length rows.length := by rw [hX]; rfl
  rw [hm]
  refine ⟨by rw [List.length_append, hXl, htl]; omega, h, ?_, ?_, ?_⟩
  · rw [List.take_append_of_le_length (by rw [hXl]; omega), hX]
    exact List.take_left' (by rw [List.length_cons]; omega)
  · intro j h1 h2
    rw [List.getD_eq_getElem?_getD, List.getElem?_append_left (by rw [hXl]; exact h2), hX, List.getElem?_append_right (by rw [List.length_cons]; omega), List.getElem?_replicate]
    split <;> rfl
  · intro i hi
    have := tlS_get (offAt rows) rows.length rows.length (rows.length - 1 - i) (by omega)
    rw [show rows.length - 1 - (rows.length - 1 - i) = i by omega] at this
    rw [getD_app_r (show _ ≤ 256 - 2 * (i + 1) by rw [hXl]; omega), getD_app_r (show _ ≤ 256 - 2 * (i + 1) + 1 by rw [hXl]; omega), hXl]
    rw [show 256 - 2 * (i + 1) - (256 - 2 * rows.length) = 2 * (rows.length - 1 - i) by omega, show 256 - 2 * (i + 1) + 1 - (256 - 2 * rows.length) = 2 * (rows.length - 1 - i) + 1 by omega]
    exact this
end Go.Proofs.YtkbapoeilcapfaaGreat
namespace Go.Proofs.YtkbapoeilcapfaaGreat
open Go.RowKit
set_option linter.unusedVariables false
set_option linter.unusedSimpArgs false

theorem info_int : (Tryz.prog.info? 3).map (fun i => (i.zero, i.size, i.bytes)) = some (some (.int .i64 0), 1, 8) := by kernel_rfl
def offsI (rows : List (List V)) (k : Nat) : List Value := (List.range k).map fun i => Value.int .i64 (offAt rows i)
theorem offsI_succ (rows : List (List V)) (k : Nat) : offsI rows (k + 1) = offsI rows k ++ [.int .i64 (offAt rows k)] := by
  unfold offsI
  rw [List.range_succ, List.map_append]
  rfl
theorem offsI_get (rows : List (List V)) {k i : Nat} (h : i < k) : (offsI rows k)[i]? = some (.int .i64 (offAt rows i)) := by
  unfold offsI
  rw [List.getElem?_map, List.getElem?_range h]
  rfl
theorem wrap_a {o : Nat} (h : o ≤ 65535) : IntKind.u8.wrap (IntKind.i64.wrap ((o : Int) / 256)) = ((o / 256 : Nat) : Int) := by
  have e2 : ((o / 256 : Nat) : Int) % 2 ^ 64 = (o / 256 : Nat) := Int.emod_eq_of_lt (by omega) (by omega)
  have e : IntKind.i64.wrap ((o : Int) / 256) = ((o / 256 : Nat) : Int) := by
    rw [show (o : Int) / 256 = ((o / 256 : Nat) : Int) by omega]
    simp only [IntKind.wrap, IntKind.bits, IntKind.signed, e2]
    rw [if_neg]
    simp
    omega
  rw [e]
  exact u8_small (by omega) (by omega)
theorem wrap_b (o : Nat) : IntKind.u8.wrap ((o : Int).tmod 256) = ((o % 256 : Nat) : Int) := by
  rw [Int.tmod_eq_emod_of_nonneg (by omega)]
  rw [u8_small (by omega) (by omega)]
  omega
def MakePost (w : World) (rows : List (List V)) (e : Ending) (w' : World) : Prop :=
  (if 256 < usedN rows then e = .returned (.tuple #[.slice none 0 0, .bool false])
   else ∃ A c, e = .returned (.tuple #[.slice A 256 c, .bool true]) ∧ w'.ownsRow w.heap.size 5 1 (.slice A 256 c) 256 (u8s (mkP rows))) ∧ Below w.heap.size w w'
set_option maxRecDepth 6000 in
set_option maxHeartbeats 400000 in
theorem make_walk {w : World} {A : Option Addr} {n c : Nat} {hds : List Value} {rows : List (List V)} (hl : RdL w A n hds rows) (hok : ∀ r ∈ rows, rowOk r = true) (hn : n ≤ 255) :
    Calls Tryz.prog 115 #[.slice A n c] w (MakePost w rows) := by
  have hlen := hl.len
  have HO := Lib.hid hok
  have HL := Lib.hid hl
  have HN := Lib.hid hlen
  have hw8 : IntKind.u8.wrap (n : Int) = n := u8_small (by omega) (by omega)
  obtain ⟨F, hF⟩ : ∃ F, F = (flat rows).length := ⟨_, rfl⟩
  have hF5 : F ≤ 538815 := by
    have := flat_le rows hok
    omega
  have HF := Lib.hid hF
  clear hok hl hlen hF
  go_enter Tryz.func115, Tryz.ntmps115
  go_wp2
  have hown := World.ownsRow_lit (base := w.heap.size) (e := 5) (size := 1) w #[.int .u8 n] 1 (Nat.le_refl _) (by simp [maxLen]) (by simp)
  have b0 : Below w.heap.size w (w.alloc (.cells #[.int .u8 n] 5)) := (Below.refl _ _).alloc (Nat.le_refl _) _
  go_loopw [4, 5, 6] (fun o q i wr => ∃ (k f : Nat) (A1 A2 : Option Addr) (c1 c2 : Nat), k ≤ n ∧ f = (flat (rows.take k)).length ∧ f ≤ F ∧ o = .slice A1 (1 + f) c1 ∧ q = .slice A2 k c2 ∧ i = .int .i64 k ∧ wr.ownsRow w.heap.size 5 1 (.slice A1 (1 + f) c1) (1 + f) (u8s ((n : Int) :: flat (rows.take k))) ∧ wr.ownsRow w.heap.size 3 1 (.slice A2 k c2) k (offsI rows k) ∧ Below w.heap.size w wr) (fun _ _ i _ => n - (intOf i).toNat)
  case atStart => exact ⟨0, 0, _, none, _, 0, by omega, by simp [flat], by omega, rfl, rfl, rfl, by simpa [u8s, flat] using hown, World.ownsRow_nil _ _ _ _, b0⟩
  case round =>
    clear hown b0
    obtain ⟨k, f, A1, A2, c1, c2, hk, hf, hfF, rfl, rfl, rfl, ho, hq, bel⟩ := hrel
    have szr := bel.size
    by_cases hlt : k < n
    · obtain ⟨ad, B, m, cc, r, rfl, had, hrk, hhk, hcell, hrv⟩ := HL.out.at_ hlt
      have hro := HO.out r (List.mem_of_getElem? hrk)
      have HP := fun W (b : Below w.heap.size w W) => refput (c := cc) r (hrv.below b) hro
      have hf2 := flat_take hrk
      obtain ⟨E, hE⟩ : ∃ E, E = encR r := ⟨_, rfl⟩
      obtain ⟨g, hg⟩ : ∃ g, g = E.length := ⟨_, rfl⟩
      rw [← hE] at HP hf2
      rw [← hg] at HP
      have HP := Lib.hid HP
      have hfg : f + g = (flat (rows.take (k + 1))).length := by rw [hf2, List.length_append, hf, hg]
      have hfg2 : f + g ≤ F := by
        rw [hfg, HF.out]
        conv => rhs; rw [← List.take_append_drop (k + 1) rows, flat_append, List.length_append]
        omega
      have HH := Lib.hid (And.intro hg (And.intro hfg (And.intro hf2 (And.intro hf bel))))
      have HO1 := Lib.hid ho
      have HQ1 := Lib.hid hq
      have hofk : offAt rows k = 1 + f := by unfold offAt; rw [hf]
      have HK := Lib.hid hofk
      have HHC := Lib.hid (fun W (b : Below w.heap.size w W) => cell_belowv hcell b (by rw [add_block]; exact had))
      clear hrv hrk hhk hf hf2 hE hg hfg ho bel hofk hcell
      go_wp2_with (first
        | (at_builtin; refine wp_append1 w.heap.size rfl (.tmp 18) (.tmp 21) 22 3 (.int .i64 0) 1 8 rfl Tryz.underlying22 info_int rfl (by omega) (by omega) (.slice A2 k c2) k _ [.int .i64 ((1 : Int) + f)] rfl rfl (by simp) rfl (by simp [Value.oneCell']) HQ1.out szr (by omega) ?_; intro v1 w2 h2 t2 hor2; obtain ⟨A3, c3, rfl⟩ := own_slice h2; have HQ2 := Lib.hid h2; have HO2 := Lib.hid (own_turn HO1.out t2 (fun k hk => own_ne_own HO1.out HQ1.out (by decide) hk)); have B2 := Lib.hid (below_turn HH.out.2.2.2.2 t2 szr (fun k hk => own_ge HQ1.out hk)); have hc2 := HHC.out _ B2.out; clear h2 t2 hor2)
        | (go_at_call 92; refine (HP.out _ B2.out).mono ?_; rintro e w3 ⟨v, rfl, ho3, b3⟩; obtain ⟨D, cd, rfl⟩ := own_slice ho3; have HQ3 := Lib.hid (own_below HQ2.out b3); have HO3 := Lib.hid (own_below HO2.out b3); have HD3 := Lib.hid ho3; have B3 := Lib.hid (B2.out.trans (b3.mono B2.out.size)); clear ho3 b3)
        | (at_builtin; refine wp_appendL w.heap.size rfl (.tmp 23) (.tmp 28) 136 5 (.int .u8 0) 1 1 rfl Tryz.underlying136 info_u8 rfl (by omega) (by omega) (.slice A1 (1 + f) c1) (1 + f) _ rfl D g cd (u8s E) rfl (by rw [List.length_map, ← HH.out.1]; omega) (fun h => by obtain ⟨ad, e, _, hc⟩ := (Rd1.of_own HD3.out).2.2.2 h; exact ⟨ad, e, hc⟩) (by intro u hu; obtain ⟨x, _, rfl⟩ := List.mem_map.1 hu; rfl) HO3.out B3.out.size (by omega) ?_; intro v4 w4 h4 t4 _))
      obtain ⟨A5, c5, rfl⟩ := own_slice h4
      have HQ4 := own_turn HQ3.out t4 (fun k hk => own_ne_own HQ3.out HO3.out (by decide) hk)
      have B4 := below_turn B3.out t4 B3.out.size (fun k hk => own_ge HO3.out hk)
      have h5 : w4.ownsRow w.heap.size 5 1 (.slice A5 (1 + f + g) c5) (1 + f + g) (u8s ((n : Int) :: flat (rows.take (k + 1)))) := by
        rw [HH.out.2.2.1]
        simpa [u8s] using h4
      go_roundw
      case rel =>
        refine ⟨k + 1, f + g, A5, A3, c5, c3, by omega, HH.out.2.1, hfg2, by rw [Nat.add_assoc], rfl, by go_num, by rw [← Nat.add_assoc]; exact h5, ?_, B4⟩
        rw [offsI_succ, HK.out]
        exact HQ4
      case measure => simp [intOf]; omega
    · obtain rfl : k = n := by omega
      have hfF2 : f = F := by rw [hf, HF.out, List.take_of_length_le (by rw [HN.out]; omega)]
      subst hfF2
      rw [List.take_of_length_le (by rw [HN.out]; omega)] at ho
      have HH := Lib.hid (And.intro ho (And.intro hq bel))
      have HU := Lib.hid (show usedN rows = 1 + f + 2 * k by unfold usedN; rw [HN.out, ← HF.out])
      clear ho hq bel hf
      by_cases hbig : 256 < 1 + f + 2 * k
      · have hk5 : ¬ ((255 : Int) < k) := by omega
        have hbI : (256 : Int) < 1 + (f : Int) + 2 * (k : Int) := by omega
        go_wp2
        go_ret2
        unfold MakePost
        rw [if_pos (by rw [HU.out]; exact hbig)]
        exact ⟨by trivial, HH.out.2.2⟩
      · have hk5 : ¬ ((255 : Int) < k) := by omega
        have hbI : ¬ (256 : Int) < 1 + (f : Int) + 2 * (k : Int) := by omega
        obtain ⟨en, hen⟩ : ∃ en, en = 256 - 2 * k := ⟨_, rfl⟩
        have henI : (256 : Int) - 2 * (k : Int) = en := by omega
        have hfe : 1 + f ≤ en := by omega
        have HEN := Lib.hid hen
        have hkI : (k : Int) + -1 = (k : Int) - 1 := by omega
        have hfit : 1 + f + 2 * k ≤ 256 := by omega
        have hen5 : en ≤ 256 := by omega
        obtain ⟨X, hX⟩ : ∃ X, X = (k : Int) :: flat rows := ⟨_, rfl⟩
        have HX := Lib.hid hX
        rw [← hX] at HH
        clear hX hen hbig
        go_wp2
        go_loopw [4] (fun o wr2 => ∃ (z : Nat) (A3 : Option Addr) (c3 : Nat), 1 + f + z ≤ en ∧ o = .slice A3 (1 + f + z) c3 ∧ wr2.ownsRow w.heap.size 5 1 (.slice A3 (1 + f + z) c3) (1 + f + z) (u8s (X ++ List.replicate z 0)) ∧ wr2.ownsRow w.heap.size 3 1 (.slice A2 k c2) k (offsI rows k) ∧ Below w.heap.size w wr2) (fun o _ => 256 - lenOf o)
        case atStart => exact ⟨0, A1, c1, by omega, rfl, by simpa using HH.out.1, HH.out.2.1, HH.out.2.2⟩
        case round =>
          obtain ⟨z, A3, c3, hz, rfl, ho, hq, bel⟩ := hrel
          have szr := bel.size
          have HO2 := Lib.hid ho
          have HQ2 := Lib.hid hq
          clear ho hq
          by_cases hze : 1 + f + z < en
          · go_wp2_with (at_builtin; refine wp_append1 w.heap.size rfl (.tmp 49) (.tmp 50) 136 5 (.int .u8 0) 1 1 rfl Tryz.underlying136 info_u8 rfl (by omega) (by omega) (.slice A3 (1 + f + z) c3) (1 + f + z) _ [.int .u8 0] rfl rfl (by simp) rfl (by simp [Value.oneCell']) HO2.out szr (by omega) ?_; intro v1 w2 h2 t2 hor2)
            obtain ⟨A4, c4, rfl⟩ := own_slice h2
            have HQ3 := own_turn HQ2.out t2 (fun k hk => own_ne_own HQ2.out HO2.out (by decide) hk)
            have B2 := below_turn bel t2 szr (fun k hk => own_ge HO2.out hk)
            have h3 : w2.ownsRow w.heap.size 5 1 (.slice A4 (1 + f + (z + 1)) c4) (1 + f + (z + 1)) (u8s (X ++ List.replicate (z + 1) 0)) := by
              rw [List.replicate_succ', ← List.append_assoc, show 1 + f + (z + 1) = 1 + f + z + 1 by omega]
              simpa [u8s] using h2
            go_roundw
            case rel => exact ⟨z + 1, A4, c4, by omega, rfl, h3, HQ3, B2⟩
            case measure => simp [lenOf]; omega
          · have hzz : 1 + f + z = en := by omega
            have HY := Lib.hid (show X ++ List.replicate z 0 = (((rows.length : Nat) : Int) :: flat rows) ++ List.replicate (256 - 2 * rows.length - (1 + (flat rows).length)) 0 by
              rw [HX.out, HN.out, ← HF.out, ← HEN.out, ← hzz, Nat.add_sub_cancel_left])
            obtain ⟨Y, hY⟩ : ∃ Y, Y = X ++ List.replicate z 0 := ⟨_, rfl⟩
            rw [← hY] at HO2 HY
            rw [hzz] at HO2 ⊢
            have hzI : ¬ (en : Int) < en := by omega
            clear hY hzz hz hze
            go_wp2
            go_loopw [4, 7] (fun o i wr3 => ∃ (m : Nat) (A4 : Option Addr) (c4 : Nat), m ≤ k ∧ o = .slice A4 (en + 2 * m) c4 ∧ i = .int .i64 ((k : Int) - 1 - m) ∧ wr3.ownsRow w.heap.size 5 1 (.slice A4 (en + 2 * m) c4) (en + 2 * m) (u8s (Y ++ tlS (offAt rows) k m)) ∧ wr3.ownsRow w.heap.size 3 1 (.slice A2 k c2) k (offsI rows k) ∧ Below w.heap.size w wr3) (fun _ i _ => (intOf i + 1).toNat)
            case atStart => exact ⟨0, A3, c3, by omega, rfl, by simp, by simpa [tlS] using HO2.out, HQ2.out, bel⟩
            case round =>
              obtain ⟨m, A4, c4, hm, rfl, rfl, ho, hq, bel3⟩ := hrel
              have HO3 := Lib.hid ho
              have HQ3 := Lib.hid hq
              have sz3 := bel3.size
              clear ho hq
              by_cases hmk : m < k
              · obtain ⟨j, hj⟩ : ∃ j, j = k - 1 - m := ⟨_, rfl⟩
                have hjI : (k : Int) - 1 - m = j := by omega
                rw [hjI]
                obtain ⟨adq, rfl, had, hcq⟩ := (Rd1.of_own HQ3.out).2.at2 (k := j) (by omega)
                rw [offsI_get rows (show j < k by omega)] at hcq
                have hoff := offAt_le (rows := rows) j
                rw [← HF.out] at hoff
                obtain ⟨o, hoo⟩ : ∃ o, o = offAt rows j := ⟨_, rfl⟩
                rw [← hoo] at hcq hoff
                have HOO := Lib.hid (And.intro hoo hj)
                have hjk : j < k := by omega
                have hj1 : ¬ (j : Int) < 0 := by omega
                clear hoo hj
                go_wp2
                have HOd : wr.drew.ownsRow w.heap.size 5 1 (.slice A4 (en + 2 * m) c4) (en + 2 * m) (u8s (Y ++ tlS (offAt rows) k m)) := HO3.out
                have HOd := Lib.hid HOd
                have e1 : IntKind.u8.wrap (IntKind.i64.wrap ((o : Int) / 256)) = ((o / 256 : Nat) : Int) := wrap_a (by omega)
                have e2 : IntKind.u8.wrap ((o : Int).tmod 256) = ((o % 256 : Nat) : Int) := wrap_b o
                have HE := Lib.hid (And.intro e1 e2)
                clear e1 e2
                go_region_law (refine step_of_wp rfl (show Oper.wp _ _ _ (wr.drew.alloc (.cells #[.int .u8 (IntKind.u8.wrap (IntKind.i64.wrap ((o : Int) / 256))), .int .u8 (IntKind.u8.wrap ((o : Int).tmod 256))] 5)) _ _ from op_append2 (W := wr.drew) w.heap.size (.tmp 59) (.tmp 72) 136 5 (.int .u8 0) 1 rfl Tryz.underlying136 info_u8 rfl (by omega) (.slice A4 (en + 2 * m) c4) (en + 2 * m) _ _ _ rfl rfl rfl rfl rfl HOd.out sz3 (by omega) ?_); intro v1 w4 h4 t4; obtain ⟨A5, c5, rfl⟩ := own_slice h4)
                all_goals
                  have HQ4 := own_turn (show wr.drew.ownsRow w.heap.size 3 1 (.slice (some adq) k c2) k (offsI rows k) from HQ3.out) t4 (fun i hi => own_ne_own HQ3.out HO3.out (by decide) hi)
                  have B4 := below_turn (below_drew bel3) t4 sz3 (fun i hi => own_ge HOd.out hi)
                  have h5 : w4.ownsRow w.heap.size 5 1 (.slice A5 (en + 2 * (m + 1)) c5) (en + 2 * (m + 1)) (u8s (Y ++ tlS (offAt rows) k (m + 1))) := by
                    rw [HE.out.1, HE.out.2, HOO.out.1, HOO.out.2, show en + 2 * m + 2 = en + 2 * (m + 1) by omega] at h4
                    rw [tlS, ← List.append_assoc]
                    simpa [u8s] using h4
                  go_wp2
                  go_roundw
                all_goals first
                  | exact ⟨m + 1, A5, c5, by omega, by rw [Nat.mul_add, ← Nat.add_assoc], by congr 1 <;> omega, h5, HQ4, B4⟩
                  | (simp only [intOf]; omega)
              · obtain rfl : m = k := by omega
                have hjI : (m : Int) - 1 - m = -1 := by omega
                rw [hjI]
                have hen : en + 2 * m = 256 := by have := HEN.out; omega
                rw [hen] at HO3 ⊢
                have HM := Lib.hid (show u8s (Y ++ tlS (offAt rows) m m) = u8s (mkP rows) by
                  unfold mkP
                  rw [HY.out, HN.out])
                rw [HM.out] at HO3
                have HB := Lib.hid bel3
                have HU2 := Lib.hid (show ¬ 256 < usedN rows by rw [HU.out]; omega)
                clear hen hjI bel3
                go_wp2
                go_ret2
                unfold MakePost
                rw [if_neg HU2.out]
                exact ⟨⟨A4, c4, by trivial, HO3.out⟩, HB.out⟩
end Go.Proofs.YtkbapoeilcapfaaGreat

/- the document's Rows. -/
namespace Go.Proofs.YtkbapoeilcapfaaGreat
open Go.RowKit
set_option linter.unusedVariables false
set_option linter.unusedSimpArgs false

def refA (p : List Int) : Nat → Nat → List (List V) → Option (List (List V))
  | 0, _, acc => some acc
  | k + 1, a, acc => match decR (p.drop a) with
    | none => none
    | some (r, m) => refA p k (a + m) (acc ++ [r])
theorem refA_succ (p : List Int) (k a : Nat) (acc : List (List V)) : refA p (k + 1) a acc = match decR (p.drop a) with
    | none => none
    | some (r, m) => refA p k (a + m) (acc ++ [r]) := rfl
theorem refA_sound (p : List Int) (hb : isB p) : ∀ (k a : Nat) (acc out : List (List V)), a ≤ p.length → refA p k a acc = some out → ∃ rs, out = acc ++ rs ∧ rs.length = k ∧ (∀ r ∈ rs, rowOk r = true)
  | 0, a, acc, out, _, h => by
    simp only [refA, Option.some.injEq] at h
    exact ⟨[], by simp [h], rfl, by simp⟩
  | k + 1, a, acc, out, ha, h => by
    rw [refA_succ] at h
    split at h
    · cases h
    · next r m e =>
      obtain ⟨h1, h2, h3, h4⟩ := decR_sound (hb.drop a) e
      rw [List.length_drop] at h4
      obtain ⟨rs, e1, e2, e3⟩ := refA_sound p hb k (a + m) _ out (by omega) h
      refine ⟨r :: rs, by simp [e1], by simp [e2], ?_⟩
      intro s hs
      rcases List.mem_cons.1 hs with rfl | hs
      · exact h1
      · exact e3 s hs
theorem refA_compl (p : List Int) : ∀ (rs : List (List V)) (a : Nat) (acc : List (List V)), (∀ r ∈ rs, rowOk r = true) → (p.drop a).take (flat rs).length = flat rs → refA p rs.length a acc = some (acc ++ rs)
  | [], a, acc, _, _ => by simp [refA]
  | r :: rs, a, acc, hok, htk => by
    obtain ⟨h1, h2⟩ := take_flat_step htk
    have hd : decR (p.drop a) = some (r, (encR r).length) := by
      have : p.drop a = encR r ++ (p.drop a).drop (encR r).length := by
        conv => lhs; rw [← List.take_append_drop (encR r).length (p.drop a), h1]
      rw [this]
      exact decR_enc r (hok r (by simp)) _
    show refA p (rs.length + 1) a acc = _
    rw [refA_succ, hd]
    dsimp only
    rw [refA_compl p rs _ _ (fun s hs => hok s (by simp [hs])) h2]
    simp
theorem ref_none {p : List Int} (hb : isB p) (h : refA p (p.getD 0 0).toNat 1 [] = none) : scanS p = none := by
  cases hs : scanS p with
  | none => rfl
  | some x =>
    obtain ⟨rows, a⟩ := x
    obtain ⟨hp, hok, _⟩ := scanS_sound hb hs
    rw [hp.p0, Int.toNat_natCast, refA_compl p rows 1 [] hok hp.flat_] at h
    cases h
theorem ref_some {p : List Int} (hb : isB p) (hl : p.length = 256) {out : List (List V)} (h : refA p (p.getD 0 0).toNat 1 [] = some out) :
    (∀ r ∈ out, rowOk r = true) ∧ (256 < usedN out → scanS p = none) ∧ (usedN out ≤ 256 → mkP out ≠ p → scanS p = none) ∧ (usedN out ≤ 256 → mkP out = p → scanS p = some (out, 1 + (flat out).length)) := by
  obtain ⟨rs, e1, e2, e3⟩ := refA_sound p hb _ 1 [] out (by omega) h
  obtain rfl : out = rs := by simpa using e1
  have key : ∀ x, scanS p = some x → x.1 = out ∧ PG p out := by
    rintro ⟨rows, a⟩ hs
    obtain ⟨hp, hok, _⟩ := scanS_sound hb hs
    rw [hp.p0, Int.toNat_natCast, refA_compl p rows 1 [] hok hp.flat_] at h
    simp only [List.nil_append, Option.some.injEq] at h
    subst h
    exact ⟨rfl, hp⟩
  refine ⟨e3, fun hu => ?_, fun hu hne => ?_, fun hu he => ?_⟩
  · cases hs : scanS p with
    | none => rfl
    | some x =>
      have := (key x hs).2.fit
      omega
  · cases hs : scanS p with
    | none => rfl
    | some x => exact absurd ((mkP_PG out hu).unique (key x hs).2) hne
  · have hp := mkP_PG out hu
    rw [he] at hp
    exact scanS_compl hb hp e3
theorem isB_mkP (rows : List (List V)) (hok : ∀ r ∈ rows, rowOk r = true) (hu : usedN rows ≤ 256) : isB (mkP rows) := by
  unfold usedN at hu
  unfold mkP
  refine isB.append (isB.append ?_ (isB_zeros _)) ?_
  · intro y hy
    rcases List.mem_cons.1 hy with e | e
    · omega
    · obtain ⟨r, hr, hy⟩ := List.mem_flatMap.1 e
      exact isB_encR r (hok r hr) y hy
  · have : ∀ m, m ≤ rows.length → isB (tlS (offAt rows) rows.length m) := by
      intro m
      induction m with
      | zero => intro _ y hy; simp [tlS] at hy
      | succ m ih =>
        intro hm
        refine isB.append (ih (by omega)) ?_
        have ho := offAt_le (rows := rows) (rows.length - 1 - m)
        intro y hy
        simp only [List.mem_cons, List.not_mem_nil, or_false] at hy
        omega
    exact this _ (Nat.le_refl _)
theorem strOf_inj {a b : List Int} (ha : isB a) (hb : isB b) (h : strOf a = strOf b) : a = b := by
  rw [← bytes_str ha, ← bytes_str hb, h]
theorem str_ne {a b : List Int} (ha : isB a) (hb : isB b) (h : a ≠ b) : ((strOf a).toList == (strOf b).toList) = false := by
  rw [beq_eq_false_iff_ne]
  intro e
  exact h (strOf_inj ha hb (toList_inj e))
theorem RdL.of_own {w : World} {base b2 : Nat} {A : Option Addr} {n c : Nat} {hds : List Value} {rows : List (List V)} (h : w.ownsRow base 25 1 (.slice A n c) n hds) (hr : OwnRs w b2 hds rows) : RdL w A n hds rows := by
  have h1 := (Rd1.of_own h).2
  refine ⟨h1, by rw [← hr.len]; exact h1.1, fun i r hi => ?_⟩
  obtain ⟨hl, _⟩ := List.getElem?_eq_some_iff.1 hi
  obtain ⟨x, hx⟩ : ∃ x, hds[i]? = some x := ⟨_, List.getElem?_eq_getElem (by rw [hr.len]; exact hl)⟩
  have ho := hr.own i x r hx hi
  obtain ⟨B, cb, rfl⟩ := own_slice ho
  exact ⟨B, _, cb, hx, (RdV.of_own ho (fun v hv => vOk_size (rowOk_mem (hr.ok r (List.mem_of_getElem? hi)) hv))).2⟩
end Go.Proofs.YtkbapoeilcapfaaGreat
namespace Go.Proofs.YtkbapoeilcapfaaGreat
open Go.RowKit
set_option linter.unusedVariables false
set_option linter.unusedSimpArgs false

theorem rget_none {w : World} {ad : Addr} {n c : Nat} {bs : List Int} (h : Rd1 w (some ad) n (u8s bs)) (hb : isB bs) (hnc : n ≤ c) (hn5 : n ≤ 100000) (hc5 : c ≤ 9223372036854775807) (hd : decR bs = none) :
    Calls Tryz.prog 119 #[.slice (some ad) n c] w fun e w' => e = .returned (.tuple #[.slice none 0 0, .int .i64 0, .bool false]) ∧ Below w.heap.size w w' := by
  refine (rget_walk h hb hnc hn5 hc5).mono ?_
  intro e w' H
  unfold RGetPost RGetP at H
  rw [hd] at H
  exact H
theorem rget_some {w : World} {ad : Addr} {n c : Nat} {bs : List Int} (h : Rd1 w (some ad) n (u8s bs)) (hb : isB bs) (hnc : n ≤ c) (hn5 : n ≤ 100000) (hc5 : c ≤ 9223372036854775807) {r : List V} {m : Nat} (hd : decR bs = some (r, m)) :
    Calls Tryz.prog 119 #[.slice (some ad) n c] w fun e w' => ∃ B c', e = .returned (.tuple #[.slice B r.length c', .int .i64 m, .bool true]) ∧ w'.ownsRow w.heap.size 86 3 (.slice B r.length c') r.length (cellsR r) ∧ Below w.heap.size w w' := by
  refine (rget_walk h hb hnc hn5 hc5).mono ?_
  intro e w' H
  unfold RGetPost RGetP at H
  rw [hd] at H
  obtain ⟨⟨v', rfl, ho⟩, b⟩ := H
  obtain ⟨B, c', rfl⟩ := own_slice ho
  exact ⟨B, c', rfl, ho, b⟩
def RRowsP (w : World) (o : Option (List (List V) × Nat)) (e : Ending) (w' : World) : Prop :=
  (match o with
  | some (rows, _) => ∃ A c hds, e = .returned (.tuple #[.slice A rows.length c, .bool true]) ∧ w'.ownsRow w.heap.size 25 1 (.slice A rows.length c) rows.length hds ∧ OwnRs w' w.heap.size hds rows
  | none => e = .returned (.tuple #[.slice none 0 0, .bool false])) ∧ Below w.heap.size w w'
theorem RRowsP.none {w w' : World} {o : Option (List (List V) × Nat)} (h : o = Option.none) {e : Ending} (he : e = .returned (.tuple #[.slice Option.none 0 0, .bool false])) (b : Below w.heap.size w w') : RRowsP w o e w' := by
  subst h
  exact ⟨he, b⟩
theorem rrows_len {w : World} {A : Option Addr} {n c : Nat} {p : List Int} (hl : p.length = n) (h : n ≠ 256) : Calls Tryz.prog 91 #[.slice A n c] w (RRowsP w (scanS p)) := by
  have HS := Lib.hid (show scanS p = none by unfold scanS; rw [if_neg (by omega)])
  have hn : ((n : Int) != 256) = true := by simp; omega
  clear hl
  go_enter Tryz.func91, Tryz.ntmps91
  go_wp2
  go_ret2
  exact RRowsP.none HS.out rfl (Below.refl _ _)
set_option maxRecDepth 6000 in
set_option maxHeartbeats 400000 in
theorem rrows_ok {w : World} {ad : Addr} {c k : Nat} {t : List Int} (h : Rd1 w (some ad) 256 (u8s ((k : Int) :: t))) (hb : isB ((k : Int) :: t)) (hk5 : k ≤ 255) (hc : 256 ≤ c) (hc6 : c ≤ 9223372036854775807) : Calls Tryz.prog 91 #[.slice (some ad) 256 c] w (RRowsP w (scanS ((k : Int) :: t))) := by
  obtain ⟨c0, had, hn⟩ := rd_head h
  obtain ⟨p, hp⟩ : ∃ p, p = (k : Int) :: t := ⟨_, rfl⟩
  have hp0 : (p.getD 0 0).toNat = k := by rw [hp]; simp
  rw [← hp] at h hb ⊢
  have HH := Lib.hid (And.intro h (And.intro hb (And.intro (show p.length = 256 by simpa using h.1) hp0)))
  clear h hb hp hn hp0
  go_enter Tryz.func91, Tryz.ntmps91
  go_wp2
  go_loopw [4, 5, 6] (fun o q x wr => ∃ (i a : Nat) (A : Option Addr) (C : Nat) (hds : List Value) (rows : List (List V)), i ≤ k ∧ a ≤ 256 ∧ q = .int .i64 a ∧ x = .int .i64 i ∧ o = .slice A i C ∧ rows.length = i ∧ refA p k 1 [] = refA p (k - i) a rows ∧ wr.ownsRow w.heap.size 25 1 (.slice A i C) i hds ∧ OwnRs wr w.heap.size hds rows ∧ Below w.heap.size w wr) (fun _ _ x _ => k - (intOf x).toNat)
  case atStart => exact ⟨0, 1, none, 0, [], [], by omega, by omega, rfl, rfl, rfl, rfl, rfl, World.ownsRow_nil _ _ _ _, OwnRs.nil _ _, Below.refl _ _⟩
  case round =>
    obtain ⟨i, a, A, C, hds, rows, hi, ha, rfl, rfl, rfl, hrl, hsc, ho, hrs, bel⟩ := hrel
    have szr := bel.size
    have c0 := (bel.cell had).trans c0
    by_cases hlt : i < k
    · rw [show k - i = k - (i + 1) + 1 by omega, refA_succ] at hsc
      have R2 : ∃ ad2, (if c = a then some ad else some (ad.add a)) = some ad2 ∧ Rd1 wr (some ad2) (256 - a) (u8s (p.drop a)) := by
        by_cases hae : c = a
        · refine ⟨ad, by rw [if_pos hae], ?_⟩
          obtain rfl : a = 256 := by omega
          rw [List.drop_eq_nil_iff.2 (by rw [HH.out.2.2.1]; omega)]
          exact ⟨by simp, by omega, fun h => absurd h (by omega)⟩
        · refine ⟨ad.add a, by rw [if_neg hae], ?_⟩
          have := (HH.out.1.below bel).drop (h := a) ha
          rwa [← List.map_drop] at this
      obtain ⟨ad2, had2, hr2⟩ := R2
      have hbt : isB (p.drop a) := HH.out.2.1.drop a
      have HG := Lib.hid (And.intro ho (And.intro hrs (And.intro bel hrl)))
      have hac : a ≤ c := by omega
      have ha2 : ¬ (256 : Int) < a := by omega
      cases hd : decR (p.drop a) with
      | none =>
        rw [hd] at hsc
        have HD := Lib.hid (ref_none HH.out.2.1 (by rw [HH.out.2.2.2]; exact hsc))
        have HC := rget_none (c := c - a) hr2 hbt (by omega) (by omega) (by omega) hd
        rw [← had2] at HC
        have HC := Lib.hid HC
        clear hr2 hbt ho hrs bel hd hsc hrl had2
        go_wp2_with (go_at_call 119; refine HC.out.mono ?_; rintro e w2 ⟨rfl, b2⟩)
        all_goals go_ret2
        all_goals exact RRowsP.none HD.out rfl (HG.out.2.2.1.trans (b2.mono szr))
      | some x =>
        obtain ⟨r, m⟩ := x
        rw [hd] at hsc
        have S := decR_sound hbt hd
        have hm : a + m ≤ 256 := by
          have := S.2.2.2
          rw [List.length_drop, HH.out.2.2.1] at this
          omega
        have HC := rget_some (c := c - a) hr2 hbt (by omega) (by omega) (by omega) hd
        rw [← had2] at HC
        have HC := Lib.hid HC
        have HR := Lib.hid S.1
        replace hsc : refA p k 1 [] = refA p (k - (i + 1)) (a + m) (rows ++ [r]) := hsc
        have HD := Lib.hid hsc
        clear hr2 hbt ho hrs bel hd hsc hrl had2 S
        go_wp2_with (first
          | (go_at_call 119; refine HC.out.mono ?_; rintro e w2 ⟨B, c', rfl, hrow, b2⟩; have HRow := Lib.hid (own_lower hrow szr); have h3 := own_below HG.out.1 b2; have s3 : w.heap.size ≤ w2.heap.size := Nat.le_trans szr b2.size; have B3 := Lib.hid (HG.out.2.2.1.trans (b2.mono szr)); have RS3 := Lib.hid (HG.out.2.1.below b2); clear hrow b2)
          | (at_builtin; refine wp_append1 w.heap.size rfl (.tmp 35) (.tmp 37) 23 25 (.slice none 0 0) 1 24 rfl Tryz.underlying23 info_L rfl (by omega) (by omega) (.slice A i C) i _ [.slice B r.length c'] rfl rfl (by simp) rfl (by simp [Value.oneCell']) h3 s3 (by omega) ?_; intro v1 w4 h4 t4 _))
        all_goals
          obtain ⟨A4, c4, rfl⟩ := own_slice h4
          have B4 := below_turn B3.out t4 s3 (fun i hi => own_ge h3 hi)
          have RS4 := (RS3.out.snoc HRow.out HR.out).turn t4 (fun v n r hv k hk => own_ne_own hv h3 (by decide) hk)
          go_roundw
        all_goals first
          | exact ⟨i + 1, a + m, A4, c4, _, _, by omega, hm, by go_num, by go_num, rfl, by have := HG.out.2.2.2; simp [this], HD.out, h4, RS4, B4⟩
          | (simp [intOf]; done)
          | (simp [intOf]; omega)
    · obtain rfl : i = k := by omega
      rw [Nat.sub_self] at hsc
      replace hsc : refA p i 1 [] = some rows := hsc
      have S := ref_some HH.out.2.1 HH.out.2.2.1 (by rw [HH.out.2.2.2]; exact hsc)
      have HM := make_walk (c := C) (RdL.of_own ho hrs) S.1 hk5
      unfold MakePost at HM
      have HG := Lib.hid (And.intro ho (And.intro hrs (And.intro bel hrl)))
      by_cases hu : 256 < usedN rows
      · simp only [hu, if_true] at HM
        have HM := Lib.hid HM
        have HD := Lib.hid (S.2.1 hu)
        clear S ho hrs bel hsc hrl hu
        go_wp2_with (go_at_call 115; refine HM.out.mono ?_; rintro e w2 ⟨rfl, b2⟩)
        go_ret2
        exact RRowsP.none HD.out rfl (HG.out.2.2.1.trans (b2.mono szr))
      · simp only [hu, if_false] at HM
        have HM := Lib.hid HM
        obtain ⟨s2, hs2⟩ : ∃ s2, s2 = strOf p := ⟨_, rfl⟩
        have HCp := Lib.hid (fun W (b : Below w.heap.size w W) => by have := conv_rd (c := c) (HH.out.1.below b); rw [← hs2] at this; exact this)
        by_cases he : mkP rows = p
        · have HD := Lib.hid (S.2.2.2 (by omega) he)
          rw [he] at HM
          clear S ho hrs bel hsc hrl hu he
          have HS := Lib.hid hs2
          clear hs2
          go_wp2_with (go_at_call 115; refine HM.out.mono ?_; rintro e w2 ⟨⟨Aq, cq, rfl, hq⟩, b2⟩; have B2 := HG.out.2.2.1.trans (b2.mono szr); have hcp := HCp.out _ B2; have hcq := conv_rd (c := cq) (Rd1.of_own hq).2; rw [← HS.out] at hcq; have HB2 := Lib.hid (And.intro b2 B2); clear hq b2 B2)
          go_ret2
          rw [HD.out]
          have h5 := own_below HG.out.1 HB2.out.1
          obtain rfl := HG.out.2.2.2
          exact ⟨⟨_, _, _, rfl, h5, HG.out.2.1.below HB2.out.1⟩, HB2.out.2⟩
        · have HD := Lib.hid (S.2.2.1 (by omega) he)
          have hne := str_ne (isB_mkP rows S.1 (by omega)) HH.out.2.1 he
          obtain ⟨s1, hs1⟩ : ∃ s1, s1 = strOf (mkP rows) := ⟨_, rfl⟩
          rw [← hs1, ← hs2] at hne
          have HS1 := Lib.hid hs1
          clear S ho hrs bel hsc hrl hu he hs1 hs2
          go_wp2_with (go_at_call 115; refine HM.out.mono ?_; rintro e w2 ⟨⟨Aq, cq, rfl, hq⟩, b2⟩; have B2 := HG.out.2.2.1.trans (b2.mono szr); have hcp := HCp.out _ B2; have hcq := conv_rd (c := cq) (Rd1.of_own hq).2; rw [← HS1.out] at hcq; have HB2 := Lib.hid (And.intro b2 B2); clear hq b2 B2)
          go_ret2
          exact RRowsP.none HD.out rfl HB2.out.2
theorem rrows_walk {w : World} {A : Option Addr} {n c : Nat} {p : List Int} (h : RdB w A n c p) : Calls Tryz.prog 91 #[.slice A n c] w (RRowsP w (scanS p)) := by
  have hl : p.length = n := by simpa using h.rd.1
  by_cases hn : n = 256
  · subst hn
    obtain ⟨ad, rfl, _⟩ := h.rd.at2 (k := 0) (by omega)
    match p, h, hl with
    | k :: t, h, _ =>
      have hk := h.isb k (by simp)
      obtain ⟨k, rfl⟩ : ∃ j : Nat, k = j := ⟨k.toNat, by omega⟩
      exact rrows_ok h.rd h.isb (by omega) h.cap h.c64
  · exact rrows_len hl hn
end Go.Proofs.YtkbapoeilcapfaaGreat

/- How Fill lays rows into pages (printed by mkYF.py from h/PFillA). -/
namespace Go.Proofs.YtkbapoeilcapfaaGreat
open Go.RowKit
set_option linter.unusedVariables false
set_option linter.unusedSimpArgs false
abbrev Rows := List (List V)
def stepF (s : List Rows × Rows) (r : List V) : List Rows × Rows := if 256 < usedN (s.2 ++ [r]) then (s.1 ++ [s.2], [r]) else (s.1, s.2 ++ [r])
def fillF (rows : Rows) : List Rows × Rows := rows.foldl stepF ([], [])
def fillG (rows : Rows) : List Rows := if rows = [] then [] else (fillF rows).1 ++ [(fillF rows).2]
theorem fillF_snoc {rows : Rows} {k : Nat} {r : List V} (h : rows[k]? = some r) : fillF (rows.take (k + 1)) = stepF (fillF (rows.take k)) r := by
  obtain ⟨hl, e⟩ := List.getElem?_eq_some_iff.1 h
  unfold fillF
  rw [List.take_succ_eq_append_getElem hl, e, List.foldl_append]
  rfl
theorem mayE_zero {r : List V} (h : mayE r = 0) : rowOk r = true ∧ (encR r).length ≤ 253 := by
  unfold mayE at h
  split at h
  · cases h
  · next h1 =>
    split at h
    · cases h
    · next h2 => exact ⟨by simpa using h1, by omega⟩
theorem usedN_one {r : List V} : usedN [r] = (encR r).length + 3 := by
  unfold usedN
  simp [flat]
  omega
theorem add_head (g j : Nat) : (⟨g, 0, none⟩ : Addr).add j = ⟨g, j, none⟩ := by unfold Addr.add; split <;> simp_all
end Go.Proofs.YtkbapoeilcapfaaGreat

/- the document's Fill (printed by mkYF.py from h/PAdds, h/PAdds2, h/RFill). -/
namespace Go.Proofs.YtkbapoeilcapfaaGreat
open Go.RowKit
set_option linter.unusedVariables false
set_option linter.unusedSimpArgs false
section
variable {P : Program} {ops : Array Oper} {o : Oper} {a : Act} {K : Act → World → Prop} {Q : Exit → Act → World → Prop}
theorem op_appendA {W : World} (base : Nat) (s x : Operand) (t e : TypeId) (z : Value) (bytes : Nat)
    (ho : o.op = .call { callee := .builtin .append, args := #[s, x], argTypes := #[t, t] })
    (ht : P.underlying t = some (.slice e)) (hinfo : (P.info? e).map (fun i => (i.zero, i.size, i.bytes)) = some (some z, 1, bytes)) (hz : z.cells.size = 1) (hb0 : 0 < bytes)
    (v : Value) (n : Nat) (xs : List Value) (hs : a.eval s = v) (A : Option Addr) (m c : Nat) (ys : List Value) (hx : a.eval x = .slice A m c) (hys : ys.length = m)
    (hr : 0 < m → ∃ ad, A = some ad ∧ ∀ j u, ys[j]? = some u → W.cell? (ad.add j) = some u) (h1 : ∀ u ∈ ys, u.oneCell' = true)
    (HO : W.ownsRow base e 1 v n xs) (hbase : base ≤ W.heap.size) (hl : (n + m) * bytes ≤ 140737488355328)
    (h : ∀ v1 w1, w1.ownsRow base e 1 v1 (n + m) (xs ++ ys) → Turn (fun k => v.ownBlock = some k) W w1 → K (a.put o.dst v1) w1) : o.wp P a W K Q := by
  obtain ⟨i0, hi, hz0, hz1, hz2⟩ := info_parts hinfo
  have hlen : n + m ≤ 140737488355328 := Nat.le_trans (Nat.le_mul_of_pos_right _ hb0) hl
  rcases Nat.eq_zero_or_pos m with h0 | h0
  · subst h0
    obtain rfl : ys = [] := List.eq_nil_of_length_eq_zero hys
    rcases A with _ | ad
    · have hrun := run_append_nilsrc (P := P) W base t o.type e i0 1 ht hi v n xs HO c
      unfold Oper.wp execOp
      simp only [ho, resolve, invoke, builtin, Sem.run_bind, Sem.run_pure, Result.andThen_ok, List.map_toArray, List.map_cons, List.map_nil, hs, hx, hrun]
      exact h _ _ (by simpa using HO) (Turn.refl _ _)
    · obtain ⟨v1, w1, hrun, hown, hg, _, _⟩ := run_append_own_at (P := P) W base t o.type e i0 z 1 bytes ht hi hz0 hz1 hz2 hz (by omega) v n xs HO ad 0 c [] (by simp) (by simp) (by simp) (by simp only [maxLen]; omega) hl hbase
      unfold Oper.wp execOp
      simp only [ho, resolve, invoke, builtin, Sem.run_bind, Sem.run_pure, Result.andThen_ok, List.map_toArray, List.map_cons, List.map_nil, hs, hx, hrun]
      exact h v1 w1 hown ((Turn.refl _ W).grown hg (fun k hk => .inl hk))
  · obtain ⟨ad, rfl, hc⟩ := hr h0
    obtain ⟨v1, w1, hrun, hown, hg, _, _⟩ := run_append_own_at (P := P) W base t o.type e i0 z 1 bytes ht hi hz0 hz1 hz2 hz (by omega) v n xs HO ad m c ys (by rw [hys, Nat.mul_one]) hc h1 (by simp only [maxLen]; omega) hl hbase
    unfold Oper.wp execOp
    simp only [ho, resolve, invoke, builtin, Sem.run_bind, Sem.run_pure, Result.andThen_ok, List.map_toArray, List.map_cons, List.map_nil, hs, hx, hrun]
    exact h v1 w1 hown ((Turn.refl _ W).grown hg (fun k hk => .inl hk))
end
theorem own_fresh {W : World} {S base : Nat} {e : TypeId} (h : W.heap[S]? = some (.cells #[] e (0, 0))) (hb : base ≤ S) : W.ownsRow base e 1 (.slice (some ⟨S, 0, none⟩) 0 0) 0 [] :=
  ⟨rfl, .inr ⟨S, 0, #[], rfl, hb, h, by omega, by simp [maxLen], rfl, rfl⟩⟩
/-- Headers of rows that came in. -/
structure HsOf (w : World) (hs : List Value) (g : Rows) : Prop where
  len : hs.length = g.length
  row : ∀ (i : Nat) r, g[i]? = some r → ∃ B m c, hs[i]? = some (Value.slice B m c) ∧ RdV w B m r
theorem HsOf.nil (w : World) : HsOf w [] [] := ⟨rfl, fun i r h => by simp at h⟩
theorem HsOf.snoc {w : World} {hs : List Value} {g : Rows} (h : HsOf w hs g) {B : Option Addr} {m c : Nat} {r : List V} (hr : RdV w B m r) : HsOf w (hs ++ [.slice B m c]) (g ++ [r]) := by
  refine ⟨by simp [h.len], fun i s hs => ?_⟩
  rcases Nat.lt_or_ge i g.length with hl | hl
  · rw [List.getElem?_append_left hl] at hs
    obtain ⟨B', m', c', e, h2⟩ := h.row i s hs
    exact ⟨B', m', c', by rw [List.getElem?_append_left (by rw [h.len]; exact hl)]; exact e, h2⟩
  · rw [List.getElem?_append_right hl] at hs
    rcases hz : i - g.length with _ | j
    · rw [hz] at hs
      simp at hs
      subst hs
      exact ⟨B, m, c, by rw [List.getElem?_append_right (by rw [h.len]; exact hl), h.len, hz]; rfl, hr⟩
    · rw [hz] at hs
      simp at hs
theorem HsOf.rdl {w W : World} {base n c : Nat} {A : Option Addr} {hs : List Value} {g : Rows} (h : HsOf w hs g) (ho : W.ownsRow base 25 1 (.slice A n c) n hs) (b : Below w.heap.size w W) : RdL W A n hs g := by
  have h1 := (Rd1.of_own ho).2
  exact ⟨h1, by rw [← h.len]; exact h1.1, fun i r hi => by
    obtain ⟨B, m, c, e, h2⟩ := h.row i r hi
    exact ⟨B, m, c, e, h2.below b⟩⟩
theorem HsOf.one {w : World} {hs : List Value} {g : Rows} (h : HsOf w hs g) : ∀ u ∈ hs, u.oneCell' = true := by
  intro u hu
  obtain ⟨i, hi, rfl⟩ := List.getElem_of_mem hu
  obtain ⟨B, m, c, e, _⟩ := h.row i _ (List.getElem?_eq_getElem (show i < g.length by rw [← h.len]; exact hi))
  rw [List.getElem?_eq_getElem hi] at e
  rw [Option.some.inj e]
  rfl
/-- The worlds in which 'append(append([]T{}, x...), y)' may append x first: the empty row and y's box are laid in either order. -/
theorem more_worlds (W : World) (y : Value) (base : Nat) (hb : base ≤ W.heap.size) :
    (W.alloc (.cells #[] 25)).ownsRow base 25 1 (.slice (some ⟨W.heap.size, 0, none⟩) 0 0) 0 [] ∧
    ((W.alloc (.cells #[] 25)).alloc (.cells #[y] 25)).ownsRow base 25 1 (.slice (some ⟨W.heap.size, 0, none⟩) 0 0) 0 [] ∧
    ((W.alloc (.cells #[y] 25)).alloc (.cells #[] 25)).ownsRow base 25 1 (.slice (some ⟨W.heap.size + 1, 0, none⟩) 0 0) 0 [] :=
  ⟨own_fresh (heap_alloc_new _ _) hb, own_fresh (heap_alloc2_old _ _ _) hb, own_fresh (heap_alloc2_new _ _ _) (by omega)⟩
theorem used_rdl {w : World} {A : Option Addr} {n c : Nat} {hds : List Value} {rows : Rows} (hl : RdL w A n hds rows) (hok : ∀ r ∈ rows, rowOk r = true) (hn : n ≤ 10000) {U : Nat} (hU : U = usedN rows) :
    Calls Tryz.prog 58 #[.slice A n c] w fun e w' => e = .returned (.int .i64 U) ∧ Below w.heap.size w w' := by
  subst hU
  exact used_walk hl hok hn
theorem usedN_le (g : Rows) (h : ∀ r ∈ g, rowOk r = true) : usedN g ≤ 1 + 2115 * g.length := by
  have := flat_le g h
  unfold usedN
  omega
theorem one_src {w : World} {g : Nat} {y : Value} (h : w.cell? ⟨g, 0, none⟩ = some y) : ∀ (j : Nat) u, [y][j]? = some u → w.cell? ((⟨g, 0, none⟩ : Addr).add j) = some u := by
  intro j u hu
  rcases j with _ | j
  · rw [add_head, h]
    simpa using hu
  · simp at hu
theorem hid_below_alloc {w : World} (o : Obj) : Below w.heap.size w (w.alloc o) := (Below.refl _ _).alloc (Nat.le_refl _) _
theorem own_set {w : World} {base n : Nat} {e : TypeId} {v : Value} {xs : List Value} (h : w.ownsRow base e 1 v n xs) {i : Nat} (hi : i < n) : ∃ g c, v = .slice (some ⟨g, 0, none⟩) n c ∧ base ≤ g ∧ g < w.heap.size ∧ (∃ x, w.cell? ⟨g, i, none⟩ = some x) ∧ w.frozen? ⟨g, i, none⟩ = false ∧ ∀ u, (w.setCell ⟨g, i, none⟩ u).ownsRow base e 1 v n (xs.set i u) := by
  rcases h.2 with ⟨rfl, h⟩ | ⟨g, cap, cur, rfl, h1, h2, h3, h4, h5, h6⟩
  · omega
  · refine ⟨g, cap, rfl, h1, lt_of_heap h2, ⟨cur[i]'(by omega), ?_⟩, free_of_blk h2 i, fun u => ⟨by rw [List.length_set]; exact h.1, .inr ⟨g, cap, _, rfl, h1, blk_set h2 i u, h3, h4, by simpa using h5, ?_⟩⟩⟩
    · rw [cell_of_blk h2 i, Array.getElem?_eq_getElem]
    · rw [← h6, Array.toList_setIfInBounds, List.take_set]
theorem own_set2 {w : World} {base n gb C : Nat} {e : TypeId} {xs : List Value} (h : w.ownsRow base e 1 (.slice (some ⟨gb, 0, none⟩) n C) n xs) {i : Nat} (hi : i < n) : (∃ x, w.cell? ⟨gb, i, none⟩ = some x) ∧ w.frozen? ⟨gb, i, none⟩ = false ∧ ∀ u, (w.setCell ⟨gb, i, none⟩ u).ownsRow base e 1 (.slice (some ⟨gb, 0, none⟩) n C) n (xs.set i u) := by
  obtain ⟨g, c, e1, _, _, h3, h4, h5⟩ := own_set h hi
  injection e1 with e1 _ e3
  injection e1 with e1
  injection e1 with e1
  subst e1 e3
  exact ⟨h3, h4, h5⟩
theorem own_box {W : World} {S base : Nat} {e : TypeId} {y : Value} (h : W.heap[S]? = some (.cells #[y] e (0, 0))) (hb : base ≤ S) : W.ownsRow base e 1 (.slice (some ⟨S, 0, none⟩) 1 1) 1 [y] :=
  ⟨rfl, .inr ⟨S, 1, #[y], rfl, hb, h, by omega, by simp [maxLen], rfl, rfl⟩⟩
/-- Groups of rows, each owned. -/
structure GsAt (w wr : World) (hs2 : List Value) (gs : List Rows) : Prop where
  len : hs2.length = gs.length
  gr : ∀ (i : Nat) h g, hs2[i]? = some h → gs[i]? = some g → ∃ A m c hsg, h = .slice A m c ∧ wr.ownsRow w.heap.size 25 1 (.slice A m c) m hsg ∧ HsOf w hsg g
theorem GsAt.nil (w wr : World) : GsAt w wr [] [] := ⟨rfl, fun i h g hh => by simp at hh⟩
theorem GsAt.turn {S : Nat → Prop} {w wr w' : World} {hs2 : List Value} {gs : List Rows} (H : GsAt w wr hs2 gs) (ht : Turn S wr w') (hs : ∀ v n xs, wr.ownsRow w.heap.size 25 1 v n xs → ∀ k, v.ownBlock = some k → ¬ S k) : GsAt w w' hs2 gs :=
  ⟨H.len, fun i h g h1 h2 => by
    obtain ⟨A, m, c, hsg, e, ho, hh⟩ := H.gr i h g h1 h2
    exact ⟨A, m, c, hsg, e, own_turn ho ht (hs _ _ _ ho), hh⟩⟩
theorem GsAt.below {w wr w' : World} {hs2 : List Value} {gs : List Rows} (H : GsAt w wr hs2 gs) (hb : Below wr.heap.size wr w') : GsAt w w' hs2 gs := H.turn (Turn.of_below hb (fun _ => False)) (fun _ _ _ _ _ _ => id)
theorem GsAt.snoc {w wr : World} {hs2 : List Value} {gs : List Rows} {A : Option Addr} {m c : Nat} {hsg : List Value} {g : Rows} (H : GsAt w wr hs2 gs) (ho : wr.ownsRow w.heap.size 25 1 (.slice A m c) m hsg) (hh : HsOf w hsg g) : GsAt w wr (hs2 ++ [.slice A m c]) (gs ++ [g]) := by
  refine ⟨by simp [H.len], fun i y s hy hs => ?_⟩
  rcases Nat.lt_or_ge i hs2.length with hl | hl
  · rw [List.getElem?_append_left hl] at hy
    rw [List.getElem?_append_left (by rw [← H.len]; exact hl)] at hs
    exact H.gr i y s hy hs
  · rw [List.getElem?_append_right hl] at hy
    rw [List.getElem?_append_right (by rw [← H.len]; exact hl), ← H.len] at hs
    rcases hz : i - hs2.length with _ | j
    · rw [hz] at hy hs
      simp at hy hs
      subst hy hs
      exact ⟨A, m, c, hsg, rfl, ho, hh⟩
    · rw [hz] at hy
      simp at hy
theorem GsAt.set {w wr : World} {hs2 : List Value} {gs : List Rows} {A : Option Addr} {m c i : Nat} {hsg : List Value} {g : Rows} (H : GsAt w wr hs2 gs) (ho : wr.ownsRow w.heap.size 25 1 (.slice A m c) m hsg) (hh : HsOf w hsg g) : GsAt w wr (hs2.set i (.slice A m c)) (gs.set i g) := by
  refine ⟨by simp [H.len], fun j y s hy hs => ?_⟩
  by_cases e : i = j
  · subst e
    rw [List.getElem?_set_self' ] at hy hs
    cases h1 : hs2[i]? with
    | none => rw [h1] at hy; simp at hy
    | some x =>
      rw [h1] at hy
      cases h2 : gs[i]? with
      | none => rw [h2] at hs; simp at hs
      | some z =>
        rw [h2] at hs
        simp at hy hs
        subst hy hs
        exact ⟨A, m, c, hsg, rfl, ho, hh⟩
  · rw [List.getElem?_set_ne e] at hy hs
    exact H.gr j y s hy hs
theorem fillG_len (rows : Rows) (h : rows ≠ []) : fillG rows = (fillF rows).1 ++ [(fillF rows).2] := by unfold fillG; rw [if_neg h]
theorem fillF_inv : ∀ (rows : Rows), (fillF rows).1.flatten ++ (fillF rows).2 = rows := by
  intro rows
  have key : ∀ (l : Rows) (s : List Rows × Rows), (l.foldl stepF s).1.flatten ++ (l.foldl stepF s).2 = s.1.flatten ++ s.2 ++ l := by
    intro l
    induction l with
    | nil => intro s; simp
    | cons r t ih =>
      intro s
      rw [List.foldl_cons, ih]
      unfold stepF
      split <;> simp
  unfold fillF
  rw [key]
  simp
theorem fillG_flat (rows : Rows) : (fillG rows).flatten = rows := by
  unfold fillG
  split
  · next h => rw [h]; rfl
  · rw [List.flatten_append]
    simpa using fillF_inv rows
theorem fillF_fit (rows : Rows) (hm : ∀ r ∈ rows, mayE r = 0) : (∀ g ∈ (fillF rows).1, usedN g ≤ 256) ∧ usedN (fillF rows).2 ≤ 256 := by
  have key : ∀ (l : Rows) (s : List Rows × Rows), (∀ r ∈ l, mayE r = 0) → (∀ g ∈ s.1, usedN g ≤ 256) ∧ usedN s.2 ≤ 256 → (∀ g ∈ (l.foldl stepF s).1, usedN g ≤ 256) ∧ usedN (l.foldl stepF s).2 ≤ 256 := by
    intro l
    induction l with
    | nil => intro s _ h; exact h
    | cons r t ih =>
      intro s hr h
      rw [List.foldl_cons]
      refine ih _ (fun x hx => hr x (by simp [hx])) ?_
      unfold stepF
      split
      · refine ⟨fun g hg => ?_, ?_⟩
        · rcases List.mem_append.1 hg with e | e
          · exact h.1 g e
          · obtain rfl : g = s.2 := by simpa using e
            exact h.2
        · have := (mayE_zero (hr r (by simp))).2
          rw [usedN_one]
          omega
      · next hn => exact ⟨h.1, Nat.not_lt.1 hn⟩
  exact key rows ([], []) hm ⟨by simp, by decide⟩
theorem info_LL2 : (Tryz.prog.info? 23).map (fun i => (i.zero, i.size, i.bytes)) = some (some (.slice none 0 0), 1, 24) := by kernel_rfl
def RFillP (w : World) (rows : Rows) (e : Ending) (w' : World) : Prop :=
  ∃ A c hs2, e = .returned (.slice A (fillG rows).length c) ∧ w'.ownsRow w.heap.size 23 1 (.slice A (fillG rows).length c) (fillG rows).length hs2 ∧ GsAt w w' hs2 (fillG rows) ∧ Below w.heap.size w w'
theorem fillG_step {rows : Rows} {k : Nat} {r : List V} (h : rows[k]? = some r) (hk : 0 < k) : fillG (rows.take (k + 1)) = if 256 < usedN ((fillF (rows.take k)).2 ++ [r]) then fillG (rows.take k) ++ [[r]] else (fillG (rows.take k)).set ((fillG (rows.take k)).length - 1) ((fillF (rows.take k)).2 ++ [r]) := by
  obtain ⟨hl, _⟩ := List.getElem?_eq_some_iff.1 h
  have h1 : rows.take (k + 1) ≠ [] := by intro e; have := congrArg List.length e; rw [List.length_take] at this; simp only [List.length_nil] at this; omega
  have h2 : rows.take k ≠ [] := by intro e; have := congrArg List.length e; rw [List.length_take] at this; simp only [List.length_nil] at this; omega
  rw [fillG_len _ h1, fillG_len _ h2, fillF_snoc h]
  unfold stepF
  split
  · simp
  · rw [List.length_append, List.length_singleton, Nat.add_sub_cancel, List.set_append]
    simp
theorem fillG_first {rows : Rows} {r : List V} (h : rows[0]? = some r) (hm : mayE r = 0) : fillG (rows.take 1) = [[r]] := by
  obtain ⟨t, rfl⟩ : ∃ t, rows = r :: t := by
    cases rows with
    | nil => simp at h
    | cons x t => simp at h; exact ⟨t, by rw [h]⟩
  have hu : ¬ 256 < usedN [r] := by rw [usedN_one]; have := (mayE_zero hm).2; omega
  show fillG [r] = _
  unfold fillG fillF
  simp [stepF, hu]
theorem rf_set {w wr w9 : World} {gb C M1 k rm mg : Nat} {rc c8 : Nat} {D A8 : Option Addr} {hs2 hsg : List Value} {rows g : Rows} {r : List V}
    (ho : wr.ownsRow w.heap.size 23 1 (.slice (some ⟨gb, 0, none⟩) (M1 + 1) C) (M1 + 1) hs2) (hgs : GsAt w wr hs2 (fillG (rows.take k))) (bel : Below w.heap.size w wr) (hM : (fillG (rows.take k)).length = M1 + 1)
    (hrk : rows[k]? = some r) (hrv : RdV w D rm r) (hk0 : 0 < k) (hg : g = (fillF (rows.take k)).2) (hhg : HsOf w hsg g) (hgb : w.heap.size ≤ gb) (hnot : ¬ 256 < usedN (g ++ [r])) (B9 : Below wr.heap.size wr w9)
    (HN9 : w9.ownsRow w.heap.size 25 1 (.slice A8 (mg + 1) c8) (mg + 1) (hsg ++ [.slice D rm rc])) :
    (fillG (rows.take (k + 1))).length = M1 + 1 ∧ (w9.setCell ⟨gb, M1, none⟩ (.slice A8 (mg + 1) c8)).ownsRow w.heap.size 23 1 (.slice (some ⟨gb, 0, none⟩) (M1 + 1) C) (M1 + 1) (hs2.set M1 (.slice A8 (mg + 1) c8)) ∧
    GsAt w (w9.setCell ⟨gb, M1, none⟩ (.slice A8 (mg + 1) c8)) (hs2.set M1 (.slice A8 (mg + 1) c8)) (fillG (rows.take (k + 1))) ∧ Below w.heap.size w (w9.setCell ⟨gb, M1, none⟩ (.slice A8 (mg + 1) c8)) := by
  have szr := bel.size
  have HO9 := own_below ho B9
  have h1 := fillG_step hrk hk0
  rw [← hg, if_neg hnot, hM, Nat.add_sub_cancel] at h1
  have ht : Turn (fun j => j = gb) w9 (w9.setCell ⟨gb, M1, none⟩ (.slice A8 (mg + 1) c8)) := (Turn.refl (fun j => j = gb) w9).setCell (p := ⟨gb, M1, none⟩) (.inl rfl) _
  have hne : ∀ v n xs, w9.ownsRow w.heap.size 25 1 v n xs → ∀ j, v.ownBlock = some j → ¬ j = gb := fun v n xs hv j hj e => own_ne_own hv HO9 (by decide) hj (by rw [e]; rfl)
  refine ⟨by rw [h1, List.length_set]; exact hM, (own_set2 HO9 (by omega)).2.2 _, ?_, below_turn (bel.trans (B9.mono szr)) ht (Nat.le_trans szr B9.size) (fun j hj => by rw [hj]; exact hgb)⟩
  rw [h1]
  exact ((hgs.below B9).turn ht hne).set (own_turn HN9 ht (hne _ _ _ HN9)) (hhg.snoc hrv)
theorem rf_app {w wr w9 w10 : World} {gb C M1 k rm : Nat} {rc c10 : Nat} {D A10 : Option Addr} {hs2 : List Value} {rows g : Rows} {r : List V}
    (ho : wr.ownsRow w.heap.size 23 1 (.slice (some ⟨gb, 0, none⟩) (M1 + 1) C) (M1 + 1) hs2) (hgs : GsAt w wr hs2 (fillG (rows.take k))) (bel : Below w.heap.size w wr) (hM : (fillG (rows.take k)).length = M1 + 1)
    (hrk : rows[k]? = some r) (hrv : RdV w D rm r) (hk0 : 0 < k) (hg : g = (fillF (rows.take k)).2) (hgb : w.heap.size ≤ gb) (hgl : gb < wr.heap.size) (hyes : 256 < usedN (g ++ [r])) (B9 : Below wr.heap.size wr w9)
    (h10 : w10.ownsRow w.heap.size 23 1 (.slice A10 (M1 + 1 + 1) c10) (M1 + 1 + 1) (hs2 ++ [.slice (some ⟨w9.heap.size, 0, none⟩) 1 1])) (t10 : Turn (fun j => (Value.slice (some ⟨gb, 0, none⟩) (M1 + 1) C).ownBlock = some j) (w9.alloc (.cells #[.slice D rm rc] 25)) w10) :
    (fillG (rows.take (k + 1))).length = M1 + 1 + 1 ∧ GsAt w w10 (hs2 ++ [.slice (some ⟨w9.heap.size, 0, none⟩) 1 1]) (fillG (rows.take (k + 1))) ∧ Below w.heap.size w w10 := by
  have szr := bel.size
  have HO9 := own_below ho B9
  have h1 := fillG_step hrk hk0
  rw [← hg, if_pos hyes] at h1
  have s9 := B9.size
  have hne : ∀ v n xs, (w9.alloc (.cells #[.slice D rm rc] 25)).ownsRow w.heap.size 25 1 v n xs → ∀ j, v.ownBlock = some j → ¬ (Value.slice (some ⟨gb, 0, none⟩) (M1 + 1) C).ownBlock = some j := fun v n xs hv j hj => own_ne_own hv (HO9.alloc _) (by decide) hj
  refine ⟨by rw [h1, List.length_append, hM]; rfl, ?_, below_turn ((bel.trans (B9.mono szr)).alloc (by omega) _) t10 (by simp; omega) (fun j hj => own_ge ho hj)⟩
  rw [h1]
  have HB := own_box (base := w.heap.size) (heap_alloc_new w9 (.cells #[.slice D rm rc] 25)) (by omega)
  exact ((((hgs.below B9).below (hid_below_alloc _)).turn t10 hne)).snoc (own_turn HB t10 (hne _ _ _ HB)) ((HsOf.nil w).snoc hrv)
set_option maxRecDepth 6000 in
set_option maxHeartbeats 16000000 in
theorem rfill_walk {w : World} {A : Option Addr} {n c : Nat} {hds : List Value} {rows : Rows} (hl : RdL w A n hds rows) (hm : ∀ r ∈ rows, mayE r = 0) (hn : n ≤ 600) : Calls Tryz.prog 21 #[.slice A n c] w (RFillP w rows) := by
  have hlen := hl.len
  have HL := Lib.hid hl
  have HN := Lib.hid hlen
  have HM := Lib.hid hm
  clear hl hlen hm
  go_enter Tryz.func21, Tryz.ntmps21
  go_wp2
  go_loopw [3, 4] (fun o x wr => ∃ (k M : Nat) (B : Option Addr) (C : Nat) (hs2 : List Value), k ≤ n ∧ M ≤ k ∧ (0 < k → 0 < M) ∧ x = .int .i64 k ∧ o = .slice B M C ∧ (fillG (rows.take k)).length = M ∧ wr.ownsRow w.heap.size 23 1 (.slice B M C) M hs2 ∧ GsAt w wr hs2 (fillG (rows.take k)) ∧ Below w.heap.size w wr) (fun _ x _ => n - (intOf x).toNat)
  case atStart => exact ⟨0, 0, none, 0, [], by omega, by omega, by omega, rfl, rfl, rfl, World.ownsRow_nil _ _ _ _, GsAt.nil _ _, Below.refl _ _⟩
  case round =>
    obtain ⟨k, M, B, C, hs2, hk, hMk, hM0, rfl, rfl, hM, ho, hgs, bel⟩ := hrel
    have szr := bel.size
    by_cases hlt : k < n
    · obtain ⟨adl, D, rm, rc, r, rfl, had, hrk, hhk, hcell, hrv⟩ := HL.out.at_ hlt
      have HCell := Lib.hid (fun W (b : Below w.heap.size w W) => cell_belowv hcell b (by rw [add_block]; exact had))
      have c6 := HCell.out _ bel
      have had6 : adl.block < wr.heap.size := by omega
      have hmr := HM.out r (List.mem_of_getElem? hrk)
      have HH := Lib.hid (And.intro ho (And.intro hgs (And.intro bel (And.intro hM (And.intro hrk (And.intro hrv hmr))))))
      have HONER := Lib.hid (HsOf.snoc (c := rc) (HsOf.nil w) hrv)
      clear ho hgs hcell hhk hrk hrv hmr
      by_cases h0 : k = 0
      · subst h0
        obtain rfl : M = 0 := by omega
        have hneg : ¬ (0 : Int) ≤ -1 := by omega
        have c60 : wr.cell? adl = some (.slice D rm rc) := by simpa [Addr.add] using c6
        go_wp2_with (at_builtin; refine wp_append1 (W := wr.alloc (.cells #[.slice D rm rc] 25)) w.heap.size rfl (.tmp 37) (.tmp 43) 47 23 (.slice none 0 0) 1 24 rfl Tryz.underlying47 info_LL2 rfl (by omega) (by omega) (.slice B 0 C) 0 _ [.slice (some ⟨wr.heap.size, 0, none⟩) 1 1] rfl rfl (by simp) rfl (by simp [Value.oneCell']) (HH.out.1.alloc _) (by simp; omega) (by omega) ?_; intro v8 w8 h8 t8 _; obtain ⟨A8, c8, rfl⟩ := own_slice h8; have HH8 := Lib.hid (And.intro h8 t8); clear h8 t8)
        go_roundw
        case measure => simp [intOf]; omega
        obtain ⟨ho, hgs, bel, hM, hrk, hrv, hmr⟩ := HH.out
        obtain ⟨h8, t8⟩ := HH8.out
        have hz : hs2 = [] := List.eq_nil_of_length_eq_zero (by rw [hgs.len]; exact hM)
        subst hz
        have hne : ∀ j, (Value.slice B 0 C).ownBlock = some j → j < wr.heap.size := fun j hj => (ho.lt j hj).2
        refine ⟨1, 1, A8, c8, _, by omega, by omega, by omega, by simp, rfl, by rw [fillG_first hrk hmr]; rfl, h8, ?_, ?_⟩
        · rw [fillG_first hrk hmr]
          exact (GsAt.nil w w8).snoc (own_turn (own_box (heap_alloc_new wr _) (by omega)) t8 (fun j hj hj2 => by have := hne j hj2; simp [Value.ownBlock] at hj; omega)) HONER.out
        · exact below_turn (bel.alloc (by omega) _) t8 (by simp; omega) (fun j hj => own_ge ho hj)
      · obtain ⟨M1, hM1⟩ : ∃ M1, M = M1 + 1 := ⟨M - 1, by omega⟩
        subst hM1
        obtain ⟨ho, hgs, bel, hM, hrk, hrv, hmr⟩ := HH.out
        obtain ⟨gb, gc, hv, hgb1, hgb2, _, _, _⟩ := own_set ho (i := M1) (by omega)
        injection hv with hv1 _ hv3
        subst hv1 hv3
        have hk0 : 0 < k := by omega
        have hne2 : rows.take k ≠ [] := by intro e; have := congrArg List.length e; rw [List.length_take] at this; simp only [List.length_nil] at this; have := HN.out; omega
        have hlast : (fillG (rows.take k))[M1]? = some (fillF (rows.take k)).2 := by
          have h1 := fillG_len _ hne2
          rw [h1] at hM ⊢
          rw [List.length_append, List.length_singleton] at hM
          rw [List.getElem?_append_right (by omega), show M1 - (fillF (rows.take k)).1.length = 0 from by omega]
          rfl
        obtain ⟨hh, hhe⟩ : ∃ hh, hs2[M1]? = some hh := ⟨hs2[M1]'(by rw [hgs.len]; omega), List.getElem?_eq_getElem _⟩
        obtain ⟨Ag, mg, cg, hsg, rfl, hog, hhg⟩ := hgs.gr M1 hh _ hhe hlast
        have cq6 : wr.cell? ⟨gb, M1, none⟩ = some (.slice Ag mg cg) := by
          obtain ⟨ad', e, _, hc⟩ := (Rd1.of_own ho).2.2.2 (by omega)
          injection e with e
          subst e
          have h9 := hc M1 _ hhe
          rcases M1 with _ | j
          · simpa [Addr.add] using h9
          · simpa [Addr.add] using h9
        obtain ⟨g, hg⟩ : ∃ g, g = (fillF (rows.take k)).2 := ⟨_, rfl⟩
        rw [← hg] at hhg hlast
        have hfit := fillF_fit (rows.take k) (fun x hx => HM.out x (List.mem_of_mem_take hx))
        have hu1 : usedN g ≤ 256 := by rw [hg]; exact hfit.2
        have hlg : g.length = mg := by rw [← hhg.len]; simpa using hog.1
        have hok2 : ∀ s ∈ g ++ [r], rowOk s = true := by
          intro x hx
          rcases List.mem_append.1 hx with hx | hx
          · have : x ∈ (fillF (rows.take k)).1.flatten ++ (fillF (rows.take k)).2 := List.mem_append_right _ (by rw [← hg]; exact hx)
            rw [fillF_inv] at this
            exact (mayE_zero (HM.out x (List.mem_of_mem_take this))).1
          · rw [List.mem_singleton.1 hx]
            exact (mayE_zero hmr).1
        have hm127 : mg ≤ 127 := by unfold usedN at hu1; rw [hlg] at hu1; omega
        have HHo2 := Lib.hid (hhg.snoc (c := rc) hrv)
        obtain ⟨U2, hU2⟩ : ∃ U2, U2 = usedN (g ++ [r]) := ⟨_, rfl⟩
        have HUs2 := Lib.hid (fun W A8 c8 (b : Below w.heap.size w W) (ho : W.ownsRow w.heap.size 25 1 (.slice A8 (mg + 1) c8) (mg + 1) (hsg ++ [.slice D rm rc])) => used_rdl (c := c8) (HHo2.out.rdl ho b) hok2 (by simp [hlg]; omega) hU2)
        have hU2b := usedN_le (g ++ [r]) hok2
        rw [← hU2] at hU2b
        have hml : (g ++ [r]).length = mg + 1 := by simp [hlg]
        rw [hml] at hU2b
        have HF6 := Lib.hid (more_worlds wr.drew (.slice D rm rc) wr.heap.size (Nat.le_refl _))
        have HL6 := Lib.hid (show hsg.length = mg by simpa using hog.1)
        have HS6 := Lib.hid (fun W (b : Below wr.heap.size wr W) (h : 0 < mg) => by obtain ⟨ad', e, _, hc⟩ := (((Rd1.of_own hog).2).below b).2.2 h; exact (⟨ad', e, hc⟩ : ∃ ad, Ag = some ad ∧ ∀ j u, hsg[j]? = some u → W.cell? (ad.add j) = some u))
        have HONE := Lib.hid hhg.one
        have HW1 := Lib.hid (show Below wr.heap.size wr (wr.drew.alloc (.cells #[] 25)) from (below_drew (Below.refl _ _)).alloc (Nat.le_refl _) _)
        have HW2 := Lib.hid (show Below wr.heap.size wr ((wr.drew.alloc (.cells #[] 25)).alloc (.cells #[.slice D rm rc] 25)) from HW1.out.alloc (by simp) _)
        have HW3 := Lib.hid (show Below wr.heap.size wr ((wr.drew.alloc (.cells #[.slice D rm rc] 25)).alloc (.cells #[] 25)) from ((below_drew (Below.refl _ _)).alloc (Nat.le_refl _) _).alloc (by simp) _)
        have HX6 := Lib.hid (show ((wr.drew.alloc (.cells #[] 25)).alloc (.cells #[.slice D rm rc] 25)).cell? ⟨wr.heap.size + 1, 0, none⟩ = some (.slice D rm rc) ∧ ((wr.drew.alloc (.cells #[.slice D rm rc] 25)).alloc (.cells #[] 25)).cell? ⟨wr.heap.size, 0, none⟩ = some (.slice D rm rc) from ⟨cell_of_blk (heap_alloc2_new _ _ _) 0, cell_of_blk (heap_alloc2_old _ _ _) 0⟩)
        have el0 : (wr.alloc (.cells #[] 25)).cell? (adl.add k) = some (.slice D rm rc) := ((World.cell?_alloc_lt _ _ _ (World.block_lt_of_cell? _ _ (show wr.cell? (adl.add k) = some (.slice D rm rc) from c6))).trans (show wr.cell? (adl.add k) = some (.slice D rm rc) from c6))
        have eq0 : (wr.alloc (.cells #[] 25)).cell? ⟨gb, M1, none⟩ = some (.slice Ag mg cg) := ((World.cell?_alloc_lt _ _ _ (World.block_lt_of_cell? _ _ (show wr.cell? ⟨gb, M1, none⟩ = some (.slice Ag mg cg) from cq6))).trans (show wr.cell? ⟨gb, M1, none⟩ = some (.slice Ag mg cg) from cq6))
        have el1 : (wr.drew.alloc (.cells #[] 25)).cell? (adl.add k) = some (.slice D rm rc) := ((World.cell?_alloc_lt _ _ _ (World.block_lt_of_cell? _ _ (show wr.drew.cell? (adl.add k) = some (.slice D rm rc) from c6))).trans (show wr.drew.cell? (adl.add k) = some (.slice D rm rc) from c6))
        have eq1 : (wr.drew.alloc (.cells #[] 25)).cell? ⟨gb, M1, none⟩ = some (.slice Ag mg cg) := ((World.cell?_alloc_lt _ _ _ (World.block_lt_of_cell? _ _ (show wr.drew.cell? ⟨gb, M1, none⟩ = some (.slice Ag mg cg) from cq6))).trans (show wr.drew.cell? ⟨gb, M1, none⟩ = some (.slice Ag mg cg) from cq6))
        have el2 : (wr.alloc (.cells #[.slice D rm rc] 25)).cell? (adl.add k) = some (.slice D rm rc) := ((World.cell?_alloc_lt _ _ _ (World.block_lt_of_cell? _ _ (show wr.cell? (adl.add k) = some (.slice D rm rc) from c6))).trans (show wr.cell? (adl.add k) = some (.slice D rm rc) from c6))
        have eq2 : (wr.alloc (.cells #[.slice D rm rc] 25)).cell? ⟨gb, M1, none⟩ = some (.slice Ag mg cg) := ((World.cell?_alloc_lt _ _ _ (World.block_lt_of_cell? _ _ (show wr.cell? ⟨gb, M1, none⟩ = some (.slice Ag mg cg) from cq6))).trans (show wr.cell? ⟨gb, M1, none⟩ = some (.slice Ag mg cg) from cq6))
        have el3 : (wr.drew.alloc (.cells #[.slice D rm rc] 25)).cell? (adl.add k) = some (.slice D rm rc) := ((World.cell?_alloc_lt _ _ _ (World.block_lt_of_cell? _ _ (show wr.drew.cell? (adl.add k) = some (.slice D rm rc) from c6))).trans (show wr.drew.cell? (adl.add k) = some (.slice D rm rc) from c6))
        have eq3 : (wr.drew.alloc (.cells #[.slice D rm rc] 25)).cell? ⟨gb, M1, none⟩ = some (.slice Ag mg cg) := ((World.cell?_alloc_lt _ _ _ (World.block_lt_of_cell? _ _ (show wr.drew.cell? ⟨gb, M1, none⟩ = some (.slice Ag mg cg) from cq6))).trans (show wr.drew.cell? ⟨gb, M1, none⟩ = some (.slice Ag mg cg) from cq6))
        have el4 : ((wr.alloc (.cells #[] 25)).alloc (.cells #[.slice D rm rc] 25)).cell? (adl.add k) = some (.slice D rm rc) := ((World.cell?_alloc_lt _ _ _ (World.block_lt_of_cell? _ _ ((World.cell?_alloc_lt _ _ _ (World.block_lt_of_cell? _ _ (show wr.cell? (adl.add k) = some (.slice D rm rc) from c6))).trans (show wr.cell? (adl.add k) = some (.slice D rm rc) from c6)))).trans ((World.cell?_alloc_lt _ _ _ (World.block_lt_of_cell? _ _ (show wr.cell? (adl.add k) = some (.slice D rm rc) from c6))).trans (show wr.cell? (adl.add k) = some (.slice D rm rc) from c6)))
        have eq4 : ((wr.alloc (.cells #[] 25)).alloc (.cells #[.slice D rm rc] 25)).cell? ⟨gb, M1, none⟩ = some (.slice Ag mg cg) := ((World.cell?_alloc_lt _ _ _ (World.block_lt_of_cell? _ _ ((World.cell?_alloc_lt _ _ _ (World.block_lt_of_cell? _ _ (show wr.cell? ⟨gb, M1, none⟩ = some (.slice Ag mg cg) from cq6))).trans (show wr.cell? ⟨gb, M1, none⟩ = some (.slice Ag mg cg) from cq6)))).trans ((World.cell?_alloc_lt _ _ _ (World.block_lt_of_cell? _ _ (show wr.cell? ⟨gb, M1, none⟩ = some (.slice Ag mg cg) from cq6))).trans (show wr.cell? ⟨gb, M1, none⟩ = some (.slice Ag mg cg) from cq6)))
        have el5 : ((wr.drew.alloc (.cells #[] 25)).alloc (.cells #[.slice D rm rc] 25)).cell? (adl.add k) = some (.slice D rm rc) := ((World.cell?_alloc_lt _ _ _ (World.block_lt_of_cell? _ _ ((World.cell?_alloc_lt _ _ _ (World.block_lt_of_cell? _ _ (show wr.drew.cell? (adl.add k) = some (.slice D rm rc) from c6))).trans (show wr.drew.cell? (adl.add k) = some (.slice D rm rc) from c6)))).trans ((World.cell?_alloc_lt _ _ _ (World.block_lt_of_cell? _ _ (show wr.drew.cell? (adl.add k) = some (.slice D rm rc) from c6))).trans (show wr.drew.cell? (adl.add k) = some (.slice D rm rc) from c6)))
        have eq5 : ((wr.drew.alloc (.cells #[] 25)).alloc (.cells #[.slice D rm rc] 25)).cell? ⟨gb, M1, none⟩ = some (.slice Ag mg cg) := ((World.cell?_alloc_lt _ _ _ (World.block_lt_of_cell? _ _ ((World.cell?_alloc_lt _ _ _ (World.block_lt_of_cell? _ _ (show wr.drew.cell? ⟨gb, M1, none⟩ = some (.slice Ag mg cg) from cq6))).trans (show wr.drew.cell? ⟨gb, M1, none⟩ = some (.slice Ag mg cg) from cq6)))).trans ((World.cell?_alloc_lt _ _ _ (World.block_lt_of_cell? _ _ (show wr.drew.cell? ⟨gb, M1, none⟩ = some (.slice Ag mg cg) from cq6))).trans (show wr.drew.cell? ⟨gb, M1, none⟩ = some (.slice Ag mg cg) from cq6)))
        have el6 : ((wr.alloc (.cells #[.slice D rm rc] 25)).alloc (.cells #[] 25)).cell? (adl.add k) = some (.slice D rm rc) := ((World.cell?_alloc_lt _ _ _ (World.block_lt_of_cell? _ _ ((World.cell?_alloc_lt _ _ _ (World.block_lt_of_cell? _ _ (show wr.cell? (adl.add k) = some (.slice D rm rc) from c6))).trans (show wr.cell? (adl.add k) = some (.slice D rm rc) from c6)))).trans ((World.cell?_alloc_lt _ _ _ (World.block_lt_of_cell? _ _ (show wr.cell? (adl.add k) = some (.slice D rm rc) from c6))).trans (show wr.cell? (adl.add k) = some (.slice D rm rc) from c6)))
        have eq6 : ((wr.alloc (.cells #[.slice D rm rc] 25)).alloc (.cells #[] 25)).cell? ⟨gb, M1, none⟩ = some (.slice Ag mg cg) := ((World.cell?_alloc_lt _ _ _ (World.block_lt_of_cell? _ _ ((World.cell?_alloc_lt _ _ _ (World.block_lt_of_cell? _ _ (show wr.cell? ⟨gb, M1, none⟩ = some (.slice Ag mg cg) from cq6))).trans (show wr.cell? ⟨gb, M1, none⟩ = some (.slice Ag mg cg) from cq6)))).trans ((World.cell?_alloc_lt _ _ _ (World.block_lt_of_cell? _ _ (show wr.cell? ⟨gb, M1, none⟩ = some (.slice Ag mg cg) from cq6))).trans (show wr.cell? ⟨gb, M1, none⟩ = some (.slice Ag mg cg) from cq6)))
        have el7 : ((wr.drew.alloc (.cells #[.slice D rm rc] 25)).alloc (.cells #[] 25)).cell? (adl.add k) = some (.slice D rm rc) := ((World.cell?_alloc_lt _ _ _ (World.block_lt_of_cell? _ _ ((World.cell?_alloc_lt _ _ _ (World.block_lt_of_cell? _ _ (show wr.drew.cell? (adl.add k) = some (.slice D rm rc) from c6))).trans (show wr.drew.cell? (adl.add k) = some (.slice D rm rc) from c6)))).trans ((World.cell?_alloc_lt _ _ _ (World.block_lt_of_cell? _ _ (show wr.drew.cell? (adl.add k) = some (.slice D rm rc) from c6))).trans (show wr.drew.cell? (adl.add k) = some (.slice D rm rc) from c6)))
        have eq7 : ((wr.drew.alloc (.cells #[.slice D rm rc] 25)).alloc (.cells #[] 25)).cell? ⟨gb, M1, none⟩ = some (.slice Ag mg cg) := ((World.cell?_alloc_lt _ _ _ (World.block_lt_of_cell? _ _ ((World.cell?_alloc_lt _ _ _ (World.block_lt_of_cell? _ _ (show wr.drew.cell? ⟨gb, M1, none⟩ = some (.slice Ag mg cg) from cq6))).trans (show wr.drew.cell? ⟨gb, M1, none⟩ = some (.slice Ag mg cg) from cq6)))).trans ((World.cell?_alloc_lt _ _ _ (World.block_lt_of_cell? _ _ (show wr.drew.cell? ⟨gb, M1, none⟩ = some (.slice Ag mg cg) from cq6))).trans (show wr.drew.cell? ⟨gb, M1, none⟩ = some (.slice Ag mg cg) from cq6)))
        have HG := Lib.hid (And.intro ho (And.intro hgs (And.intro bel (And.intro hM (And.intro hrk (And.intro hrv (And.intro hmr (And.intro hhe (And.intro hlast (And.intro hog hhg))))))))))
        have HK := Lib.hid (And.intro hne2 hg)
        have HU := Lib.hid hU2
        clear ho hgs bel hM hrk hrv hmr hhe hlast hog hhg hne2 hg hfit hok2 hU2 hml HH
        have hMM : (M1 : Int) < (M1 : Int) + 1 := by omega
        go_wp2
        go_region_law (first
              | (refine step_of_wp rfl (show Oper.wp _ _ _ (wr.drew.alloc (.cells #[] 25)) _ _ from op_appendA (W := wr.drew.alloc (.cells #[] 25)) wr.heap.size (.tmp 18) (.tmp 22) 23 25 (.slice none 0 0) 24 rfl Tryz.underlying23 info_L rfl (by omega) (.slice (some ⟨wr.heap.size, 0, none⟩) 0 0) 0 [] rfl Ag mg cg hsg rfl HL6.out (HS6.out _ HW1.out) HONE.out HF6.out.1 (by simp <;> omega) (by omega) ?_); intro v7 w7 h7a t7; rw [Nat.zero_add, List.nil_append] at h7a; obtain ⟨A7, c7, rfl⟩ := own_slice h7a; have B7 := Lib.hid (below_turn HW1.out t7 (by simp <;> omega) (fun i hi => by simp [Value.ownBlock] at hi; omega)); have hc7 := cell_belowv c6 B7.out (by rw [add_block]; exact had6); have hq7 := cell_belowv cq6 B7.out hgb2)
              | (refine step_of_wp rfl (show Oper.wp _ _ _ ((wr.drew.alloc (.cells #[] 25)).alloc (.cells #[.slice D rm rc] 25)) _ _ from op_appendA (W := (wr.drew.alloc (.cells #[] 25)).alloc (.cells #[.slice D rm rc] 25)) wr.heap.size (.tmp 18) (.tmp 22) 23 25 (.slice none 0 0) 24 rfl Tryz.underlying23 info_L rfl (by omega) (.slice (some ⟨wr.heap.size, 0, none⟩) 0 0) 0 [] rfl Ag mg cg hsg rfl HL6.out (HS6.out _ HW2.out) HONE.out HF6.out.2.1 (by simp <;> omega) (by omega) ?_); intro v7 w7 h7b t7; rw [Nat.zero_add, List.nil_append] at h7b; obtain ⟨A7, c7, rfl⟩ := own_slice h7b; have B7 := Lib.hid (below_turn HW2.out t7 (by simp <;> omega) (fun i hi => by simp [Value.ownBlock] at hi; omega)); have hc7 := cell_belowv c6 B7.out (by rw [add_block]; exact had6); have hq7 := cell_belowv cq6 B7.out hgb2; have hx7 := cell_turn (HX6.out.1) t7 (by simp [Value.ownBlock]))
              | (refine step_of_wp rfl (show Oper.wp _ _ _ ((wr.drew.alloc (.cells #[.slice D rm rc] 25)).alloc (.cells #[] 25)) _ _ from op_appendA (W := (wr.drew.alloc (.cells #[.slice D rm rc] 25)).alloc (.cells #[] 25)) wr.heap.size (.tmp 18) (.tmp 22) 23 25 (.slice none 0 0) 24 rfl Tryz.underlying23 info_L rfl (by omega) (.slice (some ⟨wr.heap.size + 1, 0, none⟩) 0 0) 0 [] rfl Ag mg cg hsg rfl HL6.out (HS6.out _ HW3.out) HONE.out HF6.out.2.2 (by simp <;> omega) (by omega) ?_); intro v7 w7 h7c t7; rw [Nat.zero_add, List.nil_append] at h7c; obtain ⟨A7, c7, rfl⟩ := own_slice h7c; have B7 := Lib.hid (below_turn HW3.out t7 (by simp <;> omega) (fun i hi => by simp [Value.ownBlock] at hi; omega)); have hc7 := cell_belowv c6 B7.out (by rw [add_block]; exact had6); have hq7 := cell_belowv cq6 B7.out hgb2; have hx7 := cell_turn (HX6.out.2) t7 (by simp [Value.ownBlock]))
              | (refine step_of_wp rfl (show Oper.wp _ _ _ (w7.alloc (.cells #[.slice D rm rc] 25)) _ _ from op_append1 (W := w7) wr.heap.size (.tmp 23) (.tmp 28) 23 25 (.slice none 0 0) 1 24 rfl Tryz.underlying23 info_L rfl (by omega) (by omega) (.slice A7 mg c7) mg _ [.slice D rm rc] rfl rfl (by simp) rfl (by simp [Value.oneCell']) h7a B7.out.size (by omega) ?_); intro v8 w8 h8 t8 _; obtain ⟨A8, c8, rfl⟩ := own_slice h8; have HB8 := Lib.hid (below_turn B7.out t8 B7.out.size (fun i hi => own_ge h7a hi)); have HH8 := Lib.hid h8; clear h8 t8)
              | (refine step_of_wp rfl (show Oper.wp _ _ _ w7 _ _ from op_appendA (W := w7) wr.heap.size (.tmp 23) (.tmp 28) 23 25 (.slice none 0 0) 24 rfl Tryz.underlying23 info_L rfl (by omega) (.slice A7 mg c7) mg _ rfl (some ⟨wr.heap.size + 1, 0, none⟩) 1 1 [.slice D rm rc] rfl rfl (fun _ => ⟨_, rfl, one_src hx7⟩) (by simp [Value.oneCell']) h7b B7.out.size (by omega) ?_); intro v8 w8 h8 t8; obtain ⟨A8, c8, rfl⟩ := own_slice h8; have HB8 := Lib.hid (below_turn B7.out t8 B7.out.size (fun i hi => own_ge h7b hi)); have HH8 := Lib.hid h8; clear h8 t8)
              | (refine step_of_wp rfl (show Oper.wp _ _ _ w7 _ _ from op_appendA (W := w7) wr.heap.size (.tmp 23) (.tmp 28) 23 25 (.slice none 0 0) 24 rfl Tryz.underlying23 info_L rfl (by omega) (.slice A7 mg c7) mg _ rfl (some ⟨wr.heap.size, 0, none⟩) 1 1 [.slice D rm rc] rfl rfl (fun _ => ⟨_, rfl, one_src hx7⟩) (by simp [Value.oneCell']) h7c B7.out.size (by omega) ?_); intro v8 w8 h8 t8; obtain ⟨A8, c8, rfl⟩ := own_slice h8; have HB8 := Lib.hid (below_turn B7.out t8 B7.out.size (fun i hi => own_ge h7c hi)); have HH8 := Lib.hid h8; clear h8 t8))
        all_goals
          have b8 : Below w.heap.size w w8 := HG.out.2.2.1.trans (HB8.out.mono szr)
          have s8 := HB8.out.size
          have HHl8 := Lib.hid (own_lower HH8.out szr)
          go_wp2_with (first
            | (exfalso; omega)
            | (go_at_call 58; (with_reducible refine (HUs2.out _ _ _ b8 HHl8.out).mono ?_); rintro e w9 ⟨rfl, b⟩; have b9 := b8.trans (b.mono b8.size); have s9 := b.size; have B9 := Lib.hid (HB8.out.trans (b.mono s8)); have c69 := HCell.out _ b9; have HO9 := Lib.hid (own_below HG.out.1 B9.out); have HN9 := Lib.hid (own_below HHl8.out b); obtain ⟨⟨x9, hx9⟩, hf9, hst9⟩ := own_set2 HO9.out (i := M1) (by omega); have HST9 := Lib.hid hst9; clear hst9 b)
            | (at_builtin; refine wp_append1 (W := w9.alloc (.cells #[.slice D rm rc] 25)) w.heap.size rfl (.tmp 37) (.tmp 43) 47 23 (.slice none 0 0) 1 24 rfl Tryz.underlying47 info_LL2 rfl (by omega) (by omega) (.slice (some ⟨gb, 0, none⟩) (M1 + 1) C) (M1 + 1) _ [.slice (some ⟨w9.heap.size, 0, none⟩) 1 1] rfl rfl (by simp) rfl (by simp [Value.oneCell']) (HO9.out.alloc _) (by simp; omega) (by omega) ?_; intro v10 w10 h10 t10 _; obtain ⟨A10, c10, rfl⟩ := own_slice h10; have HH10 := Lib.hid (And.intro h10 t10); clear h10 t10))
        all_goals first
          | (exfalso; omega)
          | skip
        all_goals go_roundw
        all_goals first
          | (have hz := rf_set HG.out.1 HG.out.2.1 HG.out.2.2.1 HG.out.2.2.2.1 HG.out.2.2.2.2.1 HG.out.2.2.2.2.2.1 hk0 HK.out.2 HG.out.2.2.2.2.2.2.2.2.2.2 hgb1 (by rw [← HU.out]; omega) B9.out HN9.out; exact ⟨k + 1, M1 + 1, _, _, _, by omega, by omega, by omega, by go_num, rfl, hz⟩)
          | (have hz := rf_app HG.out.1 HG.out.2.1 HG.out.2.2.1 HG.out.2.2.2.1 HG.out.2.2.2.2.1 HG.out.2.2.2.2.2.1 hk0 HK.out.2 hgb1 hgb2 (by rw [← HU.out]; omega) B9.out HH10.out.1 HH10.out.2; exact ⟨k + 1, M1 + 1 + 1, _, _, _, by omega, by omega, by omega, by go_num, rfl, hz.1, HH10.out.1, hz.2⟩)
          | (simp [intOf]; omega)
    · obtain rfl : k = n := by omega
      have hlen := HN.out
      rw [List.take_of_length_le (by omega)] at hgs hM
      have HE := Lib.hid (And.intro ho (And.intro hgs (And.intro bel hM)))
      clear ho hgs bel hM
      go_wp2
      go_ret
      obtain ⟨ho, hgs, bel, rfl⟩ := HE.out
      exact ⟨_, _, _, rfl, ho, hgs, bel⟩
end Go.Proofs.YtkbapoeilcapfaaGreat
