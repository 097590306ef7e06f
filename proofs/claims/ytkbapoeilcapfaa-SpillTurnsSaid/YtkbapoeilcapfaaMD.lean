/- Pages of rows. -/
import Derived.Test.YtkbapoeilcapfaaMC
import Derived.Laws.BitsAllLaws
import Derived.Laws.CopyOwn
import Derived.Lib.SliceRun
import Derived.RegionTactic
import Derived.BigRegion
/- a page: are bytes free; where a row begins. -/
namespace Go.Proofs.Ytkbapoeilcapfaa
open Go.RowKit
set_option linter.unusedVariables false
set_option linter.unusedSimpArgs false

def isZ (x : Int) : Bool := decide (x = 0)
theorem z_walk {w : World} (x : Int) (b : Bool) (h : isZ x = b) : Calls Try.prog 63 #[.int .u8 x] w fun e w' => e = .returned (.bool (!b)) ∧ w' = w := by
  have HH := Lib.hid h
  clear h
  go_enter Try.func63, Try.ntmps63
  go_wp2
  go_ret
  refine ⟨ret_bool ?_, rfl⟩
  rw [← HH.out]
  unfold isZ
  show (x != 0) = _
  by_cases h : x = 0 <;> simp [h]
def ZPost (b : Bool) (w : World) (e : Ending) (w' : World) : Prop := ∃ i : Int, e = .returned (.int .i64 i) ∧ decide (0 ≤ i) = b ∧ w' = w
theorem idxB_walk {w : World} {C : Option Addr} {m cc : Nat} (cs : List Int) (hr : Rd1 w C m (u8s cs)) :
    Calls Try.prog 70 #[.slice C m cc, .func (.func 63) #[] #[]] w (ZPost (!cs.all isZ) w) := by
  have hm := hr.2.1
  have hl : cs.length = m := by simpa using hr.1
  go_enter Try.func70, Try.ntmps70
  go_wp2
  go_loopw [8] (fun i wr => ∃ k : Nat, k ≤ m ∧ i = .int .i64 k ∧ (cs.take k).all isZ = true ∧ wr = w) (fun i _ => m - (intOf i).toNat)
  case atStart => exact ⟨0, by omega, rfl, rfl, rfl⟩
  case round =>
    obtain ⟨k, hk, rfl, hall, rfl⟩ := hrel
    have HA := Lib.hid hall
    clear hall
    by_cases hlt : k < m
    · obtain ⟨ad, rfl, had, hc⟩ := hr.at2 hlt
      have hkl : k < cs.length := by omega
      rw [getD_map 0 hkl] at hc
      have HT := allI_take (p := isZ) hkl
      have HF := allI_false (p := isZ) hkl
      obtain ⟨x, hx⟩ : ∃ x, x = cs.getD k 0 := ⟨_, rfl⟩
      rw [← hx] at hc HT HF
      have HT := Lib.hid HT
      have HF := Lib.hid HF
      clear hx hr
      cases ho : isZ x with
      | true =>
        have HO := Lib.hid (z_walk (w := wr) x true ho)
        have H2 := Lib.hid ho
        clear ho
        go_wp2_with (go_at_call 63; refine HO.out.mono ?_; rintro e w1 ⟨rfl, rfl⟩)
        go_roundw
        case rel => exact ⟨k + 1, by omega, by go_num, by rw [HT.out, HA.out, H2.out]; rfl, by trivial⟩
        case measure => simp [intOf]; omega
      | false =>
        have HO := Lib.hid (z_walk (w := wr) x false ho)
        have H2 := Lib.hid (HF.out ho)
        clear ho
        go_wp2_with (go_at_call 63; refine HO.out.mono ?_; rintro e w1 ⟨rfl, rfl⟩)
        go_ret
        exact ⟨k, rfl, by rw [H2.out]; simp, rfl⟩
    · go_wp2
      go_ret
      have h := HA.out
      rw [List.take_of_length_le (by omega)] at h
      exact ⟨-1, rfl, by rw [h]; rfl, rfl⟩
theorem conB_walk {w : World} {C : Option Addr} {m cc : Nat} (cs : List Int) (hr : Rd1 w C m (u8s cs)) (b : Bool) (hb : cs.all isZ = b) :
    Calls Try.prog 62 #[.slice C m cc, .func (.func 63) #[] #[]] w fun e w' => e = .returned (.bool (!b)) ∧ w' = w := by
  have HI := Lib.hid (idxB_walk (cc := cc) cs hr)
  subst hb
  clear hr
  go_enter Try.func62, Try.ntmps62
  go_wp2_with (go_at_call 70; refine HI.out.mono ?_; rintro e w1 ⟨i, rfl, hi, rfl⟩; have H := Lib.hid hi; clear hi)
  go_ret
  exact ⟨by rw [← H.out]; rfl, by trivial⟩
theorem ori64 {z y : Int} (z0 : 0 ≤ z) (z1 : z ≤ 255) (y0 : 0 ≤ y) (y1 : y ≤ 255) : bits .or .i64 (z * 256) y = z * 256 + y := by
  obtain ⟨a, rfl⟩ := Int.eq_ofNat_of_zero_le z0
  obtain ⟨c, rfl⟩ := Int.eq_ofNat_of_zero_le y0
  have e : ((a : Int) * 256) = ((a * 256 : Nat) : Int) := by omega
  have h : a * 256 ||| c = a * 256 + c := by
    have := Nat.shiftLeft_add_eq_or_of_lt (i := 8) (b := c) (by omega) a
    rw [Nat.shiftLeft_eq] at this
    exact this.symm
  rw [e]
  show IntKind.i64.wrap ((BitVec.ofInt 64 ((a * 256 : Nat) : Int) ||| BitVec.ofInt 64 (c : Int)).toNat : Int) = _
  rw [BitVec.toNat_or, ofInt_u64 (a * 256) (by omega), ofInt_u64 c (by omega), h]
  have e2 : ((a * 256 + c : Nat) : Int) % 2 ^ 64 = (a * 256 + c : Nat) := Int.emod_eq_of_lt (by omega) (by omega)
  simp only [IntKind.wrap, IntKind.bits, IntKind.signed, e2]
  rw [if_neg]
  · omega
  · simp
    omega
/-- Where row i begins. -/
def startS (p : List Int) (i : Nat) : Int := p.getD (256 - 2 * (i + 1)) 0 * 256 + p.getD (256 - 2 * (i + 1) + 1) 0
theorem start_walk {w : World} {ad : Addr} {c i : Nat} {p : List Int} (hr : Rd1 w (some ad) 256 (u8s p)) (hb : isB p) (hi : 2 * (i + 1) ≤ 256) :
    Calls Try.prog 61 #[.slice (some ad) 256 c, .int .i64 i] w fun e w' => e = .returned (.int .i64 (startS p i)) ∧ Below w.heap.size w w' := by
  have hl : p.length = 256 := by simpa using hr.1
  obtain ⟨a, ha⟩ : ∃ a, a = 256 - 2 * (i + 1) := ⟨_, rfl⟩
  have ha2 : a + 1 < 256 := by omega
  obtain ⟨ad', e, had, h0⟩ := hr.at2 (k := a) (by omega)
  obtain rfl := Option.some.inj e
  obtain ⟨ad', e, _, h1⟩ := hr.at2 (k := a + 1) (by omega)
  obtain rfl := Option.some.inj e
  rw [getD_map 0 (by omega)] at h0 h1
  have D0 := getD_isB hb a
  have D1 := getD_isB hb (a + 1)
  have HS : startS p i = p.getD a 0 * 256 + p.getD (a + 1) 0 := by unfold startS; rw [← ha]
  obtain ⟨x, hx⟩ : ∃ x, x = p.getD a 0 := ⟨_, rfl⟩
  obtain ⟨y, hy⟩ : ∃ y, y = p.getD (a + 1) 0 := ⟨_, rfl⟩
  rw [← hx] at h0 D0 HS
  rw [← hy] at h1 D1 HS
  have HS := Lib.hid HS
  have hw : (256 : Int) - 2 * ((i : Int) + 1) = a := by omega
  obtain ⟨a1, ha1⟩ : ∃ a1, a1 = a + 1 := ⟨_, rfl⟩
  have hw1 : (a : Int) + 1 = a1 := by omega
  rw [← ha1] at h1 ha2
  have ha3 : a < 256 := by omega
  have hi2 : (i : Int) ≤ 255 := by omega
  clear hx hy e hr ha ha1 hl hi
  go_enter Try.func61, Try.ntmps61
  go_wp2
  go_quiet (fail)
  go_wp2
  go_ret
  refine ⟨ret_int ?_, ⟨rfl, rfl, rfl, Nat.le_refl _, fun _ _ => rfl⟩⟩
  rw [HS.out, ← ori64 D0.1 D0.2 D1.1 D1.2]
end Go.Proofs.Ytkbapoeilcapfaa
namespace Go.Proofs.Ytkbapoeilcapfaa
open Go.RowKit
set_option linter.unusedVariables false
set_option linter.unusedSimpArgs false

def scanA (p : List Int) (en : Nat) : Nat → Nat → Nat → List (List V) → Option (List (List V) × Nat)
  | 0, _, a, acc => if ((p.drop a).take (en - a)).all isZ = true then some (acc, a) else none
  | k + 1, i, a, acc => match decR ((p.drop a).take (en - a)) with
    | none => none
    | some (r, m) => if startS p i = a then scanA p en k (i + 1) (a + m) (acc ++ [r]) else none
def scanS (p : List Int) : Option (List (List V) × Nat) :=
  if p.length = 256 ∧ 2 * (p.getD 0 0).toNat < 256 then scanA p (256 - 2 * (p.getD 0 0).toNat) (p.getD 0 0).toNat 0 1 [] else none
/-- Rows that a call owns, by their headers. -/
structure OwnRs (w : World) (base : Nat) (hds : List Value) (rows : List (List V)) : Prop where
  len : hds.length = rows.length
  own : ∀ (i : Nat) h r, hds[i]? = some h → rows[i]? = some r → w.ownsRow base 65 3 h r.length (cellsR r)
  ok : ∀ r ∈ rows, rowOk r = true
theorem own_ne_own {w : World} {b1 b2 : Nat} {e1 e2 : TypeId} {s1 s2 n1 n2 : Nat} {v1 v2 : Value} {x1 x2 : List Value} (h1 : w.ownsRow b1 e1 s1 v1 n1 x1) (h2 : w.ownsRow b2 e2 s2 v2 n2 x2) (hne : e1 ≠ e2) {k : Nat} (hk : v1.ownBlock = some k) : ¬ v2.ownBlock = some k := by
  intro hk2
  rcases h2.2 with ⟨rfl, _⟩ | ⟨g', cap', cur, rfl, _, hg', _⟩
  · cases hk2
  · obtain rfl : g' = k := by simpa [Value.ownBlock] using hk2
    exact own_ne_typed h1 hg' hne _ hk rfl
theorem OwnRs.nil (w : World) (base : Nat) : OwnRs w base [] [] := ⟨rfl, fun i h r hh => by simp at hh, fun r hr => by simp at hr⟩
theorem OwnRs.turn {S : Nat → Prop} {w w' : World} {base : Nat} {hds : List Value} {rows : List (List V)} (h : OwnRs w base hds rows) (ht : Turn S w w') (hs : ∀ v n r, w.ownsRow base 65 3 v n r → ∀ k, v.ownBlock = some k → ¬ S k) : OwnRs w' base hds rows :=
  ⟨h.len, fun i x r hx hr => own_turn (h.own i x r hx hr) ht (hs _ _ _ (h.own i x r hx hr)), h.ok⟩
theorem OwnRs.below {w w' : World} {base : Nat} {hds : List Value} {rows : List (List V)} (h : OwnRs w base hds rows) (hb : Below w.heap.size w w') : OwnRs w' base hds rows :=
  h.turn (Turn.of_below hb (fun _ => False)) (fun _ _ _ _ _ _ => id)
theorem OwnRs.lower {w : World} {base base' : Nat} {hds : List Value} {rows : List (List V)} (h : OwnRs w base hds rows) (hb : base' ≤ base) : OwnRs w base' hds rows :=
  ⟨h.len, fun i x r hx hr => own_lower (h.own i x r hx hr) hb, h.ok⟩
theorem OwnRs.snoc {w : World} {base : Nat} {hds : List Value} {rows : List (List V)} {x : Value} {r : List V} (h : OwnRs w base hds rows) (hx : w.ownsRow base 65 3 x r.length (cellsR r)) (hr : rowOk r = true) : OwnRs w base (hds ++ [x]) (rows ++ [r]) := by
  refine ⟨by simp [h.len], fun i y s hy hs => ?_, fun s hs => ?_⟩
  · rcases Nat.lt_or_ge i hds.length with hl | hl
    · rw [List.getElem?_append_left hl] at hy
      rw [List.getElem?_append_left (by rw [← h.len]; exact hl)] at hs
      exact h.own i y s hy hs
    · rw [List.getElem?_append_right hl] at hy
      rw [List.getElem?_append_right (by rw [← h.len]; exact hl), ← h.len] at hs
      rcases hz : i - hds.length with _ | j
      · rw [hz] at hy hs
        simp at hy hs
        subst hy hs
        exact hx
      · rw [hz] at hy
        simp at hy
  · rcases List.mem_append.1 hs with e | e
    · exact h.ok s e
    · obtain rfl : s = r := by simpa using e
      exact hr
def ScanP (w : World) (o : Option (List (List V) × Nat)) (e : Ending) (w' : World) : Prop :=
  (match o with
  | some (rows, a) => ∃ A c hds, e = .returned (.tuple #[.slice A rows.length c, .int .i64 a, .int .i64 0]) ∧ w'.ownsRow w.heap.size 22 1 (.slice A rows.length c) rows.length hds ∧ OwnRs w' w.heap.size hds rows
  | none => e = .returned (.tuple #[.slice none 0 0, .int .i64 0, .int .i64 40])) ∧ Below w.heap.size w w'
theorem ScanP.none {w w' : World} {o : Option (List (List V) × Nat)} (h : o = Option.none) {e : Ending} (he : e = .returned (.tuple #[.slice Option.none 0 0, .int .i64 0, .int .i64 40])) (b : Below w.heap.size w w') : ScanP w o e w' := by
  subst h
  exact ⟨he, b⟩
theorem scan_len {w : World} {A : Option Addr} {n c : Nat} {p : List Int} (hl : p.length = n) (h : n ≠ 256) : Calls Try.prog 51 #[.slice A n c] w (ScanP w (scanS p)) := by
  have HS := Lib.hid (show scanS p = none by unfold scanS; rw [if_neg (by omega)])
  have hn : ((n : Int) != 256) = true := by simp; omega
  clear hl
  go_enter Try.func51, Try.ntmps51
  go_wp2
  go_ret3
  exact ScanP.none HS.out rfl (Below.refl _ _)
theorem scan_many {w : World} {ad : Addr} {c k : Nat} {t : List Int} (h : Rd1 w (some ad) 256 (u8s ((k : Int) :: t))) (hk : 128 ≤ k) (hk5 : k ≤ 255) : Calls Try.prog 51 #[.slice (some ad) 256 c] w (ScanP w (scanS ((k : Int) :: t))) := by
  obtain ⟨c0, had, hn⟩ := rd_head h
  have HS := Lib.hid (show scanS ((k : Int) :: t) = none by unfold scanS; rw [if_neg]; simp; omega)
  have hlt : decide ((256 : Int) - 2 * (k : Int) < 1) = true := by simp; omega
  clear h
  go_enter Try.func51, Try.ntmps51
  go_wp2
  go_ret3
  exact ScanP.none HS.out rfl (Below.refl _ _)
end Go.Proofs.Ytkbapoeilcapfaa
namespace Go.Proofs.Ytkbapoeilcapfaa
open Go.RowKit
set_option linter.unusedVariables false
set_option linter.unusedSimpArgs false

theorem get_none {w : World} {n c : Nat} {ad : Addr} {bs : List Int} (hr : Rd1 w (some ad) n (u8s bs)) (hb : isB bs) (hab : ad.block < w.heap.size) (hnc : n ≤ c) (hc : c ≤ 9223372036854775807) (hn : n ≤ 100000) (h : decR bs = none) :
    Calls Try.prog 60 #[.slice (some ad) n c] w fun e w' => e = .returned (.tuple #[.slice none 0 0, .int .i64 0, .int .i64 20]) ∧ Below w.heap.size w w' := by
  refine (get_walk hr hb hab hnc hc hn).mono ?_
  intro e w' H
  unfold GetPost at H
  rw [h] at H
  exact H
theorem get_some {w : World} {n c : Nat} {ad : Addr} {bs : List Int} (hr : Rd1 w (some ad) n (u8s bs)) (hb : isB bs) (hab : ad.block < w.heap.size) (hnc : n ≤ c) (hc : c ≤ 9223372036854775807) (hn : n ≤ 100000) {r : List V} {m : Nat} (h : decR bs = some (r, m)) :
    Calls Try.prog 60 #[.slice (some ad) n c] w fun e w' => ∃ B c', e = .returned (.tuple #[.slice B r.length c', .int .i64 m, .int .i64 0]) ∧ w'.ownsRow w.heap.size 65 3 (.slice B r.length c') r.length (cellsR r) ∧ Below w.heap.size w w' := by
  refine (get_walk hr hb hab hnc hc hn).mono ?_
  intro e w' H
  unfold GetPost at H
  rw [h] at H
  obtain ⟨⟨v', rfl, ho⟩, b⟩ := H
  obtain ⟨B, c', rfl⟩ := own_slice ho
  exact ⟨B, c', rfl, ho, b⟩
theorem scanA_succ (p : List Int) (en k i a : Nat) (acc : List (List V)) : scanA p en (k + 1) i a acc = match decR ((p.drop a).take (en - a)) with
    | none => none
    | some (r, m) => if startS p i = a then scanA p en k (i + 1) (a + m) (acc ++ [r]) else none := rfl
set_option maxHeartbeats 400000 in
theorem scan_ok {w : World} {ad : Addr} {c k : Nat} {t : List Int} (h : Rd1 w (some ad) 256 (u8s ((k : Int) :: t))) (hb : isB ((k : Int) :: t)) (hk : k < 128) (hc : 256 ≤ c) (hc6 : c ≤ 9223372036854775807) : Calls Try.prog 51 #[.slice (some ad) 256 c] w (ScanP w (scanS ((k : Int) :: t))) := by
  obtain ⟨c0, had, hn⟩ := rd_head h
  obtain ⟨p, hp⟩ : ∃ p, p = (k : Int) :: t := ⟨_, rfl⟩
  obtain ⟨en, hen⟩ : ∃ en, en = 256 - 2 * k := ⟨_, rfl⟩
  have hS : scanS ((k : Int) :: t) = scanA p en k 0 1 [] := by
    unfold scanS
    rw [if_pos (by simp; omega), hen, ← hp]
    simp [hp]
  rw [hS]
  rw [← hp] at h hb
  have hw : (256 : Int) - 2 * (k : Int) = en := by omega
  have hen1 : 1 ≤ en := by omega
  have hen2 : en ≤ 256 := by omega
  have HE := Lib.hid (And.intro hen hk)
  have HH := Lib.hid (And.intro h (And.intro hb (show p.length = 256 by simpa using h.1)))
  clear h hb hp hS hen hn hk
  go_enter Try.func51, Try.ntmps51
  go_wp2
  go_loopw [7, 8, 28] (fun q o x wr => ∃ (i a : Nat) (A : Option Addr) (C : Nat) (hds : List Value) (rows : List (List V)), i ≤ k ∧ a ≤ en ∧ q = .int .i64 a ∧ x = .int .i64 i ∧ o = .slice A i C ∧ rows.length = i ∧ scanA p en k 0 1 [] = scanA p en (k - i) i a rows ∧ wr.ownsRow w.heap.size 22 1 (.slice A i C) i hds ∧ OwnRs wr w.heap.size hds rows ∧ Below w.heap.size w wr) (fun _ _ x _ => k - (intOf x).toNat)
  case atStart => exact ⟨0, 1, none, 0, [], [], by omega, hen1, rfl, rfl, rfl, rfl, rfl, World.ownsRow_nil _ _ _ _, OwnRs.nil _ _, Below.refl _ _⟩
  case round =>
    obtain ⟨i, a, A, C, hds, rows, hi, ha, rfl, rfl, rfl, hrl, hsc, ho, hrs, bel⟩ := hrel
    have szr := bel.size
    have hbw : ad.block < wr.heap.size := by omega
    by_cases hlt : i < k
    · rw [show k - i = k - (i + 1) + 1 by omega, scanA_succ] at hsc
      have R2 : ∃ ad2, (if en = a then some ad else some (ad.add a)) = some ad2 ∧ Rd1 wr (some ad2) (en - a) (u8s ((p.drop a).take (en - a))) ∧ ad2.block < wr.heap.size := by
        by_cases hae : en = a
        · refine ⟨ad, by rw [if_pos hae], ?_, hbw⟩
          subst hae
          rw [Nat.sub_self]
          exact ⟨by simp, by omega, fun h => absurd h (by omega)⟩
        · refine ⟨ad.add a, by rw [if_neg hae], ?_, by rw [add_block]; exact hbw⟩
          have := ((HH.out.1.below bel).drop (h := a) (by omega)).take (h := en - a) (by omega)
          rwa [← List.map_drop, ← List.map_take] at this
      obtain ⟨ad2, had2, hr2, hb2⟩ := R2
      have hbt : isB ((p.drop a).take (en - a)) := (HH.out.2.1.drop a).take _
      have HG := Lib.hid (And.intro ho (And.intro hrs (And.intro bel hrl)))
      have HI := Lib.hid (show 2 * (i + 1) ≤ 256 by have := HE.out; omega)
      have hac : a ≤ c := by omega
      have henc : en ≤ c := by omega
      cases hd : decR ((p.drop a).take (en - a)) with
      | none =>
        rw [hd] at hsc
        have HD := Lib.hid (show scanA p en k 0 1 [] = none from hsc)
        have HC := get_none hr2 hbt hb2 (Nat.le_refl _) (by omega) (by omega) hd
        rw [← had2] at HC
        have HC := Lib.hid HC
        clear hr2 hbt ho hrs bel hd hsc hrl had2
        go_wp2_with (go_at_call 60; refine HC.out.mono ?_; rintro e w2 ⟨rfl, b2⟩)
        all_goals go_ret3
        all_goals first
          | exact ScanP.none HD.out rfl (HG.out.2.2.1.trans (b2.mono szr))
          | (obtain rfl : en = a := by assumption
             exact ScanP.none HD.out rfl (HG.out.2.2.1.trans (b2.mono szr)))
      | some x =>
        obtain ⟨r, m⟩ := x
        rw [hd] at hsc
        have S := decR_sound hbt hd
        have hm : a + m ≤ en := by
          have := S.2.2.2
          rw [List.length_take] at this
          omega
        have HC := get_some hr2 hbt hb2 (Nat.le_refl _) (by omega) (by omega) hd
        rw [← had2] at HC
        have HC := Lib.hid HC
        have HR := Lib.hid S.1
        obtain ⟨z, hz⟩ : ∃ z, z = startS p i := ⟨_, rfl⟩
        have HSt := fun w2 (b : Below wr.heap.size wr w2) => start_walk (c := c) (i := i) ((HH.out.1.below bel).below b) HH.out.2.1 HI.out
        rw [← hz] at HSt
        have HSt := Lib.hid HSt
        by_cases hza : z = a
        · replace hsc : scanA p en k 0 1 [] = scanA p en (k - (i + 1)) (i + 1) (a + m) (rows ++ [r]) := by
            have h2 : scanA p en k 0 1 [] = if startS p i = a then scanA p en (k - (i + 1)) (i + 1) (a + m) (rows ++ [r]) else none := hsc
            rw [h2, ← hz, if_pos hza]
          have HD := Lib.hid hsc
          subst hza
          clear hr2 hbt ho hrs bel hd hsc hrl had2 S hz
          go_wp2_with (first
            | (go_at_call 60; refine HC.out.mono ?_; rintro e w2 ⟨B, c', rfl, hrow, b2⟩; have HRow := Lib.hid hrow; have B2 := Lib.hid b2; clear hrow b2)
            | (go_at_call 61; refine (HSt.out _ B2.out).mono ?_; rintro e w3 ⟨rfl, b3⟩; have h3 := own_below (own_below HG.out.1 B2.out) b3; have s3 : w.heap.size ≤ w3.heap.size := Nat.le_trans szr (Nat.le_trans B2.out.size b3.size); have HRow3 := Lib.hid (own_lower (own_below HRow.out b3) szr); have B3 := Lib.hid ((HG.out.2.2.1.trans (B2.out.mono szr)).trans (b3.mono (Nat.le_trans szr B2.out.size))); have RS3 := Lib.hid ((HG.out.2.1.below B2.out).below b3); clear b3)
            | (at_builtin; refine wp_append1 w.heap.size rfl (.tmp 50) (.tmp 52) 34 22 (.slice none 0 0) 1 24 rfl Try.underlying34 info_L rfl (by omega) (by omega) (.slice A i C) i _ [.slice B r.length c'] rfl rfl (by simp) rfl (by simp [Value.oneCell']) h3 s3 (by omega) ?_; intro v1 w4 h4 t4 _))
          obtain ⟨A4, c4, rfl⟩ := own_slice h4
          have B4 := below_turn B3.out t4 s3 (fun i hi => own_ge h3 hi)
          have RS4 := (RS3.out.snoc HRow3.out HR.out).turn t4 (fun v n r hv k hk => own_ne_own hv h3 (by decide) hk)
          go_roundw
          case rel =>
            refine ⟨i + 1, a + m, A4, c4, _, _, by omega, hm, by go_num, by go_num, rfl, ?_, HD.out, h4, RS4, B4⟩
            have := HG.out.2.2.2
            simp [this]
          case measure => simp [intOf]; omega
        · replace hsc : scanA p en k 0 1 [] = none := by
            have h2 : scanA p en k 0 1 [] = if startS p i = a then scanA p en (k - (i + 1)) (i + 1) (a + m) (rows ++ [r]) else none := hsc
            rw [h2, ← hz, if_neg hza]
          have HD := Lib.hid hsc
          have hzb : (z != (a : Int)) = true := by simpa using hza
          clear hr2 hbt ho hrs bel hd hsc hrl had2 S hz hza
          go_wp2_with (first
            | (go_at_call 60; refine HC.out.mono ?_; rintro e w2 ⟨B, c', rfl, hrow, b2⟩; have B2 := Lib.hid b2; clear hrow b2)
            | (go_at_call 61; refine (HSt.out _ B2.out).mono ?_; rintro e w3 ⟨rfl, b3⟩; have B3 := Lib.hid ((HG.out.2.2.1.trans (B2.out.mono szr)).trans (b3.mono (Nat.le_trans szr B2.out.size))); clear b3))
          all_goals go_ret3
          all_goals first
            | exact ScanP.none HD.out rfl B3.out
            | (obtain rfl : en = a := by assumption
               exact ScanP.none HD.out rfl B3.out)
    · obtain rfl : i = k := by omega
      rw [Nat.sub_self] at hsc
      replace hsc : scanA p en i 0 1 [] = if ((p.drop a).take (en - a)).all isZ = true then some (rows, a) else none := hsc
      have R2 : Rd1 wr (if c = a then some ad else some (ad.add a)) (en - a) (u8s ((p.drop a).take (en - a))) := by
        by_cases hae : c = a
        · rw [if_pos hae]
          have : en = a := by omega
          subst this
          rw [Nat.sub_self]
          exact ⟨by simp, by omega, fun h => absurd h (by omega)⟩
        · rw [if_neg hae]
          have := ((HH.out.1.below bel).drop (h := a) (by omega)).take (h := en - a) (by omega)
          rwa [← List.map_drop, ← List.map_take] at this
      have hac : a ≤ c := by omega
      have henc : en ≤ c := by omega
      have HG := Lib.hid (And.intro ho (And.intro hrs (And.intro bel hrl)))
      cases hz : ((p.drop a).take (en - a)).all isZ with
      | true =>
        rw [hz] at hsc
        have HD := Lib.hid (show scanA p en i 0 1 [] = some (rows, a) from hsc)
        have HC := Lib.hid (conB_walk (cc := c - a) _ R2 true hz)
        clear ho hrs bel hrl hsc hz R2
        go_wp2_with (go_at_call 62; refine HC.out.mono ?_; rintro e w2 ⟨rfl, hw2⟩; obtain rfl := hw2.symm; clear hw2)
        all_goals go_ret3
        all_goals rw [HD.out]
        all_goals obtain rfl := HG.out.2.2.2
        all_goals exact ⟨⟨_, _, _, rfl, HG.out.1, HG.out.2.1⟩, HG.out.2.2.1⟩
      | false =>
        rw [hz] at hsc
        have HD := Lib.hid (show scanA p en i 0 1 [] = none from hsc)
        have HC := Lib.hid (conB_walk (cc := c - a) _ R2 false hz)
        clear ho hrs bel hrl hsc hz R2
        go_wp2_with (go_at_call 62; refine HC.out.mono ?_; rintro e w2 ⟨rfl, hw2⟩; obtain rfl := hw2.symm; clear hw2)
        all_goals go_ret3
        all_goals exact ScanP.none HD.out rfl HG.out.2.2.1
theorem scan_walk {w : World} {A : Option Addr} {n c : Nat} {p : List Int} (h : Rd1 w A n (u8s p)) (hb : isB p) (hnc : n ≤ c) (hc6 : c ≤ 9223372036854775807) : Calls Try.prog 51 #[.slice A n c] w (ScanP w (scanS p)) := by
  have hl : p.length = n := by simpa using h.1
  by_cases hn : n = 256
  · subst hn
    obtain ⟨ad, rfl, _⟩ := h.at2 (k := 0) (by omega)
    match p, h, hb, hl with
    | k :: t, h, hb, _ =>
      have hk := hb k (by simp)
      obtain ⟨k, rfl⟩ : ∃ j : Nat, k = j := ⟨k.toNat, by omega⟩
      by_cases h1 : k < 128
      · exact scan_ok h hb h1 hnc hc6
      · exact scan_many h (by omega) (by omega)
  · exact scan_len hl hn
end Go.Proofs.Ytkbapoeilcapfaa

/- pages, plainly: what bytes are a page of rows. -/
namespace Go.Proofs.Ytkbapoeilcapfaa
open Go.RowKit
set_option linter.unusedVariables false
set_option linter.unusedSimpArgs false

def flat (rows : List (List V)) : List Int := rows.flatMap encR
def usedN (rows : List (List V)) : Nat := 1 + (flat rows).length + 2 * rows.length
def offAt (rows : List (List V)) (i : Nat) : Nat := 1 + (flat (rows.take i)).length
/-- p is the page of rows. -/
structure PG (p : List Int) (rows : List (List V)) : Prop where
  len : p.length = 256
  fit : usedN rows ≤ 256
  head : p.take (1 + (flat rows).length) = (rows.length : Int) :: flat rows
  zero : ∀ j, 1 + (flat rows).length ≤ j → j < 256 - 2 * rows.length → p.getD j 0 = 0
  slot : ∀ i, i < rows.length → p.getD (256 - 2 * (i + 1)) 0 = ((offAt rows i / 256 : Nat) : Int) ∧ p.getD (256 - 2 * (i + 1) + 1) 0 = ((offAt rows i % 256 : Nat) : Int)
theorem flat_append (a b : List (List V)) : flat (a ++ b) = flat a ++ flat b := by simp [flat]
theorem flat_cons (r : List V) (b : List (List V)) : flat (r :: b) = encR r ++ flat b := by simp [flat]
theorem getD_take {p : List Int} {n j : Nat} (h : j < n) : (p.take n).getD j 0 = p.getD j 0 := by
  rw [List.getD_eq_getElem?_getD, List.getD_eq_getElem?_getD, List.getElem?_take_of_lt h]
theorem getD_drop (p : List Int) (n j : Nat) : (p.drop n).getD j 0 = p.getD (n + j) 0 := by
  rw [List.getD_eq_getElem?_getD, List.getD_eq_getElem?_getD, List.getElem?_drop]
theorem ext_getD {p q : List Int} (hl : p.length = q.length) (h : ∀ j, j < p.length → p.getD j 0 = q.getD j 0) : p = q := by
  refine List.ext_getElem hl fun j h1 h2 => ?_
  have := h j h1
  rwa [List.getD_eq_getElem?_getD, List.getD_eq_getElem?_getD, List.getElem?_eq_getElem h1, List.getElem?_eq_getElem h2] at this
theorem PG.unique {p q : List Int} {rows : List (List V)} (hp : PG p rows) (hq : PG q rows) : p = q := by
  refine ext_getD (by rw [hp.len, hq.len]) fun j hj => ?_
  rw [hp.len] at hj
  have hu := hp.fit
  unfold usedN at hu
  by_cases h1 : j < 1 + (flat rows).length
  · rw [← getD_take (p := p) h1, ← getD_take (p := q) h1, hp.head, hq.head]
  · by_cases h2 : j < 256 - 2 * rows.length
    · rw [hp.zero j (by omega) h2, hq.zero j (by omega) h2]
    · obtain ⟨i, hi, hj2⟩ : ∃ i, i < rows.length ∧ (j = 256 - 2 * (i + 1) ∨ j = 256 - 2 * (i + 1) + 1) := ⟨(255 - j) / 2, by omega, by omega⟩
      rcases hj2 with rfl | rfl
      · rw [(hp.slot i hi).1, (hq.slot i hi).1]
      · rw [(hp.slot i hi).2, (hq.slot i hi).2]
theorem all_isZ {l : List Int} : l.all isZ = true ↔ ∀ j, l.getD j 0 = 0 := by
  rw [List.all_eq_true]
  constructor
  · intro h j
    rcases Nat.lt_or_ge j l.length with hl | hl
    · rw [List.getD_eq_getElem?_getD, List.getElem?_eq_getElem hl]
      exact of_decide_eq_true (h _ (List.getElem_mem hl))
    · rw [List.getD_eq_getElem?_getD, List.getElem?_eq_none hl]
      rfl
  · intro h x hx
    obtain ⟨j, hj, rfl⟩ := List.getElem_of_mem hx
    have := h j
    rw [List.getD_eq_getElem?_getD, List.getElem?_eq_getElem hj] at this
    exact decide_eq_true this
theorem take_split {l x : List Int} {m n : Nat} (h : l.take m = x) (hx : x.length = m) (hmn : m ≤ n) : l.take n = x ++ (l.drop m).take (n - m) := by
  have : n = m + (n - m) := by omega
  rw [this, List.take_add, h]
  congr 2
  omega
theorem take_flat_step {p : List Int} {a : Nat} {r : List V} {rs : List (List V)} (h : (p.drop a).take (flat (r :: rs)).length = flat (r :: rs)) : (p.drop a).take (encR r).length = encR r ∧ (p.drop (a + (encR r).length)).take (flat rs).length = flat rs := by
  rw [flat_cons, List.length_append] at h
  constructor
  · have := congrArg (List.take (encR r).length) h
    rwa [List.take_take, Nat.min_eq_left (by omega), List.take_left] at this
  · have := congrArg (List.drop (encR r).length) h
    rwa [List.drop_left, List.drop_take, List.drop_drop, Nat.add_sub_cancel_left] at this
theorem scanA_sound (p : List Int) (en : Nat) (hb : isB p) (hen : en ≤ p.length) : ∀ (k i a : Nat) (acc rows : List (List V)) (a' : Nat), a ≤ en → scanA p en k i a acc = some (rows, a') →
    ∃ rs, rows = acc ++ rs ∧ rs.length = k ∧ (∀ r ∈ rs, rowOk r = true) ∧ a' = a + (flat rs).length ∧ a' ≤ en ∧ (p.drop a).take (flat rs).length = flat rs ∧ (∀ j, j < k → startS p (i + j) = ((a + (flat (rs.take j)).length : Nat) : Int)) ∧ ((p.drop a').take (en - a')).all isZ = true
  | 0, i, a, acc, rows, a', ha, h => by
    unfold scanA at h
    split at h
    · next hz =>
      simp only [Option.some.injEq, Prod.mk.injEq] at h
      obtain ⟨rfl, rfl⟩ := h
      exact ⟨[], by simp, rfl, by simp, by simp [flat], ha, by simp [flat], fun j hj => absurd hj (by omega), hz⟩
    · cases h
  | k + 1, i, a, acc, rows, a', ha, h => by
    rw [scanA_succ] at h
    split at h
    · cases h
    · next r m e =>
      obtain ⟨h1, h2, h3, h4⟩ := decR_sound ((hb.drop a).take _) e
      rw [List.length_take, List.length_drop] at h4
      split at h
      · next hs =>
        obtain ⟨rs, e1, e2, e3, e4, e5, e6, e7, e8⟩ := scanA_sound p en hb hen k (i + 1) (a + m) _ rows a' (by omega) h
        have hm : (p.drop a).take m = encR r := by
          rw [← h2, List.take_take, Nat.min_eq_left (by omega)]
        refine ⟨r :: rs, by simp [e1], by simp [e2], ?_, by rw [flat_cons, List.length_append]; omega, e5, ?_, ?_, e8⟩
        · intro s hs
          rcases List.mem_cons.1 hs with rfl | hs
          · exact h1
          · exact e3 s hs
        · rw [flat_cons, List.length_append, take_split hm h3.symm (by omega), List.drop_drop, ← h3, Nat.add_sub_cancel_left, e6]
        · intro j hj
          rcases j with _ | j
          · simpa [flat] using hs
          · have := e7 j (by omega)
            rw [show i + (j + 1) = i + 1 + j by omega, this, List.take_succ_cons, flat_cons, List.length_append]
            omega
      · cases h
theorem scanA_compl (p : List Int) (en : Nat) (hen : en ≤ p.length) : ∀ (rs : List (List V)) (i a : Nat) (acc : List (List V)), (∀ r ∈ rs, rowOk r = true) → a + (flat rs).length ≤ en → (p.drop a).take (flat rs).length = flat rs → (∀ j, j < rs.length → startS p (i + j) = ((a + (flat (rs.take j)).length : Nat) : Int)) →
    ((p.drop (a + (flat rs).length)).take (en - (a + (flat rs).length))).all isZ = true → scanA p en rs.length i a acc = some (acc ++ rs, a + (flat rs).length)
  | [], i, a, acc, _, _, _, _, hz => by
    simp only [flat, List.flatMap_nil, List.length_nil, Nat.add_zero] at hz ⊢
    unfold scanA
    rw [if_pos hz, List.append_nil]
  | r :: rs, i, a, acc, hok, hle, htk, hst, hz => by
    obtain ⟨h1, h2⟩ := take_flat_step htk
    rw [flat_cons, List.length_append] at hle hz ⊢
    have hd : decR ((p.drop a).take (en - a)) = some (r, (encR r).length) := by
      rw [take_split h1 rfl (by omega)]
      exact decR_enc r (hok r (by simp)) _
    show scanA p en (rs.length + 1) i a acc = _
    rw [scanA_succ, hd]
    have h0 := hst 0 (by simp)
    simp only [flat, List.take_zero, List.flatMap_nil, List.length_nil, Nat.add_zero] at h0
    dsimp only
    rw [if_pos h0, scanA_compl p en hen rs (i + 1) (a + (encR r).length) _ (fun s hs => hok s (by simp [hs])) (by omega) h2 ?_ (by rw [Nat.add_assoc]; exact hz)]
    · simp
      omega
    · intro j hj
      have := hst (j + 1) (by simp; omega)
      rw [show i + 1 + j = i + (j + 1) by omega, this, List.take_succ_cons, flat_cons, List.length_append]
      omega
theorem startS_iff {p : List Int} (hb : isB p) (i a : Nat) (ha : a < 65536) : startS p i = (a : Int) ↔ (p.getD (256 - 2 * (i + 1)) 0 = ((a / 256 : Nat) : Int) ∧ p.getD (256 - 2 * (i + 1) + 1) 0 = ((a % 256 : Nat) : Int)) := by
  have h0 := getD_isB hb (256 - 2 * (i + 1))
  have h1 := getD_isB hb (256 - 2 * (i + 1) + 1)
  unfold startS
  omega
theorem head_of {p : List Int} (h : 0 < p.length) : p.take 1 = [p.getD 0 0] := by
  cases p with
  | nil => simp at h
  | cons x t => rfl
theorem scanS_sound {p : List Int} (hb : isB p) {rows : List (List V)} {a : Nat} (h : scanS p = some (rows, a)) : PG p rows ∧ (∀ r ∈ rows, rowOk r = true) ∧ a = 1 + (flat rows).length := by
  unfold scanS at h
  split at h
  · next hc =>
    obtain ⟨hl, hk⟩ := hc
    obtain ⟨k, hkk⟩ : ∃ k, k = (p.getD 0 0).toNat := ⟨_, rfl⟩
    have h0 := getD_isB hb 0
    rw [← hkk] at h hk
    have hp0 : p.getD 0 0 = (k : Int) := by omega
    obtain ⟨rs, e1, e2, e3, e4, e5, e6, e7, e8⟩ := scanA_sound p (256 - 2 * k) hb (by omega) k 0 1 [] rows a (by omega) h
    obtain rfl : rows = rs := by simpa using e1
    subst e2
    refine ⟨⟨hl, by unfold usedN; omega, ?_, ?_, ?_⟩, e3, e4⟩
    · rw [List.take_add, e6, head_of (by omega), hp0]
      rfl
    · intro j h1 h2
      have := all_isZ.1 e8 (j - a)
      rw [getD_take (by omega), getD_drop] at this
      rwa [show a + (j - a) = j by omega] at this
    · intro i hi
      have := e7 i hi
      rw [Nat.zero_add] at this
      have hle : (flat (rows.take i)).length ≤ (flat rows).length := by
        conv => rhs; rw [← List.take_append_drop i rows, flat_append, List.length_append]
        omega
      exact (startS_iff hb i (offAt rows i) (by unfold offAt; omega)).1 this
  · cases h
theorem offAt_le {rows : List (List V)} (i : Nat) : offAt rows i ≤ 1 + (flat rows).length := by
  unfold offAt
  conv => rhs; rw [← List.take_append_drop i rows, flat_append, List.length_append]
  omega
theorem PG.p0 {p : List Int} {rows : List (List V)} (h : PG p rows) : p.getD 0 0 = (rows.length : Int) := by
  have := congrArg (fun l => l.getD 0 0) h.head
  rw [getD_take (by omega)] at this
  exact this
theorem PG.flat_ {p : List Int} {rows : List (List V)} (h : PG p rows) : (p.drop 1).take (flat rows).length = flat rows := by
  have := congrArg (List.drop 1) h.head
  rw [List.drop_take] at this
  simpa using this
theorem scanS_compl {p : List Int} (hb : isB p) {rows : List (List V)} (hp : PG p rows) (hok : ∀ r ∈ rows, rowOk r = true) : scanS p = some (rows, 1 + (flat rows).length) := by
  have hu := hp.fit
  unfold usedN at hu
  have hk : (p.getD 0 0).toNat = rows.length := by rw [hp.p0]; simp
  unfold scanS
  rw [hk, if_pos ⟨hp.len, by omega⟩, scanA_compl p (256 - 2 * rows.length) (by rw [hp.len]; omega) rows 0 1 [] hok (by omega) hp.flat_]
  · rfl
  · intro j hj
    rw [Nat.zero_add]
    have := offAt_le (rows := rows) j
    exact (startS_iff hb j (offAt rows j) (by omega)).2 (hp.slot j hj)
  · rw [all_isZ]
    intro j
    by_cases hj : j < 256 - 2 * rows.length - (1 + (flat rows).length)
    · rw [getD_take hj, getD_drop]
      exact hp.zero _ (by omega) (by omega)
    · rw [List.getD_eq_getElem?_getD, List.getElem?_eq_none (by rw [List.length_take]; omega)]
      rfl
theorem PG.rows_unique {p : List Int} (hb : isB p) {r1 r2 : List (List V)} (h1 : PG p r1) (h2 : PG p r2) (o1 : ∀ r ∈ r1, rowOk r = true) (o2 : ∀ r ∈ r2, rowOk r = true) : r1 = r2 := by
  have a := scanS_compl hb h1 o1
  rw [scanS_compl hb h2 o2] at a
  simp only [Option.some.injEq, Prod.mk.injEq] at a
  exact a.1.symm
theorem PG.nil : PG (List.replicate 256 0) [] := by
  refine ⟨List.length_replicate, by decide, rfl, ?_, fun i hi => absurd hi (Nat.not_lt_zero i)⟩
  intro j _ _
  rw [List.getD_eq_getElem?_getD, List.getElem?_replicate]
  split <;> rfl
/-- A row behind all. -/
def addP (p : List Int) (a : Nat) (e : List Int) : List Int :=
  (((p.set 0 (p.getD 0 0 + 1)).take a ++ e ++ (p.drop (a + e.length))).set (256 - 2 * (p.getD 0 0).toNat - 2) ((a / 256 : Nat) : Int)).set (256 - 2 * (p.getD 0 0).toNat - 2 + 1) ((a % 256 : Nat) : Int)
theorem getD_set (l : List Int) (i j : Nat) (x : Int) : (l.set i x).getD j 0 = if i = j ∧ j < l.length then x else l.getD j 0 := by
  rw [List.getD_eq_getElem?_getD, List.getElem?_set, List.getD_eq_getElem?_getD]
  by_cases h : i = j
  · subst h
    by_cases h2 : i < l.length
    · simp [h2]
    · simp [h2]
  · simp [h]
theorem PG.add {p : List Int} {rows : List (List V)} (hp : PG p rows) (r : List V) (hf : usedN (rows ++ [r]) ≤ 256) : PG (addP p (1 + (flat rows).length) (encR r)) (rows ++ [r]) := by
  have hfl : flat (rows ++ [r]) = flat rows ++ encR r := by rw [flat_append]; simp [flat]
  have hu := hf
  unfold usedN at hu
  rw [hfl, List.length_append, List.length_append] at hu
  simp only [List.length_cons, List.length_nil] at hu
  have hk : (p.getD 0 0).toNat = rows.length := by rw [hp.p0]; simp
  obtain ⟨a, ha⟩ : ∃ a, a = 1 + (flat rows).length := ⟨_, rfl⟩
  obtain ⟨n, hn⟩ : ∃ n, n = (encR r).length := ⟨_, rfl⟩
  have hl0 : ((p.set 0 (p.getD 0 0 + 1)).take a).length = a := by rw [List.length_take, List.length_set, hp.len]; omega
  obtain ⟨q, hq⟩ : ∃ q, q = (p.set 0 (p.getD 0 0 + 1)).take a ++ encR r ++ (p.drop (a + n)) := ⟨_, rfl⟩
  have hql : q.length = 256 := by rw [hq, List.length_append, List.length_append, hl0, List.length_drop, hp.len]; omega
  have hqt : q.take (a + n) = (p.set 0 (p.getD 0 0 + 1)).take a ++ encR r := by
    rw [hq]
    exact List.take_left' (by rw [List.length_append, hl0, hn])
  have hqd : ∀ j, a + n ≤ j → q.getD j 0 = p.getD j 0 := by
    intro j hj
    have : q.drop (a + n) = p.drop (a + n) := by
      rw [hq]
      exact List.drop_left' (by rw [List.length_append, hl0, hn])
    have h2 := congrArg (fun l => l.getD (j - (a + n)) 0) this
    simp only [getD_drop] at h2
    rwa [show a + n + (j - (a + n)) = j by omega] at h2
  have hh : (p.set 0 (p.getD 0 0 + 1)).take a = ((rows.length + 1 : Nat) : Int) :: flat rows := by
    have h1 := hp.head
    rw [← ha] at h1
    rw [List.take_set, h1, hp.p0]
    rfl
  unfold addP
  rw [← ha, ← hn, ← hq, hk]
  obtain ⟨s, hs⟩ : ∃ s, s = 256 - 2 * rows.length - 2 := ⟨_, rfl⟩
  rw [← hs]
  have hrl : (rows ++ [r]).length = rows.length + 1 := by simp
  refine ⟨by simp [hql], hf, ?_, ?_, ?_⟩
  · rw [hfl, List.length_append, hrl, show 1 + ((flat rows).length + (encR r).length) = a + n by omega, List.take_set_of_le (by omega), List.take_set_of_le (by omega), hqt, hh]
    rfl
  · intro j h1 h2
    rw [hfl, List.length_append] at h1
    rw [hrl] at h2
    rw [getD_set, if_neg (by omega), getD_set, if_neg (by omega), hqd j (by omega)]
    exact hp.zero j (by omega) (by omega)
  · intro i hi
    rw [hrl] at hi
    rw [getD_set, getD_set, getD_set, getD_set, List.length_set, hql]
    by_cases hik : i < rows.length
    · have ho : offAt (rows ++ [r]) i = offAt rows i := by
        unfold offAt
        rw [List.take_append_of_le_length (by omega)]
      rw [if_neg (by omega), if_neg (by omega), if_neg (by omega), if_neg (by omega), hqd _ (by omega), hqd _ (by omega), ho]
      exact hp.slot i hik
    · obtain rfl : i = rows.length := by omega
      have ho : offAt (rows ++ [r]) rows.length = a := by
        unfold offAt
        rw [List.take_left, ha]
      rw [if_neg (by omega), if_pos (by omega), if_pos (by omega), ho]
      exact ⟨rfl, rfl⟩
end Go.Proofs.Ytkbapoeilcapfaa

/- page.Check, Count, Rows, Get, Room, New, fits. -/
namespace Go.Proofs.Ytkbapoeilcapfaa
open Go.RowKit
set_option linter.unusedVariables false
set_option linter.unusedSimpArgs false

/-- Bytes that are read. -/
structure RdB (w : World) (A : Option Addr) (n c : Nat) (p : List Int) : Prop where
  rd : Rd1 w A n (u8s p)
  isb : isB p
  cap : n ≤ c
  c64 : c ≤ 9223372036854775807
theorem RdB.below {w w' : World} {A : Option Addr} {n c : Nat} {p : List Int} (h : RdB w A n c p) (b : Below w.heap.size w w') : RdB w' A n c p := ⟨h.rd.below b, h.isb, h.cap, h.c64⟩
theorem RdB.turn {S : Nat → Prop} {w w' : World} {A : Option Addr} {n c : Nat} {p : List Int} (h : RdB w A n c p) (ht : Turn S w w') (hs : ∀ ad, A = some ad → ¬ S ad.block) : RdB w' A n c p := ⟨h.rd.turn ht hs, h.isb, h.cap, h.c64⟩
theorem rowOk_mem {r : List V} (h : rowOk r = true) {v : V} (hv : v ∈ r) : vOk v = true := by
  unfold rowOk at h
  simp only [Bool.and_eq_true, List.all_eq_true] at h
  exact h.2 v hv
theorem vOk_size {v : V} (h : vOk v = true) : v.s.size ≤ 9223372036854775807 := by
  unfold vOk at h
  have h := of_decide_eq_true h
  omega
section
variable {w : World} {A : Option Addr} {n c : Nat} {p : List Int}
theorem scan_none (h : RdB w A n c p) (hs : scanS p = none) : Calls Try.prog 51 #[.slice A n c] w fun e w' => e = .returned (.tuple #[.slice none 0 0, .int .i64 0, .int .i64 40]) ∧ Below w.heap.size w w' := by
  refine (scan_walk h.rd h.isb h.cap h.c64).mono ?_
  intro e w' H
  unfold ScanP at H
  rw [hs] at H
  exact H
theorem scan_some (h : RdB w A n c p) {rows : List (List V)} {a : Nat} (hs : scanS p = some (rows, a)) : Calls Try.prog 51 #[.slice A n c] w fun e w' => ∃ B c' hds, e = .returned (.tuple #[.slice B rows.length c', .int .i64 a, .int .i64 0]) ∧ w'.ownsRow w.heap.size 22 1 (.slice B rows.length c') rows.length hds ∧ OwnRs w' w.heap.size hds rows ∧ Below w.heap.size w w' := by
  refine (scan_walk h.rd h.isb h.cap h.c64).mono ?_
  intro e w' H
  unfold ScanP at H
  rw [hs] at H
  obtain ⟨⟨B, c', hds, h1, h2, h3⟩, h4⟩ := H
  exact ⟨B, c', hds, h1, h2, h3, h4⟩
theorem pcount_no (h : RdB w A n c p) (hs : scanS p = none) : Calls Try.prog 44 #[.slice A n c] w fun e w' => e = .returned (.int .i64 0) ∧ Below w.heap.size w w' := by
  have H := Lib.hid (scan_none h hs)
  clear h hs
  go_enter Try.func44, Try.ntmps44
  go_wp2_with (go_at_call 51; refine H.out.mono ?_; rintro e w1 ⟨rfl, b1⟩)
  go_ret
  exact ⟨by trivial, b1⟩
theorem pcount_yes (h : RdB w A n c p) {rows : List (List V)} {a : Nat} (hs : scanS p = some (rows, a)) : Calls Try.prog 44 #[.slice A n c] w fun e w' => e = .returned (.int .i64 rows.length) ∧ Below w.heap.size w w' := by
  have H := Lib.hid (scan_some h hs)
  clear h hs
  go_enter Try.func44, Try.ntmps44
  go_wp2_with (go_at_call 51; refine H.out.mono ?_; rintro e w1 ⟨B, c', hds, rfl, _, _, b1⟩)
  go_ret
  exact ⟨by trivial, b1⟩
theorem prows_no (h : RdB w A n c p) (hs : scanS p = none) : Calls Try.prog 47 #[.slice A n c] w fun e w' => e = .returned (.tuple #[.slice none 0 0, .int .i64 40]) ∧ Below w.heap.size w w' := by
  have H := Lib.hid (scan_none h hs)
  clear h hs
  go_enter Try.func47, Try.ntmps47
  go_wp2_with (go_at_call 51; refine H.out.mono ?_; rintro e w1 ⟨rfl, b1⟩)
  go_ret2
  exact ⟨by trivial, b1⟩
theorem prows_yes (h : RdB w A n c p) {rows : List (List V)} {a : Nat} (hs : scanS p = some (rows, a)) : Calls Try.prog 47 #[.slice A n c] w fun e w' => ∃ B c' hds, e = .returned (.tuple #[.slice B rows.length c', .int .i64 0]) ∧ w'.ownsRow w.heap.size 22 1 (.slice B rows.length c') rows.length hds ∧ OwnRs w' w.heap.size hds rows ∧ Below w.heap.size w w' := by
  have H := Lib.hid (scan_some h hs)
  clear h hs
  go_enter Try.func47, Try.ntmps47
  go_wp2_with (go_at_call 51; refine H.out.mono ?_; rintro e w1 ⟨B, c', hds, rfl, h1, h2, b1⟩; have G := Lib.hid (And.intro h1 (And.intro h2 b1)); clear h1 h2 b1)
  go_ret2
  exact ⟨_, _, _, by trivial, G.out⟩
end
end Go.Proofs.Ytkbapoeilcapfaa

/- page.New, Room, fits, Clone. -/
namespace Go.Proofs.Ytkbapoeilcapfaa
open Go.RowKit
set_option linter.unusedVariables false
set_option linter.unusedSimpArgs false

set_option maxRecDepth 6000 in
theorem pnew (w : World) : Calls Try.prog 36 #[] w fun e w' => e = .returned (.slice (some ⟨w.heap.size, 0, none⟩) 256 256) ∧ w'.heap[w.heap.size]? = some (.cells (u8s (List.replicate 256 0)).toArray 5 (0, 0)) ∧ Below w.heap.size w w' := by
  have info8 := info_u8
  go_enter Try.func36, Try.ntmps36
  go_wp2_with (at_make; refine wp_makeN rfl (.const (.int .i64 256)) 57 5 (.int .u8 0) 1 rfl Try.underlying57 info8 rfl 256 rfl (by omega) (by omega) ?_)
  go_ret
  refine ⟨rfl, ?_, (Below.refl _ _).alloc (Nat.le_refl _) _⟩
  rw [heap_alloc_new, u8s, List.map_replicate]
  rfl
section
variable {w : World} {A C : Option Addr} {n c m cc : Nat} {p : List Int} {r : List V}
theorem fits_bad (hr : RdV w C m r) (hk : rowOk r = false) : Calls Try.prog 52 #[.slice C m cc] w fun e w' => e = .returned (.tuple #[.slice none 0 0, .int .i64 20]) ∧ Below w.heap.size w w' := by
  have H := Lib.hid (rput_bad (c := cc) r hr hk)
  clear hr hk
  go_enter Try.func52, Try.ntmps52
  go_wp2_with (go_at_call 64; refine H.out.mono ?_; rintro e w1 ⟨rfl, b1⟩)
  go_ret2
  exact ⟨by trivial, b1⟩
theorem fits_long (hr : RdV w C m r) (hk : rowOk r = true) (hl : 253 < (encR r).length) : Calls Try.prog 52 #[.slice C m cc] w fun e w' => e = .returned (.tuple #[.slice none 0 0, .int .i64 3]) ∧ Below w.heap.size w w' := by
  have H := rput_ok (c := cc) r hr hk
  obtain ⟨k, hkk⟩ : ∃ k, k = (encR r).length := ⟨_, rfl⟩
  rw [← hkk] at H hl
  have H := Lib.hid H
  clear hr hk hkk
  go_enter Try.func52, Try.ntmps52
  go_wp2_with (go_at_call 64; refine H.out.mono ?_; rintro e w1 ⟨v, rfl, ho, b1⟩; obtain ⟨B, c', rfl⟩ := own_slice ho; clear ho)
  go_ret2
  exact ⟨by trivial, b1⟩
theorem fits_ok (hr : RdV w C m r) (hk : rowOk r = true) (hl : (encR r).length ≤ 253) : Calls Try.prog 52 #[.slice C m cc] w fun e w' => ∃ B c', e = .returned (.tuple #[.slice B (encR r).length c', .int .i64 0]) ∧ w'.ownsRow w.heap.size 5 1 (.slice B (encR r).length c') (encR r).length (u8s (encR r)) ∧ Below w.heap.size w w' := by
  have H := rput_ok (c := cc) r hr hk
  obtain ⟨E, hE⟩ : ∃ E, E = encR r := ⟨_, rfl⟩
  obtain ⟨k, hkk⟩ : ∃ k, k = E.length := ⟨_, rfl⟩
  rw [← hE, ← hkk] at H hl ⊢
  have H := Lib.hid H
  clear hr hk hkk hE
  go_enter Try.func52, Try.ntmps52
  go_wp2_with (go_at_call 64; refine H.out.mono ?_; rintro e w1 ⟨v, rfl, ho, b1⟩; obtain ⟨B, c', rfl⟩ := own_slice ho; have G := Lib.hid (And.intro ho b1); clear ho b1)
  go_ret2
  exact ⟨_, _, by trivial, G.out⟩
theorem scanS_len {p : List Int} {x : List (List V) × Nat} (h : scanS p = some x) : p.length = 256 := by
  unfold scanS at h
  split at h
  · next hc => exact hc.1
  · cases h
def roomN (rows : List (List V)) : Nat := 256 - 2 * (rows.length + 1) - (1 + (flat rows).length)
set_option maxRecDepth 6000 in
theorem pclone {w : World} {ad : Addr} (h : RdB w (some ad) n c p) (hn : n ≤ 100000) : Calls Try.prog 53 #[.slice (some ad) n c] w fun e w' => ∃ v, e = .returned v ∧ w'.ownsRow w.heap.size 5 1 v n (u8s p) ∧ Below w.heap.size w w' := by
  have b0 : Below w.heap.size w (w.alloc (.cells #[] 5)) := (Below.refl _ _).alloc (Nat.le_refl _) _
  have ho := World.ownsRow_lit (base := w.heap.size) (e := 5) (size := 1) w #[] 0 (Nat.le_refl _) (by simp [maxLen]) (by simp)
  have hrd := h.rd.below b0
  have hl : p.length = n := by simpa using h.rd.1
  have HR := Lib.hid (And.intro ho (And.intro hrd (And.intro hl b0)))
  have hcmp := fun (t : TypeId) (h : Try.prog.underlying t = some (.slice 5)) => Go.Lib.run_eql_slice_nil (P := Try.prog) w t 5 (some ad) n c 0 0 h
  have hcmp := hcmp 57 Try.underlying57
  clear h b0 ho hrd hl
  go_enter Try.func53, Try.ntmps53
  go_wp2_with (at_builtin; refine wp_appendL w.heap.size rfl (.tmp 5) (.tmp 6) 57 5 (.int .u8 0) 1 1 rfl Try.underlying57 info_u8 rfl (by omega) (by omega) (.slice (some ⟨w.heap.size, 0, none⟩) 0 0) 0 [] rfl (some ad) n c (u8s p) rfl (by simp [HR.out.2.2.1]) (fun h => by obtain ⟨ad, e, _, hc⟩ := HR.out.2.1.2.2 h; exact ⟨ad, e, hc⟩) (by intro u hu; obtain ⟨x, _, rfl⟩ := List.mem_map.1 hu; rfl) HR.out.1 (by simp) (by omega) ?_; intro v1 w1 h1 t1 _)
  go_ret
  exact ⟨_, rfl, by simpa using h1, below_turn HR.out.2.2.2 t1 (by simp) (fun k hk => by simp [Value.ownBlock] at hk; omega)⟩
end
end Go.Proofs.Ytkbapoeilcapfaa
namespace Go.Proofs.Ytkbapoeilcapfaa
open Go.RowKit
set_option linter.unusedVariables false
set_option linter.unusedSimpArgs false

def AddPost (w : World) (p : List Int) (rows : List (List V)) (r : List V) (e : Ending) (w' : World) : Prop :=
  (if rowOk r = false then e = .returned (.tuple #[.slice none 0 0, .int .i64 20])
   else if 253 < (encR r).length then e = .returned (.tuple #[.slice none 0 0, .int .i64 3])
   else if 256 < usedN (rows ++ [r]) then e = .returned (.tuple #[.slice none 0 0, .int .i64 2])
   else ∃ ad c, e = .returned (.tuple #[.slice (some ad) 256 c, .int .i64 0]) ∧ w'.ownsRow w.heap.size 5 1 (.slice (some ad) 256 c) 256 (u8s (addP p (1 + (flat rows).length) (encR r)))) ∧ Below w.heap.size w w'
section
variable {w : World} {ad : Addr} {C : Option Addr} {c m cc : Nat} {p : List Int} {rows : List (List V)} {r : List V}
theorem add_err (h : RdB w (some ad) 256 c p) (hp : PG p rows) (hok : ∀ r ∈ rows, rowOk r = true) {E : Int} (hE : E ≠ 0)
    (hf : ∀ w1, Below w.heap.size w w1 → Calls Try.prog 52 #[.slice C m cc] w1 fun e w' => e = .returned (.tuple #[.slice none 0 0, .int .i64 E]) ∧ Below w1.heap.size w1 w') :
    Calls Try.prog 32 #[.slice (some ad) 256 c, .slice C m cc] w fun e w' => e = .returned (.tuple #[.slice none 0 0, .int .i64 E]) ∧ Below w.heap.size w w' := by
  have H := Lib.hid (scan_some h (scanS_compl h.isb hp hok))
  have HF := Lib.hid hf
  have hE2 : (E != 0) = true := by simpa using hE
  clear h hp hok hf
  go_enter Try.func32, Try.ntmps32
  go_wp2_with (first
    | (go_at_call 51; refine H.out.mono ?_; rintro e w1 ⟨B, c', hds, rfl, _, _, b1⟩)
    | (go_at_call 52; refine (HF.out _ b1).mono ?_; rintro e w2 ⟨rfl, b2⟩))
  go_ret2
  exact ⟨by trivial, b1.trans (b2.mono b1.size)⟩
set_option maxRecDepth 6000 in
theorem add_full (h : RdB w (some ad) 256 c p) (hp : PG p rows) (hok : ∀ r ∈ rows, rowOk r = true) (hr : RdV w C m r) (hk : rowOk r = true) (hl : (encR r).length ≤ 253) (hu : 256 < usedN (rows ++ [r])) :
    Calls Try.prog 32 #[.slice (some ad) 256 c, .slice C m cc] w fun e w' => e = .returned (.tuple #[.slice none 0 0, .int .i64 2]) ∧ Below w.heap.size w w' := by
  have H := scan_some h (scanS_compl h.isb hp hok)
  have hf := hp.fit
  unfold usedN at hu hf
  rw [flat_append, List.length_append, List.length_append] at hu
  have e1 : (flat [r]).length = (encR r).length := by simp [flat]
  rw [e1] at hu
  replace hu : 256 < (1 + (flat rows).length) + (encR r).length + 2 * (rows.length + 1) := by simp only [List.length_cons, List.length_nil] at hu; omega
  have HF := fun w1 (b : Below w.heap.size w w1) => fits_ok (cc := cc) (hr.below b) hk hl
  obtain ⟨E, hE⟩ : ∃ E, E = encR r := ⟨_, rfl⟩
  obtain ⟨a, ha⟩ : ∃ a, a = 1 + (flat rows).length := ⟨_, rfl⟩
  obtain ⟨k, hkk⟩ : ∃ k, k = rows.length := ⟨_, rfl⟩
  obtain ⟨n, hn⟩ : ∃ n, n = E.length := ⟨_, rfl⟩
  rw [← hE, ← hn] at HF
  rw [← hE, ← hn] at hl hu
  rw [← ha] at H hu hf
  rw [← hkk] at H hu hf
  have H := Lib.hid H
  have HF := Lib.hid HF
  have hd : ((256 : Int) - 2 * ((k : Int) + 1) < (a : Int) + n) := by omega
  have hk5 : ¬ ((255 : Int) ≤ k) := by omega
  clear h hp hok hr hk hE ha hkk hn e1
  go_enter Try.func32, Try.ntmps32
  go_wp2_with (first
    | (exfalso; omega)
    | (go_at_call 51; refine H.out.mono ?_; rintro e w1 ⟨B, c', hds, rfl, _, _, b1⟩)
    | (go_at_call 52; refine (HF.out _ b1).mono ?_; rintro e w2 ⟨D, cd, rfl, _, b2⟩))
  all_goals first
    | (exfalso; omega)
    | (go_ret2; exact ⟨by trivial, b1.trans (b2.mono b1.size)⟩)
theorem add_cells {L : List Value} {p E : List Int} {a k : Nat} (hL : L.take 256 = u8s p) (hp : p.getD 0 0 = (k : Int)) (ha : 1 ≤ a) (hfit : a + E.length + 2 * (k + 1) ≤ 256) :
    (((splice (L.set 0 (.int .u8 ((k : Int) + 1))) a (u8s E)).set (256 - 2 * (k + 1)) (.int .u8 ((a / 256 : Nat) : Int))).set (256 - 2 * (k + 1) + 1) (.int .u8 ((a % 256 : Nat) : Int))).take 256 = u8s (addP p a E) := by
  have hl : (u8s E).length = E.length := by simp
  have hsp : (splice (L.set 0 (.int .u8 ((k : Int) + 1))) a (u8s E)).take 256 = ((u8s p).set 0 (.int .u8 ((k : Int) + 1))).take a ++ u8s E ++ (u8s p).drop (a + E.length) := by
    unfold splice
    rw [← hL, hl, ← List.append_assoc]
    have e1 : ((L.set 0 (Value.int .u8 ((k : Int) + 1))).take a ++ u8s E) = (((L.take 256).set 0 (.int .u8 ((k : Int) + 1))).take a ++ u8s E) := by
      rw [← List.take_set, List.take_take, Nat.min_eq_left (by omega)]
    rcases Nat.lt_or_ge L.length a with hs | hs
    · have hd1 : (L.set 0 (Value.int .u8 ((k : Int) + 1))).drop (a + E.length) = [] := List.drop_eq_nil_iff.2 (by rw [List.length_set]; omega)
      have hd2 : (L.take 256).drop (a + E.length) = [] := List.drop_eq_nil_iff.2 (by rw [List.length_take]; omega)
      rw [hd1, hd2, e1, List.append_nil]
      refine List.take_of_length_le ?_
      rw [List.length_append, List.length_take, hl]
      omega
    · have hlen : ((L.set 0 (Value.int .u8 ((k : Int) + 1))).take a ++ u8s E).length = a + E.length := by
        rw [List.length_append, List.length_take, List.length_set, hl]
        omega
      rw [List.take_append, hlen, List.take_of_length_le (by rw [hlen]; omega), e1]
      congr 1
      rw [List.drop_set_of_lt (by omega), List.drop_take]
  rw [List.take_set, List.take_set, hsp]
  unfold addP
  rw [hp, Int.toNat_natCast]
  simp only [u8s, List.map_set, List.map_append, List.map_take, List.map_drop]
  rw [show 256 - 2 * k - 2 = 256 - 2 * (k + 1) by omega]
theorem own_block {w : World} {base n : Nat} {v : Value} {xs : List Value} (h : w.ownsRow base 5 1 v n xs) (h0 : 0 < n) : ∃ g L cap, v = .slice (some ⟨g, 0, none⟩) n cap ∧ base ≤ g ∧ w.heap[g]? = some (.cells (List.toArray L) 5 (0, 0)) ∧ n ≤ cap ∧ cap ≤ maxLen ∧ L.length = cap ∧ L.take n = xs := by
  rcases h.2 with ⟨rfl, h⟩ | ⟨g, cap, cur, rfl, h1, h2, h3, h4, h5, h6⟩
  · omega
  · exact ⟨g, cur.toList, cap, rfl, h1, by simpa using h2, h3, h4, by simpa using h5, by simpa using h6⟩
theorem take_get {L : List Value} {p : List Int} {N j : Nat} (h : L.take N = u8s p) (hj : j < N) (hp : p.length = N) : L[j]? = some (.int .u8 (p.getD j 0)) := by
  have : (L.take N)[j]? = L[j]? := List.getElem?_take_of_lt hj
  rw [← this, h]
  exact getD_map 0 (by omega)
theorem copy_src {w3 : World} {g n : Nat} {D : Option Addr} {E : List Int} (hD : Rd1 w3 D n (u8s E)) (hne : ∀ ad, D = some ad → ad.block ≠ g) (h0 : 0 < (u8s E).length) (v : Value) : ∃ ad, D = some ad ∧ ∀ j u, (u8s E)[j]? = some u → (w3.setCell ⟨g, 0, none⟩ v).cell? (ad.add j) = some u := by
  have t : Turn (fun i => i = g) w3 (w3.setCell ⟨g, 0, none⟩ v) := (Turn.refl (fun i => i = g) w3).setCell (.inl rfl) _
  obtain ⟨ad, rfl, _, hc⟩ := (hD.turn t hne).2.2 (by rw [← hD.1]; exact h0)
  exact ⟨ad, rfl, hc⟩
theorem cell_some {w : World} {g : Nat} {L : List Value} (hg : w.heap[g]? = some (.cells (List.toArray L) 5 (0, 0))) {j : Nat} (hj : j < L.length) : ∃ x, w.cell? ⟨g, j, none⟩ = some x := by
  refine ⟨L[j], ?_⟩
  rw [cell_of_blk hg j, List.getElem?_toArray, List.getElem?_eq_getElem hj]
theorem cell0_of {w : World} {g : Nat} {L : List Value} {p : List Int} {k : Int} (hg : w.heap[g]? = some (.cells (List.toArray L) 5 (0, 0))) (h : L.take 256 = u8s p) (hk : p.getD 0 0 = k) (hp : p.length = 256) : w.cell? ⟨g, 0, none⟩ = some (.int .u8 k) := by
  have h1 := cell_of_blk hg 0
  rw [h1, List.getElem?_toArray, take_get h (by omega) hp, hk]
set_option maxRecDepth 6000 in
set_option maxHeartbeats 400000 in
theorem add_ok (h : RdB w (some ad) 256 c p) (hp : PG p rows) (hok : ∀ r ∈ rows, rowOk r = true) (hr : RdV w C m r) (hk : rowOk r = true) (hl : (encR r).length ≤ 253) (hu : usedN (rows ++ [r]) ≤ 256) :
    Calls Try.prog 32 #[.slice (some ad) 256 c, .slice C m cc] w fun e w' => ∃ ad' c', e = .returned (.tuple #[.slice (some ad') 256 c', .int .i64 0]) ∧ w'.ownsRow w.heap.size 5 1 (.slice (some ad') 256 c') 256 (u8s (addP p (1 + (flat rows).length) (encR r))) ∧ Below w.heap.size w w' := by
  have H := scan_some h (scanS_compl h.isb hp hok)
  have hf := hp.fit
  unfold usedN at hu hf
  rw [flat_append, List.length_append, List.length_append] at hu
  have e1 : (flat [r]).length = (encR r).length := by simp [flat]
  rw [e1] at hu
  replace hu : (1 + (flat rows).length) + (encR r).length + 2 * (rows.length + 1) ≤ 256 := by simp only [List.length_cons, List.length_nil] at hu; omega
  have HF := fun w1 (b : Below w.heap.size w w1) => fits_ok (cc := cc) (hr.below b) hk hl
  have hp0 := hp.p0
  obtain ⟨E, hE⟩ : ∃ E, E = encR r := ⟨_, rfl⟩
  obtain ⟨a, ha⟩ : ∃ a, a = 1 + (flat rows).length := ⟨_, rfl⟩
  obtain ⟨k, hkk⟩ : ∃ k, k = rows.length := ⟨_, rfl⟩
  obtain ⟨n, hn⟩ : ∃ n, n = E.length := ⟨_, rfl⟩
  have ha1 : 1 ≤ a := by omega
  rw [← hE] at HF hu ⊢
  rw [← ha] at H hu ⊢
  rw [← hkk] at H hu hp0
  rw [← hn] at HF hu
  have H := Lib.hid H
  have HF := Lib.hid HF
  have HC := Lib.hid (fun w1 (b : Below w.heap.size w w1) => pclone (h.below b) (by omega))
  have HP := Lib.hid (And.intro hp0 (And.intro hn hp.len))
  have hw8 : IntKind.u8.wrap ((k : Int) + 1) = (k : Int) + 1 := u8_small (by omega) (by omega)
  obtain ⟨s, hs⟩ : ∃ s, s = 256 - 2 * (k + 1) := ⟨_, rfl⟩
  have hd : ¬ ((256 : Int) - 2 * ((k : Int) + 1) < (a : Int) + n) := by omega
  have hk5 : ¬ ((255 : Int) ≤ k) := by omega
  have hsI : (256 : Int) - 2 * ((k : Int) + 1) = s := by omega
  have HS := Lib.hid hs
  obtain ⟨s1, hs1⟩ : ∃ s1, s1 = s + 1 := ⟨_, rfl⟩
  have HS1 := Lib.hid hs1
  have hsI1 : (s : Int) + 1 = s1 := by omega
  have hs3 : s1 < 256 := by omega
  have han : a + n ≤ s := by omega
  have hs2 : s + 1 < 256 := by omega
  have hsk : s + 2 * (k + 1) = 256 := by omega
  have hx : IntKind.u8.wrap (a : Int) = a := u8_small (by omega) (by omega)
  have hy : (a : Int) / 256 = 0 := by omega
  clear hs1 h hp hok hr hk hE ha hkk hn e1 hp0 hs hf hl
  go_enter Try.func32, Try.ntmps32
  go_wp2_with (first
    | (exfalso; omega)
    | (go_at_call 51; refine H.out.mono ?_; rintro e w1 ⟨B, c', hds, rfl, _, _, b1⟩)
    | (go_at_call 52; refine (HF.out _ b1).mono ?_; rintro e w2 ⟨D, cd, rfl, hD, b2⟩; have HD := Lib.hid hD; have B2 := Lib.hid (b1.trans (b2.mono b1.size)); clear hD b2)
    | (go_at_call 53; refine (HC.out _ B2.out).mono ?_; go_loud (rintro e w3 ⟨v, rfl, hv, b3⟩); go_loud (obtain ⟨g, L, cap, rfl, hgB, hgH, hcap, hcm, hLl, hL⟩ := own_block hv (by omega)); go_loud (have B3 := Lib.hid (B2.out.trans (b3.mono B2.out.size))); go_loud (have HD3 := Lib.hid (own_below HD.out b3)); go_loud (have c0 : w3.cell? ⟨g, 0, none⟩ = some (.int .u8 k) := cell0_of hgH hL HP.out.1 HP.out.2.2); go_loud (have f0 := free_of_blk hgH 0); go_loud (have HG := Lib.hid (And.intro hgB (And.intro hgH (And.intro hLl hL)))); go_loud (have hca : ¬ cap = a := by omega); go_loud (clear hv b3 hgB hgH hLl hL))
    | ((with_reducible show wpList _ _ _ ({ dst := some 59, op := _, type := _, pos := _, after := _, guard := none } :: _) _ _); go_loud (refine wpList_copy_splice rfl (.tmp 57) (.tmp 58) 57 57 rfl 5 Try.underlying57 (by kernel_rfl) _ _ _ _ _ _ rfl rfl g a (L.set 0 (.int .u8 ((k : Int) + 1))) 5 (by have := blk_set HG.out.2.1 0 (.int .u8 ((k : Int) + 1)); rw [List.setIfInBounds_toArray] at this; exact this) (u8s E) (by rw [List.length_map, ← HP.out.2.1]; exact (Nat.min_eq_left (by omega)).symm) (fun h0 => ⟨by simp [Addr.add] <;> omega, copy_src (Rd1.of_own HD3.out).2 (fun ad' e => by have h1 := (HD.out.lt ad'.block (by rw [e]; simp [Value.ownBlock])).2; have h2 := HG.out.1; omega) h0 _⟩) (by rw [List.length_map, List.length_set, ← HP.out.2.1]; have := HG.out.2.2.1; omega) (by intro v hv; obtain ⟨x, _, rfl⟩ := List.mem_map.1 hv; rfl) w.heap.size w (B3.out.setCell (Nat.le_trans B2.out.size HG.out.1) _) (Nat.le_trans B2.out.size HG.out.1) ?_; intro w4 hg4 b4; have hlen : (splice (L.set 0 (.int .u8 ((k : Int) + 1))) a (u8s E)).length = cap := (length_splice _ _ _ (by rw [List.length_map, List.length_set, ← HP.out.2.1]; have := HG.out.2.2.1; omega)).trans (by rw [List.length_set]; exact HG.out.2.2.1); obtain ⟨x1, hx1⟩ := cell_some hg4.out (j := s) (by omega); obtain ⟨x2, hx2⟩ := cell_some hg4.out (j := s1) (by omega); have f1 := free_of_blk hg4.out s; have f2 := free_of_blk hg4.out s1; have B4 := Lib.hid b4; have HLEN := Lib.hid hlen; clear b4 hlen)))
  all_goals first
    | (exfalso; omega)
    | skip
  go_ret2
  have hw1 := blk_set (blk_set hg4.out s (.int .u8 0)) s1 (.int .u8 a)
  rw [List.setIfInBounds_toArray, List.setIfInBounds_toArray] at hw1
  have hgw : w.heap.size ≤ g := Nat.le_trans B2.out.size HG.out.1
  have hac := add_cells (a := a) (k := k) HG.out.2.2.2 HP.out.1 ha1 (by rw [← HP.out.2.1]; omega)
  rw [← HS.out, ← HS1.out, show a / 256 = 0 by omega, show a % 256 = a by omega] at hac
  have hl2 : (u8s (addP p a E)).length = 256 := by
    rw [← hac, List.length_take, List.length_set, List.length_set, HLEN.out]
    omega
  refine ⟨_, _, by trivial, ⟨by rw [hl2], .inr ⟨g, cap, _, rfl, hgw, hw1, hcap, hcm, ?_, hac⟩⟩, (B4.out.setCell hgw _).setCell hgw _⟩
  show (List.set _ _ _).toArray.size = _
  rw [List.size_toArray, List.length_set, List.length_set, HLEN.out, Nat.mul_one]
theorem add_walk (h : RdB w (some ad) 256 c p) (hp : PG p rows) (hok : ∀ r ∈ rows, rowOk r = true) (hr : RdV w C m r) : Calls Try.prog 32 #[.slice (some ad) 256 c, .slice C m cc] w (AddPost w p rows r) := by
  unfold AddPost
  by_cases hk : rowOk r = false
  · simp only [hk, if_true]
    exact add_err h hp hok (by decide) (fun w1 b => fits_bad (hr.below b) hk)
  · have hk : rowOk r = true := by simpa using hk
    simp only [hk, Bool.true_eq_false, if_false]
    by_cases hl : 253 < (encR r).length
    · simp only [hl, if_true]
      exact add_err h hp hok (by decide) (fun w1 b => fits_long (hr.below b) hk hl)
    · simp only [hl, if_false]
      by_cases hu : 256 < usedN (rows ++ [r])
      · simp only [hu, if_true]
        exact add_full h hp hok hr hk (by omega) hu
      · simp only [hu, if_false]
        refine (add_ok (cc := cc) h hp hok hr hk (by omega) (by omega)).mono ?_
        rintro e w' ⟨ad', c', h1, h2, h3⟩
        exact ⟨⟨ad', c', h1, h2⟩, h3⟩
end
end Go.Proofs.Ytkbapoeilcapfaa

/- the document's Used, May. -/
namespace Go.Proofs.Ytkbapoeilcapfaa
open Go.RowKit
set_option linter.unusedVariables false
set_option linter.unusedSimpArgs false

theorem flat_take {rows : List (List V)} {k : Nat} {r : List V} (h : rows[k]? = some r) : flat (rows.take (k + 1)) = flat (rows.take k) ++ encR r := by
  obtain ⟨hl, e⟩ := List.getElem?_eq_some_iff.1 h
  rw [List.take_succ_eq_append_getElem hl, e, flat_append]
  simp [flat]
theorem encR_le (r : List V) (h : rowOk r = true) : (encR r).length ≤ 2113 := by
  unfold rowOk at h
  simp only [Bool.and_eq_true, decide_eq_true_eq] at h
  have := encs_length_le r h.2
  simp only [encR, List.length_cons]
  omega
theorem flat_le : ∀ (rows : List (List V)), (∀ r ∈ rows, rowOk r = true) → (flat rows).length ≤ rows.length * 2113
  | [], _ => by simp [flat]
  | r :: t, h => by
    have h1 := encR_le r (h r (by simp))
    have h2 := flat_le t (fun s hs => h s (by simp [hs]))
    rw [flat_cons, List.length_append, List.length_cons]
    omega
def mayE (r : List V) : Int := if rowOk r = false then 20 else if 253 < (encR r).length then 3 else 0
theorem may_walk {w : World} {A : Option Addr} {n c : Nat} {r : List V} (hr : RdV w A n r) :
    Calls Try.prog 19 #[.slice A n c] w fun e w' => e = .returned (.int .i64 (mayE r)) ∧ Below w.heap.size w w' := by
  have HC := rcheckRef (c := c) r hr
  cases hk : rowOk r with
  | false =>
    rw [hk] at HC
    have HC := Lib.hid HC
    have HM := Lib.hid (show mayE r = 20 by unfold mayE; rw [if_pos hk])
    clear hr hk
    go_enter Try.func19, Try.ntmps19
    go_wp2_with (go_at_call 37; refine HC.out.mono ?_; rintro e w1 ⟨rfl, b1⟩)
    go_ret
    exact ⟨by rw [HM.out]; rfl, b1⟩
  | true =>
    rw [hk] at HC
    have HC := Lib.hid HC
    have HP := fun w1 (b : Below w.heap.size w w1) => refput (c := c) r (hr.below b) hk
    obtain ⟨g, hg⟩ : ∃ g, g = (encR r).length := ⟨_, rfl⟩
    have HM := Lib.hid (show mayE r = if 253 < g then 3 else 0 by unfold mayE; rw [if_neg (by rw [hk]; decide), ← hg])
    have HG := Lib.hid hg
    have HP := Lib.hid HP
    clear hr hk hg
    go_enter Try.func19, Try.ntmps19
    go_wp2_with (first
      | (go_at_call 37; refine HC.out.mono ?_; rintro e w1 ⟨rfl, b1⟩)
      | (go_at_call 38; refine (HP.out _ b1).mono ?_; rintro e w2 ⟨v, rfl, ho, b2⟩; obtain ⟨D, cd, rfl⟩ := own_slice ho; rw [← HG.out]; clear ho))
    all_goals go_ret
    all_goals refine ⟨?_, b1.trans (b2.mono b1.size)⟩
    · rw [HM.out, if_pos (by omega)]
      rfl
    · rw [HM.out, if_neg (by omega)]
      rfl
end Go.Proofs.Ytkbapoeilcapfaa
namespace Go.Proofs.Ytkbapoeilcapfaa
open Go.RowKit
set_option linter.unusedVariables false
set_option linter.unusedSimpArgs false

section
variable {P : Program} {ops : Array Oper} {o : Oper} {a : Act} {K : Act → World → Prop} {Q : Exit → Act → World → Prop}
theorem op_append2 {W : World} (base : Nat) (s x : Operand) (t e : TypeId) (z : Value) (bytes : Nat)
    (ho : o.op = .call { callee := .builtin .append, args := #[s, x], argTypes := #[t, t] })
    (ht : P.underlying t = some (.slice e)) (hinfo : (P.info? e).map (fun i => (i.zero, i.size, i.bytes)) = some (some z, 1, bytes)) (hz : z.cells.size = 1) (hb0 : 0 < bytes)
    (v : Value) (n : Nat) (xs : List Value) (y1 y2 : Value) (hs : a.eval s = v) {S : Nat} (hx : a.eval x = .slice (some ⟨S, 0, none⟩) 2 2) (hS : S = W.heap.size) (h1 : y1.oneCell' = true) (h2 : y2.oneCell' = true)
    (HO : W.ownsRow base e 1 v n xs) (hbase : base ≤ W.heap.size) (hl : (n + 2) * bytes ≤ 140737488355328)
    (h : ∀ v1 w1, w1.ownsRow base e 1 v1 (n + 2) (xs ++ [y1, y2]) → Turn (fun k => v.ownBlock = some k) W w1 → K (a.put o.dst v1) w1) :
    o.wp P a (W.alloc (.cells #[y1, y2] e)) K Q := by
  subst hS
  obtain ⟨i0, hi, hz0, hz1, hz2⟩ := info_parts hinfo
  have hlen : n + 2 ≤ 140737488355328 := Nat.le_trans (Nat.le_mul_of_pos_right _ hb0) hl
  obtain ⟨v1, w1, hrun, hown, hg, _, hat⟩ := run_append_own_at (P := P) (W.alloc (.cells #[y1, y2] e)) base t o.type e i0 z 1 bytes ht hi hz0 hz1 hz2 hz (by omega) v n xs (HO.alloc _) ⟨W.heap.size, 0, none⟩ 2 2 [y1, y2] rfl
    (by simpa using World.news_of_block (cs := #[y1, y2]) (t := e) (fr := (0, 0)) (heap_alloc_new W (.cells #[y1, y2] e))) (by intro u hu; simp at hu; rcases hu with rfl | rfl; exact h1; exact h2) (by simp only [maxLen]; omega) hl (by simp; omega)
  unfold Oper.wp execOp
  simp only [ho, resolve, invoke, builtin, Sem.run_bind, Sem.run_pure, Result.andThen_ok, List.map_toArray, List.map_cons, List.map_nil, hs, hx, hrun]
  exact h v1 w1 hown (((Turn.refl _ W).alloc _).grown hg (fun k hk => .inl hk))
end
theorem getD_app_l {a b : List Int} {j : Nat} (h : j < a.length) : (a ++ b).getD j 0 = a.getD j 0 := by
  rw [List.getD_eq_getElem?_getD, List.getElem?_append_left h, ← List.getD_eq_getElem?_getD]
theorem getD_app_r {a b : List Int} {j : Nat} (h : a.length ≤ j) : (a ++ b).getD j 0 = b.getD (j - a.length) 0 := by
  rw [List.getD_eq_getElem?_getD, List.getElem?_append_right h, ← List.getD_eq_getElem?_getD]
/-- What stands behind all: so many rows' places, the last one first. -/
def tlS (off : Nat → Nat) (k : Nat) : Nat → List Int
  | 0 => []
  | m + 1 => tlS off k m ++ [((off (k - 1 - m) / 256 : Nat) : Int), ((off (k - 1 - m) % 256 : Nat) : Int)]
theorem tlS_len (off : Nat → Nat) (k : Nat) : ∀ m, (tlS off k m).length = 2 * m
  | 0 => rfl
  | m + 1 => by rw [tlS, List.length_append, tlS_len off k m]; simp; omega
theorem tlS_get (off : Nat → Nat) (k : Nat) : ∀ m j, j < m → (tlS off k m).getD (2 * j) 0 = ((off (k - 1 - j) / 256 : Nat) : Int) ∧ (tlS off k m).getD (2 * j + 1) 0 = ((off (k - 1 - j) % 256 : Nat) : Int)
  | 0, j, h => absurd h (by omega)
  | m + 1, j, h => by
    have hl := tlS_len off k m
    rw [tlS]
    by_cases hj : j < m
    · have := tlS_get off k m j hj
      rw [getD_app_l (show 2 * j < _ by omega), getD_app_l (show 2 * j + 1 < _ by omega)]
      exact this
    · obtain rfl : j = m := by omega
      rw [getD_app_r (show _ ≤ 2 * j by omega), getD_app_r (show _ ≤ 2 * j + 1 by omega), hl]
      simp
def mkP (rows : List (List V)) : List Int := ((rows.length : Int) :: flat rows) ++ List.replicate (256 - 2 * rows.length - (1 + (flat rows).length)) 0 ++ tlS (offAt rows) rows.length rows.length
theorem mkP_PG (rows : List (List V)) (h : usedN rows ≤ 256) : PG (mkP rows) rows := by
  have hu := h
  unfold usedN at hu
  obtain ⟨X, hX⟩ : ∃ X, X = ((rows.length : Int) :: flat rows) ++ List.replicate (256 - 2 * rows.length - (1 + (flat rows).length)) 0 := ⟨_, rfl⟩
  have hXl : X.length = 256 - 2 * rows.length := by rw [hX, List.length_append, List.length_replicate, List.length_cons]; omega
  have htl := tlS_len (offAt rows) rows.length rows.length
  have hm : mkP rows = X ++ tlS (offAt rows) rows.length rows.length := by rw [hX]; rfl
  rw [hm]
  refine ⟨by rw [List.length_append, hXl, htl]; omega, h, ?_, ?_, ?_⟩
  · rw [List.take_append_of_le_length (by rw [hXl]; omega), hX]
    exact List.take_left' (by rw [List.length_cons]; omega)
  · intro j h1 h2
    rw [List.getD_eq_getElem?_getD, List.getElem?_append_left (by rw [hXl]; exact h2), hX, List.getElem?_append_right (by rw [List.length_cons]; omega), List.getElem?_replicate]
    split <;> rfl
  · intro i hi
    have := tlS_get (offAt rows) rows.length rows.length (rows.length - 1 - i) (by omega)
    rw [show rows.length - 1 - (rows.length - 1 - i) = i by omega] at this
    rw [getD_app_r (show _ ≤ 256 - 2 * (i + 1) by rw [hXl]; omega), getD_app_r (show _ ≤ 256 - 2 * (i + 1) + 1 by rw [hXl]; omega), hXl]
    rw [show 256 - 2 * (i + 1) - (256 - 2 * rows.length) = 2 * (rows.length - 1 - i) by omega, show 256 - 2 * (i + 1) + 1 - (256 - 2 * rows.length) = 2 * (rows.length - 1 - i) + 1 by omega]
    exact this
end Go.Proofs.Ytkbapoeilcapfaa
namespace Go.Proofs.Ytkbapoeilcapfaa
open Go.RowKit
set_option linter.unusedVariables false
set_option linter.unusedSimpArgs false

theorem info_int : (Try.prog.info? 3).map (fun i => (i.zero, i.size, i.bytes)) = some (some (.int .i64 0), 1, 8) := by kernel_rfl
def offsI (rows : List (List V)) (k : Nat) : List Value := (List.range k).map fun i => Value.int .i64 (offAt rows i)
theorem offsI_succ (rows : List (List V)) (k : Nat) : offsI rows (k + 1) = offsI rows k ++ [.int .i64 (offAt rows k)] := by
  unfold offsI
  rw [List.range_succ, List.map_append]
  rfl
theorem offsI_get (rows : List (List V)) {k i : Nat} (h : i < k) : (offsI rows k)[i]? = some (.int .i64 (offAt rows i)) := by
  unfold offsI
  rw [List.getElem?_map, List.getElem?_range h]
  rfl
theorem wrap_a {o : Nat} (h : o ≤ 65535) : IntKind.u8.wrap (IntKind.i64.wrap ((o : Int) / 256)) = ((o / 256 : Nat) : Int) := by
  have e2 : ((o / 256 : Nat) : Int) % 2 ^ 64 = (o / 256 : Nat) := Int.emod_eq_of_lt (by omega) (by omega)
  have e : IntKind.i64.wrap ((o : Int) / 256) = ((o / 256 : Nat) : Int) := by
    rw [show (o : Int) / 256 = ((o / 256 : Nat) : Int) by omega]
    simp only [IntKind.wrap, IntKind.bits, IntKind.signed, e2]
    rw [if_neg]
    simp
    omega
  rw [e]
  exact u8_small (by omega) (by omega)
theorem wrap_b (o : Nat) : IntKind.u8.wrap ((o : Int).tmod 256) = ((o % 256 : Nat) : Int) := by
  rw [Int.tmod_eq_emod_of_nonneg (by omega)]
  rw [u8_small (by omega) (by omega)]
  omega
def MakePost (w : World) (rows : List (List V)) (e : Ending) (w' : World) : Prop :=
  (if 256 < usedN rows then e = .returned (.tuple #[.slice none 0 0, .bool false])
   else ∃ A c, e = .returned (.tuple #[.slice A 256 c, .bool true]) ∧ w'.ownsRow w.heap.size 5 1 (.slice A 256 c) 256 (u8s (mkP rows))) ∧ Below w.heap.size w w'
end Go.Proofs.Ytkbapoeilcapfaa

/- the document's Rows. -/
namespace Go.Proofs.Ytkbapoeilcapfaa
open Go.RowKit
set_option linter.unusedVariables false
set_option linter.unusedSimpArgs false

def refA (p : List Int) : Nat → Nat → List (List V) → Option (List (List V))
  | 0, _, acc => some acc
  | k + 1, a, acc => match decR (p.drop a) with
    | none => none
    | some (r, m) => refA p k (a + m) (acc ++ [r])
theorem refA_succ (p : List Int) (k a : Nat) (acc : List (List V)) : refA p (k + 1) a acc = match decR (p.drop a) with
    | none => none
    | some (r, m) => refA p k (a + m) (acc ++ [r]) := rfl
theorem refA_sound (p : List Int) (hb : isB p) : ∀ (k a : Nat) (acc out : List (List V)), a ≤ p.length → refA p k a acc = some out → ∃ rs, out = acc ++ rs ∧ rs.length = k ∧ (∀ r ∈ rs, rowOk r = true)
  | 0, a, acc, out, _, h => by
    simp only [refA, Option.some.injEq] at h
    exact ⟨[], by simp [h], rfl, by simp⟩
  | k + 1, a, acc, out, ha, h => by
    rw [refA_succ] at h
    split at h
    · cases h
    · next r m e =>
      obtain ⟨h1, h2, h3, h4⟩ := decR_sound (hb.drop a) e
      rw [List.length_drop] at h4
      obtain ⟨rs, e1, e2, e3⟩ := refA_sound p hb k (a + m) _ out (by omega) h
      refine ⟨r :: rs, by simp [e1], by simp [e2], ?_⟩
      intro s hs
      rcases List.mem_cons.1 hs with rfl | hs
      · exact h1
      · exact e3 s hs
theorem refA_compl (p : List Int) : ∀ (rs : List (List V)) (a : Nat) (acc : List (List V)), (∀ r ∈ rs, rowOk r = true) → (p.drop a).take (flat rs).length = flat rs → refA p rs.length a acc = some (acc ++ rs)
  | [], a, acc, _, _ => by simp [refA]
  | r :: rs, a, acc, hok, htk => by
    obtain ⟨h1, h2⟩ := take_flat_step htk
    have hd : decR (p.drop a) = some (r, (encR r).length) := by
      have : p.drop a = encR r ++ (p.drop a).drop (encR r).length := by
        conv => lhs; rw [← List.take_append_drop (encR r).length (p.drop a), h1]
      rw [this]
      exact decR_enc r (hok r (by simp)) _
    show refA p (rs.length + 1) a acc = _
    rw [refA_succ, hd]
    dsimp only
    rw [refA_compl p rs _ _ (fun s hs => hok s (by simp [hs])) h2]
    simp
theorem ref_none {p : List Int} (hb : isB p) (h : refA p (p.getD 0 0).toNat 1 [] = none) : scanS p = none := by
  cases hs : scanS p with
  | none => rfl
  | some x =>
    obtain ⟨rows, a⟩ := x
    obtain ⟨hp, hok, _⟩ := scanS_sound hb hs
    rw [hp.p0, Int.toNat_natCast, refA_compl p rows 1 [] hok hp.flat_] at h
    cases h
theorem ref_some {p : List Int} (hb : isB p) (hl : p.length = 256) {out : List (List V)} (h : refA p (p.getD 0 0).toNat 1 [] = some out) :
    (∀ r ∈ out, rowOk r = true) ∧ (256 < usedN out → scanS p = none) ∧ (usedN out ≤ 256 → mkP out ≠ p → scanS p = none) ∧ (usedN out ≤ 256 → mkP out = p → scanS p = some (out, 1 + (flat out).length)) := by
  obtain ⟨rs, e1, e2, e3⟩ := refA_sound p hb _ 1 [] out (by omega) h
  obtain rfl : out = rs := by simpa using e1
  have key : ∀ x, scanS p = some x → x.1 = out ∧ PG p out := by
    rintro ⟨rows, a⟩ hs
    obtain ⟨hp, hok, _⟩ := scanS_sound hb hs
    rw [hp.p0, Int.toNat_natCast, refA_compl p rows 1 [] hok hp.flat_] at h
    simp only [List.nil_append, Option.some.injEq] at h
    subst h
    exact ⟨rfl, hp⟩
  refine ⟨e3, fun hu => ?_, fun hu hne => ?_, fun hu he => ?_⟩
  · cases hs : scanS p with
    | none => rfl
    | some x =>
      have := (key x hs).2.fit
      omega
  · cases hs : scanS p with
    | none => rfl
    | some x => exact absurd ((mkP_PG out hu).unique (key x hs).2) hne
  · have hp := mkP_PG out hu
    rw [he] at hp
    exact scanS_compl hb hp e3
theorem isB_mkP (rows : List (List V)) (hok : ∀ r ∈ rows, rowOk r = true) (hu : usedN rows ≤ 256) : isB (mkP rows) := by
  unfold usedN at hu
  unfold mkP
  refine isB.append (isB.append ?_ (isB_zeros _)) ?_
  · intro y hy
    rcases List.mem_cons.1 hy with e | e
    · omega
    · obtain ⟨r, hr, hy⟩ := List.mem_flatMap.1 e
      exact isB_encR r (hok r hr) y hy
  · have : ∀ m, m ≤ rows.length → isB (tlS (offAt rows) rows.length m) := by
      intro m
      induction m with
      | zero => intro _ y hy; simp [tlS] at hy
      | succ m ih =>
        intro hm
        refine isB.append (ih (by omega)) ?_
        have ho := offAt_le (rows := rows) (rows.length - 1 - m)
        intro y hy
        simp only [List.mem_cons, List.not_mem_nil, or_false] at hy
        omega
    exact this _ (Nat.le_refl _)
theorem strOf_inj {a b : List Int} (ha : isB a) (hb : isB b) (h : strOf a = strOf b) : a = b := by
  rw [← bytes_str ha, ← bytes_str hb, h]
theorem str_ne {a b : List Int} (ha : isB a) (hb : isB b) (h : a ≠ b) : ((strOf a).toList == (strOf b).toList) = false := by
  rw [beq_eq_false_iff_ne]
  intro e
  exact h (strOf_inj ha hb (toList_inj e))
theorem RdL.of_own {w : World} {base b2 : Nat} {A : Option Addr} {n c : Nat} {hds : List Value} {rows : List (List V)} (h : w.ownsRow base 22 1 (.slice A n c) n hds) (hr : OwnRs w b2 hds rows) : RdL w A n hds rows := by
  have h1 := (Rd1.of_own h).2
  refine ⟨h1, by rw [← hr.len]; exact h1.1, fun i r hi => ?_⟩
  obtain ⟨hl, _⟩ := List.getElem?_eq_some_iff.1 hi
  obtain ⟨x, hx⟩ : ∃ x, hds[i]? = some x := ⟨_, List.getElem?_eq_getElem (by rw [hr.len]; exact hl)⟩
  have ho := hr.own i x r hx hi
  obtain ⟨B, cb, rfl⟩ := own_slice ho
  exact ⟨B, _, cb, hx, (RdV.of_own ho (fun v hv => vOk_size (rowOk_mem (hr.ok r (List.mem_of_getElem? hi)) hv))).2⟩
end Go.Proofs.Ytkbapoeilcapfaa
namespace Go.Proofs.Ytkbapoeilcapfaa
open Go.RowKit
set_option linter.unusedVariables false
set_option linter.unusedSimpArgs false

def RRowsP (w : World) (o : Option (List (List V) × Nat)) (e : Ending) (w' : World) : Prop :=
  (match o with
  | some (rows, _) => ∃ A c hds, e = .returned (.tuple #[.slice A rows.length c, .bool true]) ∧ w'.ownsRow w.heap.size 22 1 (.slice A rows.length c) rows.length hds ∧ OwnRs w' w.heap.size hds rows
  | none => e = .returned (.tuple #[.slice none 0 0, .bool false])) ∧ Below w.heap.size w w'
theorem RRowsP.none {w w' : World} {o : Option (List (List V) × Nat)} (h : o = Option.none) {e : Ending} (he : e = .returned (.tuple #[.slice Option.none 0 0, .bool false])) (b : Below w.heap.size w w') : RRowsP w o e w' := by
  subst h
  exact ⟨he, b⟩
end Go.Proofs.Ytkbapoeilcapfaa
