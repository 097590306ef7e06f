/- a page: are bytes free; where a row begins. -/
import Derived.Test.YtlldkdhpilcilaaGvA
import Derived.Laws.BitsAllLaws
namespace Go.Proofs.Ytlldkdhpilcilaa
open Go.RowKit
set_option linter.unusedVariables false
set_option linter.unusedSimpArgs false

def isZ (x : Int) : Bool := decide (x = 0)
theorem z_walk {w : World} (x : Int) (b : Bool) (h : isZ x = b) : Calls Try.prog 67 #[.int .u8 x] w fun e w' => e = .returned (.bool (!b)) ∧ w' = w := by
  have HH := Lib.hid h
  clear h
  go_enter Try.func67, Try.ntmps67
  go_wp2
  go_ret
  refine ⟨ret_bool ?_, rfl⟩
  rw [← HH.out]
  unfold isZ
  show (x != 0) = _
  by_cases h : x = 0 <;> simp [h]
def ZPost (b : Bool) (w : World) (e : Ending) (w' : World) : Prop := ∃ i : Int, e = .returned (.int .i64 i) ∧ decide (0 ≤ i) = b ∧ w' = w
theorem idxB_walk {w : World} {C : Option Addr} {m cc : Nat} (cs : List Int) (hr : Rd1 w C m (u8s cs)) :
    Calls Try.prog 75 #[.slice C m cc, .func (.func 67) #[] #[]] w (ZPost (!cs.all isZ) w) := by
  have hm := hr.2.1
  have hl : cs.length = m := by simpa using hr.1
  go_enter Try.func75, Try.ntmps75
  go_wp2
  go_loopw [8] (fun i wr => ∃ k : Nat, k ≤ m ∧ i = .int .i64 k ∧ (cs.take k).all isZ = true ∧ wr = w) (fun i _ => m - (intOf i).toNat)
  case atStart => exact ⟨0, by omega, rfl, rfl, rfl⟩
  case round =>
    obtain ⟨k, hk, rfl, hall, rfl⟩ := hrel
    have HA := Lib.hid hall
    clear hall
    by_cases hlt : k < m
    · obtain ⟨ad, rfl, had, hc⟩ := hr.at2 hlt
      have hkl : k < cs.length := by omega
      rw [getD_map 0 hkl] at hc
      have HT := allI_take (p := isZ) hkl
      have HF := allI_false (p := isZ) hkl
      obtain ⟨x, hx⟩ : ∃ x, x = cs.getD k 0 := ⟨_, rfl⟩
      rw [← hx] at hc HT HF
      have HT := Lib.hid HT
      have HF := Lib.hid HF
      clear hx hr
      cases ho : isZ x with
      | true =>
        have HO := Lib.hid (z_walk (w := wr) x true ho)
        have H2 := Lib.hid ho
        clear ho
        go_wp2_with (go_at_call 67; refine HO.out.mono ?_; rintro e w1 ⟨rfl, rfl⟩)
        go_roundw
        case rel => exact ⟨k + 1, by omega, by go_num, by rw [HT.out, HA.out, H2.out]; rfl, by trivial⟩
        case measure => simp [intOf]; omega
      | false =>
        have HO := Lib.hid (z_walk (w := wr) x false ho)
        have H2 := Lib.hid (HF.out ho)
        clear ho
        go_wp2_with (go_at_call 67; refine HO.out.mono ?_; rintro e w1 ⟨rfl, rfl⟩)
        go_ret
        exact ⟨k, rfl, by rw [H2.out]; simp, rfl⟩
    · go_wp2
      go_ret
      have h := HA.out
      rw [List.take_of_length_le (by omega)] at h
      exact ⟨-1, rfl, by rw [h]; rfl, rfl⟩
theorem conB_walk {w : World} {C : Option Addr} {m cc : Nat} (cs : List Int) (hr : Rd1 w C m (u8s cs)) (b : Bool) (hb : cs.all isZ = b) :
    Calls Try.prog 66 #[.slice C m cc, .func (.func 67) #[] #[]] w fun e w' => e = .returned (.bool (!b)) ∧ w' = w := by
  have HI := Lib.hid (idxB_walk (cc := cc) cs hr)
  subst hb
  clear hr
  go_enter Try.func66, Try.ntmps66
  go_wp2_with (go_at_call 75; refine HI.out.mono ?_; rintro e w1 ⟨i, rfl, hi, rfl⟩; have H := Lib.hid hi; clear hi)
  go_ret
  exact ⟨by rw [← H.out]; rfl, by trivial⟩
theorem ori64 {z y : Int} (z0 : 0 ≤ z) (z1 : z ≤ 255) (y0 : 0 ≤ y) (y1 : y ≤ 255) : bits .or .i64 (z * 256) y = z * 256 + y := by
  obtain ⟨a, rfl⟩ := Int.eq_ofNat_of_zero_le z0
  obtain ⟨c, rfl⟩ := Int.eq_ofNat_of_zero_le y0
  have e : ((a : Int) * 256) = ((a * 256 : Nat) : Int) := by omega
  have h : a * 256 ||| c = a * 256 + c := by
    have := Nat.shiftLeft_add_eq_or_of_lt (i := 8) (b := c) (by omega) a
    rw [Nat.shiftLeft_eq] at this
    exact this.symm
  rw [e]
  show IntKind.i64.wrap ((BitVec.ofInt 64 ((a * 256 : Nat) : Int) ||| BitVec.ofInt 64 (c : Int)).toNat : Int) = _
  rw [BitVec.toNat_or, ofInt_u64 (a * 256) (by omega), ofInt_u64 c (by omega), h]
  have e2 : ((a * 256 + c : Nat) : Int) % 2 ^ 64 = (a * 256 + c : Nat) := Int.emod_eq_of_lt (by omega) (by omega)
  simp only [IntKind.wrap, IntKind.bits, IntKind.signed, e2]
  rw [if_neg]
  · omega
  · simp
    omega
/-- Where row i begins. -/
def startS (p : List Int) (i : Nat) : Int := p.getD (256 - 2 * (i + 1)) 0 * 256 + p.getD (256 - 2 * (i + 1) + 1) 0
theorem start_walk {w : World} {ad : Addr} {c i : Nat} {p : List Int} (hr : Rd1 w (some ad) 256 (u8s p)) (hb : isB p) (hi : 2 * (i + 1) ≤ 256) :
    Calls Try.prog 65 #[.slice (some ad) 256 c, .int .i64 i] w fun e w' => e = .returned (.int .i64 (startS p i)) ∧ Below w.heap.size w w' := by
  have hl : p.length = 256 := by simpa using hr.1
  obtain ⟨a, ha⟩ : ∃ a, a = 256 - 2 * (i + 1) := ⟨_, rfl⟩
  have ha2 : a + 1 < 256 := by omega
  obtain ⟨ad', e, had, h0⟩ := hr.at2 (k := a) (by omega)
  obtain rfl := Option.some.inj e
  obtain ⟨ad', e, _, h1⟩ := hr.at2 (k := a + 1) (by omega)
  obtain rfl := Option.some.inj e
  rw [getD_map 0 (by omega)] at h0 h1
  have D0 := getD_isB hb a
  have D1 := getD_isB hb (a + 1)
  have HS : startS p i = p.getD a 0 * 256 + p.getD (a + 1) 0 := by unfold startS; rw [← ha]
  obtain ⟨x, hx⟩ : ∃ x, x = p.getD a 0 := ⟨_, rfl⟩
  obtain ⟨y, hy⟩ : ∃ y, y = p.getD (a + 1) 0 := ⟨_, rfl⟩
  rw [← hx] at h0 D0 HS
  rw [← hy] at h1 D1 HS
  have HS := Lib.hid HS
  have hw : (256 : Int) - 2 * ((i : Int) + 1) = a := by omega
  obtain ⟨a1, ha1⟩ : ∃ a1, a1 = a + 1 := ⟨_, rfl⟩
  have hw1 : (a : Int) + 1 = a1 := by omega
  rw [← ha1] at h1 ha2
  have ha3 : a < 256 := by omega
  have hi2 : (i : Int) ≤ 255 := by omega
  clear hx hy e hr ha ha1 hl hi
  go_enter Try.func65, Try.ntmps65
  go_wp2
  go_quiet (fail)
  go_wp2
  go_ret
  refine ⟨ret_int ?_, ⟨rfl, rfl, rfl, Nat.le_refl _, fun _ _ => rfl⟩⟩
  rw [HS.out, ← ori64 D0.1 D0.2 D1.1 D1.2]
end Go.Proofs.Ytlldkdhpilcilaa
namespace Go.Proofs.Ytlldkdhpilcilaa
open Go.RowKit
set_option linter.unusedVariables false
set_option linter.unusedSimpArgs false

def scanA (p : List Int) (en : Nat) : Nat → Nat → Nat → List (List V) → Option (List (List V) × Nat)
  | 0, _, a, acc => if ((p.drop a).take (en - a)).all isZ = true then some (acc, a) else none
  | k + 1, i, a, acc => match decR ((p.drop a).take (en - a)) with
    | none => none
    | some (r, m) => if startS p i = a then scanA p en k (i + 1) (a + m) (acc ++ [r]) else none
def scanS (p : List Int) : Option (List (List V) × Nat) :=
  if p.length = 256 ∧ 2 * (p.getD 0 0).toNat < 256 then scanA p (256 - 2 * (p.getD 0 0).toNat) (p.getD 0 0).toNat 0 1 [] else none
/-- Rows that a call owns, by their headers. -/
structure OwnRs (w : World) (base : Nat) (hds : List Value) (rows : List (List V)) : Prop where
  len : hds.length = rows.length
  own : ∀ (i : Nat) h r, hds[i]? = some h → rows[i]? = some r → w.ownsRow base 76 3 h r.length (cellsR r)
  ok : ∀ r ∈ rows, rowOk r = true
theorem own_ne_own {w : World} {b1 b2 : Nat} {e1 e2 : TypeId} {s1 s2 n1 n2 : Nat} {v1 v2 : Value} {x1 x2 : List Value} (h1 : w.ownsRow b1 e1 s1 v1 n1 x1) (h2 : w.ownsRow b2 e2 s2 v2 n2 x2) (hne : e1 ≠ e2) {k : Nat} (hk : v1.ownBlock = some k) : ¬ v2.ownBlock = some k := by
  intro hk2
  rcases h2.2 with ⟨rfl, _⟩ | ⟨g', cap', cur, rfl, _, hg', _⟩
  · cases hk2
  · obtain rfl : g' = k := by simpa [Value.ownBlock] using hk2
    exact own_ne_typed h1 hg' hne _ hk rfl
theorem OwnRs.nil (w : World) (base : Nat) : OwnRs w base [] [] := ⟨rfl, fun i h r hh => by simp at hh, fun r hr => by simp at hr⟩
theorem OwnRs.turn {S : Nat → Prop} {w w' : World} {base : Nat} {hds : List Value} {rows : List (List V)} (h : OwnRs w base hds rows) (ht : Turn S w w') (hs : ∀ v n r, w.ownsRow base 76 3 v n r → ∀ k, v.ownBlock = some k → ¬ S k) : OwnRs w' base hds rows :=
  ⟨h.len, fun i x r hx hr => own_turn (h.own i x r hx hr) ht (hs _ _ _ (h.own i x r hx hr)), h.ok⟩
theorem OwnRs.below {w w' : World} {base : Nat} {hds : List Value} {rows : List (List V)} (h : OwnRs w base hds rows) (hb : Below w.heap.size w w') : OwnRs w' base hds rows :=
  h.turn (Turn.of_below hb (fun _ => False)) (fun _ _ _ _ _ _ => id)
theorem OwnRs.lower {w : World} {base base' : Nat} {hds : List Value} {rows : List (List V)} (h : OwnRs w base hds rows) (hb : base' ≤ base) : OwnRs w base' hds rows :=
  ⟨h.len, fun i x r hx hr => own_lower (h.own i x r hx hr) hb, h.ok⟩
theorem OwnRs.snoc {w : World} {base : Nat} {hds : List Value} {rows : List (List V)} {x : Value} {r : List V} (h : OwnRs w base hds rows) (hx : w.ownsRow base 76 3 x r.length (cellsR r)) (hr : rowOk r = true) : OwnRs w base (hds ++ [x]) (rows ++ [r]) := by
  refine ⟨by simp [h.len], fun i y s hy hs => ?_, fun s hs => ?_⟩
  · rcases Nat.lt_or_ge i hds.length with hl | hl
    · rw [List.getElem?_append_left hl] at hy
      rw [List.getElem?_append_left (by rw [← h.len]; exact hl)] at hs
      exact h.own i y s hy hs
    · rw [List.getElem?_append_right hl] at hy
      rw [List.getElem?_append_right (by rw [← h.len]; exact hl), ← h.len] at hs
      rcases hz : i - hds.length with _ | j
      · rw [hz] at hy hs
        simp at hy hs
        subst hy hs
        exact hx
      · rw [hz] at hy
        simp at hy
  · rcases List.mem_append.1 hs with e | e
    · exact h.ok s e
    · obtain rfl : s = r := by simpa using e
      exact hr
def ScanP (w : World) (o : Option (List (List V) × Nat)) (e : Ending) (w' : World) : Prop :=
  (match o with
  | some (rows, a) => ∃ A c hds, e = .returned (.tuple #[.slice A rows.length c, .int .i64 a, .int .i64 0]) ∧ w'.ownsRow w.heap.size 24 1 (.slice A rows.length c) rows.length hds ∧ OwnRs w' w.heap.size hds rows
  | none => e = .returned (.tuple #[.slice none 0 0, .int .i64 0, .int .i64 40])) ∧ Below w.heap.size w w'
theorem ScanP.none {w w' : World} {o : Option (List (List V) × Nat)} (h : o = Option.none) {e : Ending} (he : e = .returned (.tuple #[.slice Option.none 0 0, .int .i64 0, .int .i64 40])) (b : Below w.heap.size w w') : ScanP w o e w' := by
  subst h
  exact ⟨he, b⟩
theorem scan_len {w : World} {A : Option Addr} {n c : Nat} {p : List Int} (hl : p.length = n) (h : n ≠ 256) : Calls Try.prog 55 #[.slice A n c] w (ScanP w (scanS p)) := by
  have HS := Lib.hid (show scanS p = none by unfold scanS; rw [if_neg (by omega)])
  have hn : ((n : Int) != 256) = true := by simp; omega
  clear hl
  go_enter Try.func55, Try.ntmps55
  go_wp2
  go_ret3
  exact ScanP.none HS.out rfl (Below.refl _ _)
theorem scan_many {w : World} {ad : Addr} {c k : Nat} {t : List Int} (h : Rd1 w (some ad) 256 (u8s ((k : Int) :: t))) (hk : 128 ≤ k) (hk5 : k ≤ 255) : Calls Try.prog 55 #[.slice (some ad) 256 c] w (ScanP w (scanS ((k : Int) :: t))) := by
  obtain ⟨c0, had, hn⟩ := rd_head h
  have HS := Lib.hid (show scanS ((k : Int) :: t) = none by unfold scanS; rw [if_neg]; simp; omega)
  have hlt : decide ((256 : Int) - 2 * (k : Int) < 1) = true := by simp; omega
  clear h
  go_enter Try.func55, Try.ntmps55
  go_wp2
  go_ret3
  exact ScanP.none HS.out rfl (Below.refl _ _)
end Go.Proofs.Ytlldkdhpilcilaa
namespace Go.Proofs.Ytlldkdhpilcilaa
open Go.RowKit
set_option linter.unusedVariables false
set_option linter.unusedSimpArgs false

theorem get_none {w : World} {n c : Nat} {ad : Addr} {bs : List Int} (hr : Rd1 w (some ad) n (u8s bs)) (hb : isB bs) (hab : ad.block < w.heap.size) (hnc : n ≤ c) (hc : c ≤ 9223372036854775807) (hn : n ≤ 100000) (h : decR bs = none) :
    Calls Try.prog 64 #[.slice (some ad) n c] w fun e w' => e = .returned (.tuple #[.slice none 0 0, .int .i64 0, .int .i64 20]) ∧ Below w.heap.size w w' := by
  refine (get_walk hr hb hab hnc hc hn).mono ?_
  intro e w' H
  unfold GetPost at H
  rw [h] at H
  exact H
theorem get_some {w : World} {n c : Nat} {ad : Addr} {bs : List Int} (hr : Rd1 w (some ad) n (u8s bs)) (hb : isB bs) (hab : ad.block < w.heap.size) (hnc : n ≤ c) (hc : c ≤ 9223372036854775807) (hn : n ≤ 100000) {r : List V} {m : Nat} (h : decR bs = some (r, m)) :
    Calls Try.prog 64 #[.slice (some ad) n c] w fun e w' => ∃ B c', e = .returned (.tuple #[.slice B r.length c', .int .i64 m, .int .i64 0]) ∧ w'.ownsRow w.heap.size 76 3 (.slice B r.length c') r.length (cellsR r) ∧ Below w.heap.size w w' := by
  refine (get_walk hr hb hab hnc hc hn).mono ?_
  intro e w' H
  unfold GetPost at H
  rw [h] at H
  obtain ⟨⟨v', rfl, ho⟩, b⟩ := H
  obtain ⟨B, c', rfl⟩ := own_slice ho
  exact ⟨B, c', rfl, ho, b⟩
theorem scanA_succ (p : List Int) (en k i a : Nat) (acc : List (List V)) : scanA p en (k + 1) i a acc = match decR ((p.drop a).take (en - a)) with
    | none => none
    | some (r, m) => if startS p i = a then scanA p en k (i + 1) (a + m) (acc ++ [r]) else none := rfl
set_option maxHeartbeats 400000 in
theorem scan_ok {w : World} {ad : Addr} {c k : Nat} {t : List Int} (h : Rd1 w (some ad) 256 (u8s ((k : Int) :: t))) (hb : isB ((k : Int) :: t)) (hk : k < 128) (hc : 256 ≤ c) (hc6 : c ≤ 9223372036854775807) : Calls Try.prog 55 #[.slice (some ad) 256 c] w (ScanP w (scanS ((k : Int) :: t))) := by
  obtain ⟨c0, had, hn⟩ := rd_head h
  obtain ⟨p, hp⟩ : ∃ p, p = (k : Int) :: t := ⟨_, rfl⟩
  obtain ⟨en, hen⟩ : ∃ en, en = 256 - 2 * k := ⟨_, rfl⟩
  have hS : scanS ((k : Int) :: t) = scanA p en k 0 1 [] := by
    unfold scanS
    rw [if_pos (by simp; omega), hen, ← hp]
    simp [hp]
  rw [hS]
  rw [← hp] at h hb
  have hw : (256 : Int) - 2 * (k : Int) = en := by omega
  have hen1 : 1 ≤ en := by omega
  have hen2 : en ≤ 256 := by omega
  have HE := Lib.hid (And.intro hen hk)
  have HH := Lib.hid (And.intro h (And.intro hb (show p.length = 256 by simpa using h.1)))
  clear h hb hp hS hen hn hk
  go_enter Try.func55, Try.ntmps55
  go_wp2
  go_loopw [7, 8, 28] (fun q o x wr => ∃ (i a : Nat) (A : Option Addr) (C : Nat) (hds : List Value) (rows : List (List V)), i ≤ k ∧ a ≤ en ∧ q = .int .i64 a ∧ x = .int .i64 i ∧ o = .slice A i C ∧ rows.length = i ∧ scanA p en k 0 1 [] = scanA p en (k - i) i a rows ∧ wr.ownsRow w.heap.size 24 1 (.slice A i C) i hds ∧ OwnRs wr w.heap.size hds rows ∧ Below w.heap.size w wr) (fun _ _ x _ => k - (intOf x).toNat)
  case atStart => exact ⟨0, 1, none, 0, [], [], by omega, hen1, rfl, rfl, rfl, rfl, rfl, World.ownsRow_nil _ _ _ _, OwnRs.nil _ _, Below.refl _ _⟩
  case round =>
    obtain ⟨i, a, A, C, hds, rows, hi, ha, rfl, rfl, rfl, hrl, hsc, ho, hrs, bel⟩ := hrel
    have szr := bel.size
    have hbw : ad.block < wr.heap.size := by omega
    by_cases hlt : i < k
    · rw [show k - i = k - (i + 1) + 1 by omega, scanA_succ] at hsc
      have R2 : ∃ ad2, (if en = a then some ad else some (ad.add a)) = some ad2 ∧ Rd1 wr (some ad2) (en - a) (u8s ((p.drop a).take (en - a))) ∧ ad2.block < wr.heap.size := by
        by_cases hae : en = a
        · refine ⟨ad, by rw [if_pos hae], ?_, hbw⟩
          subst hae
          rw [Nat.sub_self]
          exact ⟨by simp, by omega, fun h => absurd h (by omega)⟩
        · refine ⟨ad.add a, by rw [if_neg hae], ?_, by rw [add_block]; exact hbw⟩
          have := ((HH.out.1.below bel).drop (h := a) (by omega)).take (h := en - a) (by omega)
          rwa [← List.map_drop, ← List.map_take] at this
      obtain ⟨ad2, had2, hr2, hb2⟩ := R2
      have hbt : isB ((p.drop a).take (en - a)) := (HH.out.2.1.drop a).take _
      have HG := Lib.hid (And.intro ho (And.intro hrs (And.intro bel hrl)))
      have HI := Lib.hid (show 2 * (i + 1) ≤ 256 by have := HE.out; omega)
      have hac : a ≤ c := by omega
      have henc : en ≤ c := by omega
      cases hd : decR ((p.drop a).take (en - a)) with
      | none =>
        rw [hd] at hsc
        have HD := Lib.hid (show scanA p en k 0 1 [] = none from hsc)
        have HC := get_none hr2 hbt hb2 (Nat.le_refl _) (by omega) (by omega) hd
        rw [← had2] at HC
        have HC := Lib.hid HC
        clear hr2 hbt ho hrs bel hd hsc hrl had2
        go_wp2_with (go_at_call 64; refine HC.out.mono ?_; rintro e w2 ⟨rfl, b2⟩)
        all_goals go_ret3
        all_goals first
          | exact ScanP.none HD.out rfl (HG.out.2.2.1.trans (b2.mono szr))
          | (obtain rfl : en = a := by assumption
             exact ScanP.none HD.out rfl (HG.out.2.2.1.trans (b2.mono szr)))
      | some x =>
        obtain ⟨r, m⟩ := x
        rw [hd] at hsc
        have S := decR_sound hbt hd
        have hm : a + m ≤ en := by
          have := S.2.2.2
          rw [List.length_take] at this
          omega
        have HC := get_some hr2 hbt hb2 (Nat.le_refl _) (by omega) (by omega) hd
        rw [← had2] at HC
        have HC := Lib.hid HC
        have HR := Lib.hid S.1
        obtain ⟨z, hz⟩ : ∃ z, z = startS p i := ⟨_, rfl⟩
        have HSt := fun w2 (b : Below wr.heap.size wr w2) => start_walk (c := c) (i := i) ((HH.out.1.below bel).below b) HH.out.2.1 HI.out
        rw [← hz] at HSt
        have HSt := Lib.hid HSt
        by_cases hza : z = a
        · replace hsc : scanA p en k 0 1 [] = scanA p en (k - (i + 1)) (i + 1) (a + m) (rows ++ [r]) := by
            have h2 : scanA p en k 0 1 [] = if startS p i = a then scanA p en (k - (i + 1)) (i + 1) (a + m) (rows ++ [r]) else none := hsc
            rw [h2, ← hz, if_pos hza]
          have HD := Lib.hid hsc
          subst hza
          clear hr2 hbt ho hrs bel hd hsc hrl had2 S hz
          go_wp2_with (first
            | (go_at_call 64; refine HC.out.mono ?_; rintro e w2 ⟨B, c', rfl, hrow, b2⟩; have HRow := Lib.hid hrow; have B2 := Lib.hid b2; clear hrow b2)
            | (go_at_call 65; refine (HSt.out _ B2.out).mono ?_; rintro e w3 ⟨rfl, b3⟩; have h3 := own_below (own_below HG.out.1 B2.out) b3; have s3 : w.heap.size ≤ w3.heap.size := Nat.le_trans szr (Nat.le_trans B2.out.size b3.size); have HRow3 := Lib.hid (own_lower (own_below HRow.out b3) szr); have B3 := Lib.hid ((HG.out.2.2.1.trans (B2.out.mono szr)).trans (b3.mono (Nat.le_trans szr B2.out.size))); have RS3 := Lib.hid ((HG.out.2.1.below B2.out).below b3); clear b3)
            | (at_builtin; refine wp_append1 w.heap.size rfl (.tmp 50) (.tmp 52) 38 24 (.slice none 0 0) 1 24 rfl Try.underlying38 info_L rfl (by omega) (by omega) (.slice A i C) i _ [.slice B r.length c'] rfl rfl (by simp) rfl (by simp [Value.oneCell']) h3 s3 (by omega) ?_; intro v1 w4 h4 t4 _))
          obtain ⟨A4, c4, rfl⟩ := own_slice h4
          have B4 := below_turn B3.out t4 s3 (fun i hi => own_ge h3 hi)
          have RS4 := (RS3.out.snoc HRow3.out HR.out).turn t4 (fun v n r hv k hk => own_ne_own hv h3 (by decide) hk)
          go_roundw
          case rel =>
            refine ⟨i + 1, a + m, A4, c4, _, _, by omega, hm, by go_num, by go_num, rfl, ?_, HD.out, h4, RS4, B4⟩
            have := HG.out.2.2.2
            simp [this]
          case measure => simp [intOf]; omega
        · replace hsc : scanA p en k 0 1 [] = none := by
            have h2 : scanA p en k 0 1 [] = if startS p i = a then scanA p en (k - (i + 1)) (i + 1) (a + m) (rows ++ [r]) else none := hsc
            rw [h2, ← hz, if_neg hza]
          have HD := Lib.hid hsc
          have hzb : (z != (a : Int)) = true := by simpa using hza
          clear hr2 hbt ho hrs bel hd hsc hrl had2 S hz hza
          go_wp2_with (first
            | (go_at_call 64; refine HC.out.mono ?_; rintro e w2 ⟨B, c', rfl, hrow, b2⟩; have B2 := Lib.hid b2; clear hrow b2)
            | (go_at_call 65; refine (HSt.out _ B2.out).mono ?_; rintro e w3 ⟨rfl, b3⟩; have B3 := Lib.hid ((HG.out.2.2.1.trans (B2.out.mono szr)).trans (b3.mono (Nat.le_trans szr B2.out.size))); clear b3))
          all_goals go_ret3
          all_goals first
            | exact ScanP.none HD.out rfl B3.out
            | (obtain rfl : en = a := by assumption
               exact ScanP.none HD.out rfl B3.out)
    · obtain rfl : i = k := by omega
      rw [Nat.sub_self] at hsc
      replace hsc : scanA p en i 0 1 [] = if ((p.drop a).take (en - a)).all isZ = true then some (rows, a) else none := hsc
      have R2 : Rd1 wr (if c = a then some ad else some (ad.add a)) (en - a) (u8s ((p.drop a).take (en - a))) := by
        by_cases hae : c = a
        · rw [if_pos hae]
          have : en = a := by omega
          subst this
          rw [Nat.sub_self]
          exact ⟨by simp, by omega, fun h => absurd h (by omega)⟩
        · rw [if_neg hae]
          have := ((HH.out.1.below bel).drop (h := a) (by omega)).take (h := en - a) (by omega)
          rwa [← List.map_drop, ← List.map_take] at this
      have hac : a ≤ c := by omega
      have henc : en ≤ c := by omega
      have HG := Lib.hid (And.intro ho (And.intro hrs (And.intro bel hrl)))
      cases hz : ((p.drop a).take (en - a)).all isZ with
      | true =>
        rw [hz] at hsc
        have HD := Lib.hid (show scanA p en i 0 1 [] = some (rows, a) from hsc)
        have HC := Lib.hid (conB_walk (cc := c - a) _ R2 true hz)
        clear ho hrs bel hrl hsc hz R2
        go_wp2_with (go_at_call 66; refine HC.out.mono ?_; rintro e w2 ⟨rfl, hw2⟩; obtain rfl := hw2.symm; clear hw2)
        all_goals go_ret3
        all_goals rw [HD.out]
        all_goals obtain rfl := HG.out.2.2.2
        all_goals exact ⟨⟨_, _, _, rfl, HG.out.1, HG.out.2.1⟩, HG.out.2.2.1⟩
      | false =>
        rw [hz] at hsc
        have HD := Lib.hid (show scanA p en i 0 1 [] = none from hsc)
        have HC := Lib.hid (conB_walk (cc := c - a) _ R2 false hz)
        clear ho hrs bel hrl hsc hz R2
        go_wp2_with (go_at_call 66; refine HC.out.mono ?_; rintro e w2 ⟨rfl, hw2⟩; obtain rfl := hw2.symm; clear hw2)
        all_goals go_ret3
        all_goals exact ScanP.none HD.out rfl HG.out.2.2.1
theorem scan_walk {w : World} {A : Option Addr} {n c : Nat} {p : List Int} (h : Rd1 w A n (u8s p)) (hb : isB p) (hnc : n ≤ c) (hc6 : c ≤ 9223372036854775807) : Calls Try.prog 55 #[.slice A n c] w (ScanP w (scanS p)) := by
  have hl : p.length = n := by simpa using h.1
  by_cases hn : n = 256
  · subst hn
    obtain ⟨ad, rfl, _⟩ := h.at2 (k := 0) (by omega)
    match p, h, hb, hl with
    | k :: t, h, hb, _ =>
      have hk := hb k (by simp)
      obtain ⟨k, rfl⟩ : ∃ j : Nat, k = j := ⟨k.toNat, by omega⟩
      by_cases h1 : k < 128
      · exact scan_ok h hb h1 hnc hc6
      · exact scan_many h (by omega) (by omega)
  · exact scan_len hl hn
end Go.Proofs.Ytlldkdhpilcilaa
