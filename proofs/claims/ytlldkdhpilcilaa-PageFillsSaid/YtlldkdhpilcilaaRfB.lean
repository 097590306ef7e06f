/- the document's Rows. -/
import Derived.Test.YtlldkdhpilcilaaRfA
namespace Go.Proofs.Ytlldkdhpilcilaa
open Go.RowKit
set_option linter.unusedVariables false
set_option linter.unusedSimpArgs false

def refA (p : List Int) : Nat → Nat → List (List V) → Option (List (List V))
  | 0, _, acc => some acc
  | k + 1, a, acc => match decR (p.drop a) with
    | none => none
    | some (r, m) => refA p k (a + m) (acc ++ [r])
theorem refA_succ (p : List Int) (k a : Nat) (acc : List (List V)) : refA p (k + 1) a acc = match decR (p.drop a) with
    | none => none
    | some (r, m) => refA p k (a + m) (acc ++ [r]) := rfl
theorem refA_sound (p : List Int) (hb : isB p) : ∀ (k a : Nat) (acc out : List (List V)), a ≤ p.length → refA p k a acc = some out → ∃ rs, out = acc ++ rs ∧ rs.length = k ∧ (∀ r ∈ rs, rowOk r = true)
  | 0, a, acc, out, _, h => by
    simp only [refA, Option.some.injEq] at h
    exact ⟨[], by simp [h], rfl, by simp⟩
  | k + 1, a, acc, out, ha, h => by
    rw [refA_succ] at h
    split at h
    · cases h
    · next r m e =>
      obtain ⟨h1, h2, h3, h4⟩ := decR_sound (hb.drop a) e
      rw [List.length_drop] at h4
      obtain ⟨rs, e1, e2, e3⟩ := refA_sound p hb k (a + m) _ out (by omega) h
      refine ⟨r :: rs, by simp [e1], by simp [e2], ?_⟩
      intro s hs
      rcases List.mem_cons.1 hs with rfl | hs
      · exact h1
      · exact e3 s hs
theorem refA_compl (p : List Int) : ∀ (rs : List (List V)) (a : Nat) (acc : List (List V)), (∀ r ∈ rs, rowOk r = true) → (p.drop a).take (flat rs).length = flat rs → refA p rs.length a acc = some (acc ++ rs)
  | [], a, acc, _, _ => by simp [refA]
  | r :: rs, a, acc, hok, htk => by
    obtain ⟨h1, h2⟩ := take_flat_step htk
    have hd : decR (p.drop a) = some (r, (encR r).length) := by
      have : p.drop a = encR r ++ (p.drop a).drop (encR r).length := by
        conv => lhs; rw [← List.take_append_drop (encR r).length (p.drop a), h1]
      rw [this]
      exact decR_enc r (hok r (by simp)) _
    show refA p (rs.length + 1) a acc = _
    rw [refA_succ, hd]
    dsimp only
    rw [refA_compl p rs _ _ (fun s hs => hok s (by simp [hs])) h2]
    simp
theorem ref_none {p : List Int} (hb : isB p) (h : refA p (p.getD 0 0).toNat 1 [] = none) : scanS p = none := by
  cases hs : scanS p with
  | none => rfl
  | some x =>
    obtain ⟨rows, a⟩ := x
    obtain ⟨hp, hok, _⟩ := scanS_sound hb hs
    rw [hp.p0, Int.toNat_natCast, refA_compl p rows 1 [] hok hp.flat_] at h
    cases h
theorem ref_some {p : List Int} (hb : isB p) (hl : p.length = 256) {out : List (List V)} (h : refA p (p.getD 0 0).toNat 1 [] = some out) :
    (∀ r ∈ out, rowOk r = true) ∧ (256 < usedN out → scanS p = none) ∧ (usedN out ≤ 256 → mkP out ≠ p → scanS p = none) ∧ (usedN out ≤ 256 → mkP out = p → scanS p = some (out, 1 + (flat out).length)) := by
  obtain ⟨rs, e1, e2, e3⟩ := refA_sound p hb _ 1 [] out (by omega) h
  obtain rfl : out = rs := by simpa using e1
  have key : ∀ x, scanS p = some x → x.1 = out ∧ PG p out := by
    rintro ⟨rows, a⟩ hs
    obtain ⟨hp, hok, _⟩ := scanS_sound hb hs
    rw [hp.p0, Int.toNat_natCast, refA_compl p rows 1 [] hok hp.flat_] at h
    simp only [List.nil_append, Option.some.injEq] at h
    subst h
    exact ⟨rfl, hp⟩
  refine ⟨e3, fun hu => ?_, fun hu hne => ?_, fun hu he => ?_⟩
  · cases hs : scanS p with
    | none => rfl
    | some x =>
      have := (key x hs).2.fit
      omega
  · cases hs : scanS p with
    | none => rfl
    | some x => exact absurd ((mkP_PG out hu).unique (key x hs).2) hne
  · have hp := mkP_PG out hu
    rw [he] at hp
    exact scanS_compl hb hp e3
theorem isB_mkP (rows : List (List V)) (hok : ∀ r ∈ rows, rowOk r = true) (hu : usedN rows ≤ 256) : isB (mkP rows) := by
  unfold usedN at hu
  unfold mkP
  refine isB.append (isB.append ?_ (isB_zeros _)) ?_
  · intro y hy
    rcases List.mem_cons.1 hy with e | e
    · omega
    · obtain ⟨r, hr, hy⟩ := List.mem_flatMap.1 e
      exact isB_encR r (hok r hr) y hy
  · have : ∀ m, m ≤ rows.length → isB (tlS (offAt rows) rows.length m) := by
      intro m
      induction m with
      | zero => intro _ y hy; simp [tlS] at hy
      | succ m ih =>
        intro hm
        refine isB.append (ih (by omega)) ?_
        have ho := offAt_le (rows := rows) (rows.length - 1 - m)
        intro y hy
        simp only [List.mem_cons, List.not_mem_nil, or_false] at hy
        omega
    exact this _ (Nat.le_refl _)
theorem strOf_inj {a b : List Int} (ha : isB a) (hb : isB b) (h : strOf a = strOf b) : a = b := by
  rw [← bytes_str ha, ← bytes_str hb, h]
theorem str_ne {a b : List Int} (ha : isB a) (hb : isB b) (h : a ≠ b) : ((strOf a).toList == (strOf b).toList) = false := by
  rw [beq_eq_false_iff_ne]
  intro e
  exact h (strOf_inj ha hb (toList_inj e))
theorem RdL.of_own {w : World} {base b2 : Nat} {A : Option Addr} {n c : Nat} {hds : List Value} {rows : List (List V)} (h : w.ownsRow base 24 1 (.slice A n c) n hds) (hr : OwnRs w b2 hds rows) : RdL w A n hds rows := by
  have h1 := (Rd1.of_own h).2
  refine ⟨h1, by rw [← hr.len]; exact h1.1, fun i r hi => ?_⟩
  obtain ⟨hl, _⟩ := List.getElem?_eq_some_iff.1 hi
  obtain ⟨x, hx⟩ : ∃ x, hds[i]? = some x := ⟨_, List.getElem?_eq_getElem (by rw [hr.len]; exact hl)⟩
  have ho := hr.own i x r hx hi
  obtain ⟨B, cb, rfl⟩ := own_slice ho
  exact ⟨B, _, cb, hx, (RdV.of_own ho (fun v hv => vOk_size (rowOk_mem (hr.ok r (List.mem_of_getElem? hi)) hv))).2⟩
end Go.Proofs.Ytlldkdhpilcilaa
namespace Go.Proofs.Ytlldkdhpilcilaa
open Go.RowKit
set_option linter.unusedVariables false
set_option linter.unusedSimpArgs false

theorem rget_none {w : World} {ad : Addr} {n c : Nat} {bs : List Int} (h : Rd1 w (some ad) n (u8s bs)) (hb : isB bs) (hnc : n ≤ c) (hn5 : n ≤ 100000) (hc5 : c ≤ 9223372036854775807) (hd : decR bs = none) :
    Calls Try.prog 58 #[.slice (some ad) n c] w fun e w' => e = .returned (.tuple #[.slice none 0 0, .int .i64 0, .bool false]) ∧ Below w.heap.size w w' := by
  refine (rget_walk h hb hnc hn5 hc5).mono ?_
  intro e w' H
  unfold RGetPost RGetP at H
  rw [hd] at H
  exact H
theorem rget_some {w : World} {ad : Addr} {n c : Nat} {bs : List Int} (h : Rd1 w (some ad) n (u8s bs)) (hb : isB bs) (hnc : n ≤ c) (hn5 : n ≤ 100000) (hc5 : c ≤ 9223372036854775807) {r : List V} {m : Nat} (hd : decR bs = some (r, m)) :
    Calls Try.prog 58 #[.slice (some ad) n c] w fun e w' => ∃ B c', e = .returned (.tuple #[.slice B r.length c', .int .i64 m, .bool true]) ∧ w'.ownsRow w.heap.size 76 3 (.slice B r.length c') r.length (cellsR r) ∧ Below w.heap.size w w' := by
  refine (rget_walk h hb hnc hn5 hc5).mono ?_
  intro e w' H
  unfold RGetPost RGetP at H
  rw [hd] at H
  obtain ⟨⟨v', rfl, ho⟩, b⟩ := H
  obtain ⟨B, c', rfl⟩ := own_slice ho
  exact ⟨B, c', rfl, ho, b⟩
def RRowsP (w : World) (o : Option (List (List V) × Nat)) (e : Ending) (w' : World) : Prop :=
  (match o with
  | some (rows, _) => ∃ A c hds, e = .returned (.tuple #[.slice A rows.length c, .bool true]) ∧ w'.ownsRow w.heap.size 24 1 (.slice A rows.length c) rows.length hds ∧ OwnRs w' w.heap.size hds rows
  | none => e = .returned (.tuple #[.slice none 0 0, .bool false])) ∧ Below w.heap.size w w'
theorem RRowsP.none {w w' : World} {o : Option (List (List V) × Nat)} (h : o = Option.none) {e : Ending} (he : e = .returned (.tuple #[.slice Option.none 0 0, .bool false])) (b : Below w.heap.size w w') : RRowsP w o e w' := by
  subst h
  exact ⟨he, b⟩
theorem rrows_len {w : World} {A : Option Addr} {n c : Nat} {p : List Int} (hl : p.length = n) (h : n ≠ 256) : Calls Try.prog 40 #[.slice A n c] w (RRowsP w (scanS p)) := by
  have HS := Lib.hid (show scanS p = none by unfold scanS; rw [if_neg (by omega)])
  have hn : ((n : Int) != 256) = true := by simp; omega
  clear hl
  go_enter Try.func40, Try.ntmps40
  go_wp2
  go_ret2
  exact RRowsP.none HS.out rfl (Below.refl _ _)
set_option maxRecDepth 6000 in
set_option maxHeartbeats 400000 in
theorem rrows_ok {w : World} {ad : Addr} {c k : Nat} {t : List Int} (h : Rd1 w (some ad) 256 (u8s ((k : Int) :: t))) (hb : isB ((k : Int) :: t)) (hk5 : k ≤ 255) (hc : 256 ≤ c) (hc6 : c ≤ 9223372036854775807) : Calls Try.prog 40 #[.slice (some ad) 256 c] w (RRowsP w (scanS ((k : Int) :: t))) := by
  obtain ⟨c0, had, hn⟩ := rd_head h
  obtain ⟨p, hp⟩ : ∃ p, p = (k : Int) :: t := ⟨_, rfl⟩
  have hp0 : (p.getD 0 0).toNat = k := by rw [hp]; simp
  rw [← hp] at h hb ⊢
  have HH := Lib.hid (And.intro h (And.intro hb (And.intro (show p.length = 256 by simpa using h.1) hp0)))
  clear h hb hp hn hp0
  go_enter Try.func40, Try.ntmps40
  go_wp2
  go_loopw [4, 5, 6] (fun o q x wr => ∃ (i a : Nat) (A : Option Addr) (C : Nat) (hds : List Value) (rows : List (List V)), i ≤ k ∧ a ≤ 256 ∧ q = .int .i64 a ∧ x = .int .i64 i ∧ o = .slice A i C ∧ rows.length = i ∧ refA p k 1 [] = refA p (k - i) a rows ∧ wr.ownsRow w.heap.size 24 1 (.slice A i C) i hds ∧ OwnRs wr w.heap.size hds rows ∧ Below w.heap.size w wr) (fun _ _ x _ => k - (intOf x).toNat)
  case atStart => exact ⟨0, 1, none, 0, [], [], by omega, by omega, rfl, rfl, rfl, rfl, rfl, World.ownsRow_nil _ _ _ _, OwnRs.nil _ _, Below.refl _ _⟩
  case round =>
    obtain ⟨i, a, A, C, hds, rows, hi, ha, rfl, rfl, rfl, hrl, hsc, ho, hrs, bel⟩ := hrel
    have szr := bel.size
    have c0 := (bel.cell had).trans c0
    by_cases hlt : i < k
    · rw [show k - i = k - (i + 1) + 1 by omega, refA_succ] at hsc
      have R2 : ∃ ad2, (if c = a then some ad else some (ad.add a)) = some ad2 ∧ Rd1 wr (some ad2) (256 - a) (u8s (p.drop a)) := by
        by_cases hae : c = a
        · refine ⟨ad, by rw [if_pos hae], ?_⟩
          obtain rfl : a = 256 := by omega
          rw [List.drop_eq_nil_iff.2 (by rw [HH.out.2.2.1]; omega)]
          exact ⟨by simp, by omega, fun h => absurd h (by omega)⟩
        · refine ⟨ad.add a, by rw [if_neg hae], ?_⟩
          have := (HH.out.1.below bel).drop (h := a) ha
          rwa [← List.map_drop] at this
      obtain ⟨ad2, had2, hr2⟩ := R2
      have hbt : isB (p.drop a) := HH.out.2.1.drop a
      have HG := Lib.hid (And.intro ho (And.intro hrs (And.intro bel hrl)))
      have hac : a ≤ c := by omega
      have ha2 : ¬ (256 : Int) < a := by omega
      cases hd : decR (p.drop a) with
      | none =>
        rw [hd] at hsc
        have HD := Lib.hid (ref_none HH.out.2.1 (by rw [HH.out.2.2.2]; exact hsc))
        have HC := rget_none (c := c - a) hr2 hbt (by omega) (by omega) (by omega) hd
        rw [← had2] at HC
        have HC := Lib.hid HC
        clear hr2 hbt ho hrs bel hd hsc hrl had2
        go_wp2_with (go_at_call 58; refine HC.out.mono ?_; rintro e w2 ⟨rfl, b2⟩)
        all_goals go_ret2
        all_goals exact RRowsP.none HD.out rfl (HG.out.2.2.1.trans (b2.mono szr))
      | some x =>
        obtain ⟨r, m⟩ := x
        rw [hd] at hsc
        have S := decR_sound hbt hd
        have hm : a + m ≤ 256 := by
          have := S.2.2.2
          rw [List.length_drop, HH.out.2.2.1] at this
          omega
        have HC := rget_some (c := c - a) hr2 hbt (by omega) (by omega) (by omega) hd
        rw [← had2] at HC
        have HC := Lib.hid HC
        have HR := Lib.hid S.1
        replace hsc : refA p k 1 [] = refA p (k - (i + 1)) (a + m) (rows ++ [r]) := hsc
        have HD := Lib.hid hsc
        clear hr2 hbt ho hrs bel hd hsc hrl had2 S
        go_wp2_with (first
          | (go_at_call 58; refine HC.out.mono ?_; rintro e w2 ⟨B, c', rfl, hrow, b2⟩; have HRow := Lib.hid (own_lower hrow szr); have h3 := own_below HG.out.1 b2; have s3 : w.heap.size ≤ w2.heap.size := Nat.le_trans szr b2.size; have B3 := Lib.hid (HG.out.2.2.1.trans (b2.mono szr)); have RS3 := Lib.hid (HG.out.2.1.below b2); clear hrow b2)
          | (at_builtin; refine wp_append1 w.heap.size rfl (.tmp 35) (.tmp 37) 38 24 (.slice none 0 0) 1 24 rfl Try.underlying38 info_L rfl (by omega) (by omega) (.slice A i C) i _ [.slice B r.length c'] rfl rfl (by simp) rfl (by simp [Value.oneCell']) h3 s3 (by omega) ?_; intro v1 w4 h4 t4 _))
        all_goals
          obtain ⟨A4, c4, rfl⟩ := own_slice h4
          have B4 := below_turn B3.out t4 s3 (fun i hi => own_ge h3 hi)
          have RS4 := (RS3.out.snoc HRow.out HR.out).turn t4 (fun v n r hv k hk => own_ne_own hv h3 (by decide) hk)
          go_roundw
        all_goals first
          | exact ⟨i + 1, a + m, A4, c4, _, _, by omega, hm, by go_num, by go_num, rfl, by have := HG.out.2.2.2; simp [this], HD.out, h4, RS4, B4⟩
          | (simp [intOf]; done)
          | (simp [intOf]; omega)
    · obtain rfl : i = k := by omega
      rw [Nat.sub_self] at hsc
      replace hsc : refA p i 1 [] = some rows := hsc
      have S := ref_some HH.out.2.1 HH.out.2.2.1 (by rw [HH.out.2.2.2]; exact hsc)
      have HM := make_walk (c := C) (RdL.of_own ho hrs) S.1 hk5
      unfold MakePost at HM
      have HG := Lib.hid (And.intro ho (And.intro hrs (And.intro bel hrl)))
      by_cases hu : 256 < usedN rows
      · simp only [hu, if_true] at HM
        have HM := Lib.hid HM
        have HD := Lib.hid (S.2.1 hu)
        clear S ho hrs bel hsc hrl hu
        go_wp2_with (go_at_call 35; refine HM.out.mono ?_; rintro e w2 ⟨rfl, b2⟩)
        go_ret2
        exact RRowsP.none HD.out rfl (HG.out.2.2.1.trans (b2.mono szr))
      · simp only [hu, if_false] at HM
        have HM := Lib.hid HM
        obtain ⟨s2, hs2⟩ : ∃ s2, s2 = strOf p := ⟨_, rfl⟩
        have HCp := Lib.hid (fun W (b : Below w.heap.size w W) => by have := conv_rd (c := c) (HH.out.1.below b); rw [← hs2] at this; exact this)
        by_cases he : mkP rows = p
        · have HD := Lib.hid (S.2.2.2 (by omega) he)
          rw [he] at HM
          clear S ho hrs bel hsc hrl hu he
          have HS := Lib.hid hs2
          clear hs2
          go_wp2_with (go_at_call 35; refine HM.out.mono ?_; rintro e w2 ⟨⟨Aq, cq, rfl, hq⟩, b2⟩; have B2 := HG.out.2.2.1.trans (b2.mono szr); have hcp := HCp.out _ B2; have hcq := conv_rd (c := cq) (Rd1.of_own hq).2; rw [← HS.out] at hcq; have HB2 := Lib.hid (And.intro b2 B2); clear hq b2 B2)
          go_ret2
          rw [HD.out]
          have h5 := own_below HG.out.1 HB2.out.1
          obtain rfl := HG.out.2.2.2
          exact ⟨⟨_, _, _, rfl, h5, HG.out.2.1.below HB2.out.1⟩, HB2.out.2⟩
        · have HD := Lib.hid (S.2.2.1 (by omega) he)
          have hne := str_ne (isB_mkP rows S.1 (by omega)) HH.out.2.1 he
          obtain ⟨s1, hs1⟩ : ∃ s1, s1 = strOf (mkP rows) := ⟨_, rfl⟩
          rw [← hs1, ← hs2] at hne
          have HS1 := Lib.hid hs1
          clear S ho hrs bel hsc hrl hu he hs1 hs2
          go_wp2_with (go_at_call 35; refine HM.out.mono ?_; rintro e w2 ⟨⟨Aq, cq, rfl, hq⟩, b2⟩; have B2 := HG.out.2.2.1.trans (b2.mono szr); have hcp := HCp.out _ B2; have hcq := conv_rd (c := cq) (Rd1.of_own hq).2; rw [← HS1.out] at hcq; have HB2 := Lib.hid (And.intro b2 B2); clear hq b2 B2)
          go_ret2
          exact RRowsP.none HD.out rfl HB2.out.2
theorem rrows_walk {w : World} {A : Option Addr} {n c : Nat} {p : List Int} (h : RdB w A n c p) : Calls Try.prog 40 #[.slice A n c] w (RRowsP w (scanS p)) := by
  have hl : p.length = n := by simpa using h.rd.1
  by_cases hn : n = 256
  · subst hn
    obtain ⟨ad, rfl, _⟩ := h.rd.at2 (k := 0) (by omega)
    match p, h, hl with
    | k :: t, h, _ =>
      have hk := h.isb k (by simp)
      obtain ⟨k, rfl⟩ : ∃ j : Nat, k = j := ⟨k.toNat, by omega⟩
      exact rrows_ok h.rd h.isb (by omega) h.cap h.c64
  · exact rrows_len hl hn
end Go.Proofs.Ytlldkdhpilcilaa
