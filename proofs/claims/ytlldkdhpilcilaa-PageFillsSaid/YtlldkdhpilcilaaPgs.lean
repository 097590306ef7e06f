/- page.Pages. -/
import Derived.Test.YtlldkdhpilcilaaRfB
namespace Go.Proofs.Ytlldkdhpilcilaa
open Go.RowKit
set_option linter.unusedVariables false
set_option linter.unusedSimpArgs false

/-- Pages that are read. -/
structure RdP (w : World) (A : Option Addr) (n : Nat) (hds : List Value) (ps : List (List Int)) : Prop where
  hd : Rd1 w A n hds
  len : ps.length = n
  pg : ∀ (i : Nat) p, ps[i]? = some p → ∃ B m c, hds[i]? = some (Value.slice B m c) ∧ RdB w B m c p
theorem RdP.below {w w' : World} {A : Option Addr} {n : Nat} {hds : List Value} {ps : List (List Int)} (h : RdP w A n hds ps) (hb : Below w.heap.size w w') : RdP w' A n hds ps :=
  ⟨h.hd.below hb, h.len, fun i p hp => by
    obtain ⟨B, m, c, e, h2⟩ := h.pg i p hp
    exact ⟨B, m, c, e, h2.below hb⟩⟩
theorem RdP.at_ {w : World} {A : Option Addr} {n : Nat} {hds : List Value} {ps : List (List Int)} (h : RdP w A n hds ps) {k : Nat} (hk : k < n) :
    ∃ ad B m c p, A = some ad ∧ ad.block < w.heap.size ∧ ps[k]? = some p ∧ w.cell? (ad.add k) = some (.slice B m c) ∧ RdB w B m c p := by
  obtain ⟨ad, e, hlt, hc⟩ := h.hd.at2 hk
  have hl : k < ps.length := by have := h.len; omega
  obtain ⟨B, m, c, e2, h2⟩ := h.pg k _ (List.getElem?_eq_getElem hl)
  exact ⟨ad, B, m, c, _, e, hlt, List.getElem?_eq_getElem hl, hc.trans e2, h2⟩
def allS : List (List Int) → Option (List (List V))
  | [] => some []
  | p :: t => match scanS p with
    | none => none
    | some (r, _) => match allS t with
      | none => none
      | some l => some (r ++ l)
theorem OwnRs.append {w : World} {base : Nat} {h1 h2 : List Value} {r1 r2 : List (List V)} (a : OwnRs w base h1 r1) (b : OwnRs w base h2 r2) : OwnRs w base (h1 ++ h2) (r1 ++ r2) := by
  refine ⟨by rw [List.length_append, List.length_append, a.len, b.len], fun i x r hx hr => ?_, fun r hr => (List.mem_append.1 hr).elim (a.ok r) (b.ok r)⟩
  rcases Nat.lt_or_ge i h1.length with hl | hl
  · rw [List.getElem?_append_left hl] at hx
    rw [List.getElem?_append_left (by rw [← a.len]; exact hl)] at hr
    exact a.own i x r hx hr
  · rw [List.getElem?_append_right hl] at hx
    rw [List.getElem?_append_right (by rw [← a.len]; exact hl), ← a.len] at hr
    exact b.own _ x r hx hr
theorem scanS_rows {p : List Int} (hb : isB p) {rows : List (List V)} {a : Nat} (h : scanS p = some (rows, a)) : rows.length ≤ 128 := by
  have := (scanS_sound hb h).1.fit
  unfold usedN at this
  omega
theorem allS_drop_none {ps : List (List Int)} {k : Nat} {p : List Int} (h : ps[k]? = some p) (hs : scanS p = none) : allS (ps.drop k) = none := by
  obtain ⟨hl, e⟩ := List.getElem?_eq_some_iff.1 h
  rw [List.drop_eq_getElem_cons hl, e]
  unfold allS
  rw [hs]
theorem allS_drop_some {ps : List (List Int)} {k : Nat} {p : List Int} (h : ps[k]? = some p) {r : List (List V)} {a : Nat} (hs : scanS p = some (r, a)) : allS (ps.drop k) = (allS (ps.drop (k + 1))).map (r ++ ·) := by
  obtain ⟨hl, e⟩ := List.getElem?_eq_some_iff.1 h
  rw [List.drop_eq_getElem_cons hl, e]
  conv => lhs; unfold allS
  rw [hs]
  cases allS (ps.drop (k + 1)) <;> rfl
def PagesP (w : World) (o : Option (List (List V))) (e : Ending) (w' : World) : Prop :=
  (match o with
  | some rows => ∃ A c hds, e = .returned (.tuple #[.slice A rows.length c, .int .i64 0]) ∧ w'.ownsRow w.heap.size 24 1 (.slice A rows.length c) rows.length hds ∧ OwnRs w' w.heap.size hds rows
  | none => e = .returned (.tuple #[.slice none 0 0, .int .i64 40])) ∧ Below w.heap.size w w'
theorem PagesP.none {w w' : World} {o : Option (List (List V))} (h : o = Option.none) {e : Ending} (he : e = .returned (.tuple #[.slice Option.none 0 0, .int .i64 40])) (b : Below w.heap.size w w') : PagesP w o e w' := by
  subst h
  exact ⟨he, b⟩
theorem OwnRs.one {w : World} {base : Nat} {hds : List Value} {rows : List (List V)} (h : OwnRs w base hds rows) : ∀ u ∈ hds, u.oneCell' = true := by
  intro u hu
  obtain ⟨i, hi, rfl⟩ := List.getElem_of_mem hu
  have hx : hds[i]? = some hds[i] := List.getElem?_eq_getElem hi
  obtain ⟨r, hr⟩ : ∃ r, rows[i]? = some r := ⟨_, List.getElem?_eq_getElem (by rw [← h.len]; exact hi)⟩
  obtain ⟨B, c, e⟩ := own_slice (h.own i _ r hx hr)
  rw [e]
  rfl
set_option maxHeartbeats 400000 in
theorem pages_walk {w : World} {A : Option Addr} {n c : Nat} {hds : List Value} {ps : List (List Int)} (hl : RdP w A n hds ps) (hn : n ≤ 10000) : Calls Try.prog 45 #[.slice A n c] w (PagesP w (allS ps)) := by
  have hlen := hl.len
  have HL := Lib.hid hl
  have HN := Lib.hid hlen
  clear hl hlen
  go_enter Try.func45, Try.ntmps45
  go_wp2
  go_loopw [4, 11] (fun o x wr => ∃ (k m : Nat) (B : Option Addr) (C : Nat) (hs : List Value) (rows : List (List V)), k ≤ n ∧ m ≤ 128 * k ∧ x = .int .i64 k ∧ o = .slice B m C ∧ rows.length = m ∧ allS ps = (allS (ps.drop k)).map (rows ++ ·) ∧ wr.ownsRow w.heap.size 24 1 (.slice B m C) m hs ∧ OwnRs wr w.heap.size hs rows ∧ Below w.heap.size w wr) (fun _ x _ => n - (intOf x).toNat)
  case atStart => exact ⟨0, 0, none, 0, [], [], by omega, by omega, rfl, rfl, rfl, by simp, World.ownsRow_nil _ _ _ _, OwnRs.nil _ _, Below.refl _ _⟩
  case round =>
    obtain ⟨k, m, B, C, hs, rows, hk, hm, rfl, rfl, hrl, hall, ho, hrs, bel⟩ := hrel
    have szr := bel.size
    by_cases hlt : k < n
    · obtain ⟨ad, D, pm, pc, p, rfl, had, hp, hcell, hrb⟩ := (HL.out.below bel).at_ hlt
      have HG := Lib.hid (And.intro ho (And.intro hrs (And.intro bel hrl)))
      cases hsc : scanS p with
      | none =>
        have HD := Lib.hid (show allS ps = none by rw [hall, allS_drop_none hp hsc]; rfl)
        have HC := Lib.hid (prows_no hrb hsc)
        clear ho hrs bel hrl hall hp hrb hsc
        go_wp2_with (go_at_call 38; refine HC.out.mono ?_; rintro e w2 ⟨rfl, b2⟩)
        go_ret2
        exact PagesP.none HD.out rfl (HG.out.2.2.1.trans (b2.mono szr))
      | some x =>
        obtain ⟨r, a⟩ := x
        have hr5 := scanS_rows hrb.isb hsc
        have HD := Lib.hid (show allS ps = (allS (ps.drop (k + 1))).map ((rows ++ r) ++ ·) by
          rw [hall, allS_drop_some hp hsc, Option.map_map]
          congr 1
          funext l
          simp)
        have HC := prows_yes hrb hsc
        obtain ⟨q, hq⟩ : ∃ q, q = r.length := ⟨_, rfl⟩
        rw [← hq] at HC hr5
        have HC := Lib.hid HC
        have HQ := Lib.hid hq
        clear ho hrs bel hrl hall hp hrb hsc hq
        go_wp2_with (first
          | (go_at_call 38; refine HC.out.mono ?_; rintro e w2 ⟨E, c', hr, rfl, hro, hrr, b2⟩; have HR2 := Lib.hid (And.intro hro hrr); have HO2 := Lib.hid (own_below HG.out.1 b2); have HRS2 := Lib.hid (HG.out.2.1.below b2); have B2 := Lib.hid (HG.out.2.2.1.trans (b2.mono szr)); clear hro hrr b2)
          | (at_builtin; refine wp_appendL w.heap.size rfl (.tmp 23) (.tmp 24) 38 24 (.slice none 0 0) 1 24 rfl Try.underlying38 info_L rfl (by omega) (by omega) (.slice B m C) m _ rfl E q c' hr rfl (by rw [HR2.out.2.len, ← HQ.out]; omega) (fun h => by obtain ⟨ad, e, _, hc⟩ := (Rd1.of_own HR2.out.1).2.2.2 h; exact ⟨ad, e, hc⟩) HR2.out.2.one HO2.out B2.out.size (by omega) ?_; intro v1 w4 h4 t4 _))
        obtain ⟨A4, c4, rfl⟩ := own_slice h4
        have B4 := below_turn B2.out t4 B2.out.size (fun i hi => own_ge HO2.out hi)
        have RS4 := (HRS2.out.append (HR2.out.2.lower szr)).turn t4 (fun v n r hv k hk => own_ne_own hv HO2.out (by decide) hk)
        go_roundw
        case rel => exact ⟨k + 1, m + q, A4, c4, _, _, by omega, by omega, by go_num, rfl, by rw [List.length_append, HG.out.2.2.2, HQ.out], HD.out, h4, RS4, B4⟩
        case measure => simp [intOf]; omega
    · obtain rfl : k = n := by omega
      have HD := Lib.hid (show allS ps = some rows by rw [hall, List.drop_eq_nil_iff.2 (by rw [HN.out]; omega)]; simp [allS])
      have HG := Lib.hid (And.intro ho (And.intro hrs (And.intro bel hrl)))
      clear ho hrs bel hrl hall
      go_wp2
      go_ret2
      rw [HD.out]
      obtain rfl := HG.out.2.2.2
      exact ⟨⟨_, _, _, rfl, HG.out.1, HG.out.2.1⟩, HG.out.2.2.1⟩
end Go.Proofs.Ytlldkdhpilcilaa
