/- SpillKeeps: what was written is read, or it is told why not. -/
import Derived.Test.YtkbapoeilcapfaaGreatMC
import Derived.Test.YtkbapoeilcapfaaGreatMD
import Derived.Test.YtkbapoeilcapfaaGreatMG
import Derived.Test.YtkbapoeilcapfaaGreatMY
import Derived.Test.YtkbapoeilcapfaaGreatMX
import Derived.SliceStrings
import Derived.Deep.Slices
import Derived.Deep.Fields
import Derived.ChangeArms
/- SameList of rows (printed by mkYF.py from h/Keeps, h/PReads). -/
namespace Go.Proofs.YtkbapoeilcapfaaGreat
open Go.RowKit
set_option linter.unusedVariables false
set_option linter.unusedSimpArgs false
theorem samelist_rows {w : World} {A A2 : Option Addr} {n c c2 : Nat} (xs ys : List It) (ha : Rd1 w A n (xs.map Prod.fst)) (hb : Rd1 w A2 n (ys.map Prod.fst)) (hx : RdIts w xs) (hy : RdIts w ys) (he : xs.map Prod.snd = ys.map Prod.snd) :
    Calls Tryz.prog 18 #[.slice A n c, .slice A2 n c2] w fun e w' => e = .returned (.bool true) ∧ Below w.heap.size w w' := by
  have hn := ha.2.1
  have hlx : xs.length = n := by simpa using ha.1
  have hly : ys.length = n := by simpa using hb.1
  have HLX := Lib.hid (And.intro hlx hly)
  clear hlx hly
  go_enter Tryz.func18, Tryz.ntmps18
  go_wp2
  go_loopw [5] (fun i wr => ∃ k : Nat, k ≤ n ∧ i = .int .i64 k ∧ Below w.heap.size w wr) (fun i _ => n - (intOf i).toNat)
  case atStart => exact ⟨0, by omega, rfl, Below.refl _ _⟩
  case round =>
    obtain ⟨k, hk, rfl, bel⟩ := hrel
    by_cases hlt : k < n
    · obtain ⟨ad, rfl, had, hc⟩ := (ha.below bel).at2 hlt
      obtain ⟨ad2, rfl, had2, hc2⟩ := (hb.below bel).at2 hlt
      have h1 : k < xs.length := by have := HLX.out.1; omega
      have h2 : k < ys.length := by have := HLX.out.2; omega
      obtain ⟨B, m, cc, e1, hrv⟩ := (hx.below bel) xs[k] (List.getElem_mem h1)
      obtain ⟨B2, m2, cc2, e2, hrv2⟩ := (hy.below bel) ys[k] (List.getElem_mem h2)
      have hs : xs[k].2 = ys[k].2 := by
        have := congrArg (fun l => l[k]?) he
        simpa [h1, h2] using this
      rw [List.getElem?_map, List.getElem?_eq_getElem h1, Option.map_some, e1] at hc
      rw [List.getElem?_map, List.getElem?_eq_getElem h2, Option.map_some, e2] at hc2
      rw [← hs] at hrv2
      generalize xs[k].2 = r at hrv hrv2
      have em : m2 = m := by have := hrv.len; have := hrv2.len; omega
      subst em
      have HS := Lib.hid (fun (W : World) (b : Below wr.heap.size wr W) => same_same (c := cc) (c2 := cc2) r (hrv.below b) (hrv2.below b))
      have HB0 := Lib.hid (below_drew (Below.refl wr.heap.size wr))
      clear ha hb hx hy he hrv hrv2 e1 e2 hs h1 h2
      go_wp2
      go_region_with (go_at_call 44; refine (HS.out _ HB0.out).mono ?_; rintro e w1 ⟨rfl, b1⟩)
      all_goals
        have b2 : Below w.heap.size w w1 := (below_drew bel).trans (b1.mono bel.size)
        go_wp2
        go_roundw
      all_goals first
        | exact ⟨k + 1, by omega, by go_num, b2⟩
        | (simp [intOf]; omega)
    · clear ha hb hx hy he
      go_wp2
      go_ret
      exact ⟨by trivial, bel⟩

theorem RdL.its {w : World} {A : Option Addr} {n : Nat} {hds : List Value} {rows : Rows} (h : RdL w A n hds rows) : (hds.zip rows).map Prod.fst = hds ∧ (hds.zip rows).map Prod.snd = rows ∧ RdIts w (hds.zip rows) := by
  have hl : hds.length = rows.length := by rw [h.len]; exact h.hd.1
  refine ⟨List.map_fst_zip (by omega), List.map_snd_zip (by omega), fun x hx => ?_⟩
  obtain ⟨i, hi, e⟩ := List.getElem_of_mem hx
  have hz : (hds.zip rows)[i]? = some x := by rw [← e]; exact List.getElem?_eq_getElem hi
  rw [List.getElem?_zip_eq_some] at hz
  obtain ⟨B, m, c, e2, hr⟩ := h.row i x.2 hz.2
  rw [hz.1] at e2
  exact ⟨B, m, c, Option.some.inj e2, hr⟩
theorem samelist_rdl {w : World} {A A2 : Option Addr} {n c c2 : Nat} {hds hds2 : List Value} {rows : Rows} (h1 : RdL w A n hds rows) (h2 : RdL w A2 n hds2 rows) :
    Calls Tryz.prog 18 #[.slice A n c, .slice A2 n c2] w fun e w' => e = .returned (.bool true) ∧ Below w.heap.size w w' := by
  obtain ⟨a1, a2, a3⟩ := h1.its
  obtain ⟨b1, b2, b3⟩ := h2.its
  exact samelist_rows _ _ (by rw [a1]; exact h1.hd) (by rw [b1]; exact h2.hd) a3 b3 (by rw [a2, b2])
end Go.Proofs.YtkbapoeilcapfaaGreat

/- SpillKeeps as a plain law: what was written is read, or it is told why not; a file's pages are as many as Fill's. -/
namespace Go.Proofs.YtkbapoeilcapfaaGreat
set_option linter.unusedVariables false
set_option linter.unusedSimpArgs false

/-- One file and no other. -/
def One (d : Ds) (n : Int) : Prop := ∃ ps, d.fs = [(n, ps)]
section
variable {R : Int} {F : List Int} {G : Int} {d : Ds} {h n : Int} {x : Ws} {y : Rs} {r : List V} {L rows : List (List V)}
theorem One.app {p : Pg} (o : One d n) : One (d.app R F n p) n := by
  obtain ⟨ps, h⟩ := o
  unfold Ds.app
  split
  · exact ⟨ps ++ [p], by simp [addPg, h]⟩
  · split
    · exact ⟨ps, h⟩
    · exact ⟨ps, h⟩
theorem One.flush (o : One d x.file) : One (x.flushD R F d) x.file := by
  unfold Ws.flushD
  split
  · exact o.app
  · exact o
theorem One.put (o : One d x.file) : One (x.putD R F d r) x.file := by
  unfold Ws.putD
  split
  · exact o
  · split
    · exact o.flush
    · exact o
theorem One.find (o : One d n) : ∃ ps, d.find n = some ps ∧ d.fs = [(n, ps)] := by
  obtain ⟨ps, h⟩ := o
  exact ⟨ps, by unfold Ds.find; rw [h]; simp, h⟩
theorem One.del (o : One d n) : (d.del n).fs = [] := by
  obtain ⟨ps, h1, h2⟩ := o.find
  unfold Ds.del
  rw [h1]
  simp [h2]
theorem del_nil (h : d.fs = []) (n : Int) : (d.del n).fs = [] := by
  unfold Ds.del
  split
  · exact h
  · simp [h]
theorem putAll_one : ∀ (rows : List (List V)) {d : Ds} {x : Ws}, One d x.file → One (putAll R F d x rows).d x.file ∧ (putAll R F d x rows).x.file = x.file ∧ (putAll R F d x rows).x.ended = x.ended
  | [], d, x, o => ⟨o, rfl, rfl⟩
  | r :: t, d, x, o => by
    have hp := put_n (R := R) (F := F) (d := d) (x := x) (r := r)
    unfold putAll
    split
    · have := putAll_one t (d := x.putD R F d r) (x := x.putX R F d r) (by rw [hp.2.1]; exact o.put)
      rw [hp.2.1, hp.2.2] at this
      exact this
    · exact ⟨o.put, hp.2.1, hp.2.2⟩
/-- As many pages as Fill has laid, the last one still in memory. -/
structure Cnt (d : Ds) (x : Ws) (L : List (List V)) : Prop where
  pages : ∃ ps, d.find x.file = some ps ∧ ps.length = (fillF L).1.length
  rows : x.rows = (fillF L).2
theorem fillF_end (L : List (List V)) (r : List V) : fillF (L ++ [r]) = stepF (fillF L) r := by unfold fillF; rw [List.foldl_append]; rfl
theorem fillF_ne (L : List (List V)) (h : L ≠ []) : (fillF L).2 ≠ [] := by
  obtain ⟨a, b, rfl⟩ : ∃ a b, L = a ++ [b] := ⟨L.dropLast, L.getLast h, (List.dropLast_concat_getLast h).symm⟩
  rw [fillF_end]
  unfold stepF
  split <;> simp
theorem flush_pages (W : Wrote d x L) (hE : x.flushE R F d = 0) {ps : List Pg} (hf : d.find x.file = some ps) : ∃ ps', (x.flushD R F d).find x.file = some ps' ∧ ps'.length = if x.rows = [] then ps.length else ps.length + 1 := by
  unfold Ws.flushE at hE
  unfold Ws.flushD
  by_cases hr : x.rows = []
  · rw [if_neg (by simp [hr]), if_pos hr]
    exact ⟨ps, hf, rfl⟩
  · rw [if_pos ⟨W.wr, hr⟩] at hE ⊢
    rw [if_neg hr]
    exact ⟨ps ++ [mkP x.rows], by rw [app_find, if_pos hE, hf]; simp, by simp⟩
theorem put_may (W : Wrote d x L) (hE : x.putE R F d r = 0) : mayE r = 0 := by
  unfold Ws.putE at hE
  rw [stop_may W] at hE
  by_cases h : mayE r ≠ 0
  · rw [if_pos h] at hE; exact hE
  · simpa using h
theorem put_cnt (W : Wrote d x L) (c : Cnt d x L) (hE : x.putE R F d r = 0) : Cnt (x.putD R F d r) (x.putX R F d r) (L ++ [r]) := by
  have hm := put_may W hE
  have hp := put_n (R := R) (F := F) (d := d) (x := x) (r := r)
  obtain ⟨ps, h1, h2⟩ := c.pages
  refine ⟨?_, ?_⟩
  · rw [hp.2.1, fillF_end]
    unfold Ws.putD stepF
    rw [stop_may W, if_neg (by rw [hm]; decide), ← c.rows]
    by_cases hu : 256 < usedN (x.rows ++ [r])
    · unfold Ws.putE at hE
      rw [stop_may W, if_neg (by rw [hm]; decide), if_pos hu] at hE
      rw [if_pos hu, if_pos hu]
      obtain ⟨ps', g1, g2⟩ := flush_pages W hE h1
      refine ⟨ps', g1, ?_⟩
      rw [g2]
      by_cases hr : x.rows = []
      · exfalso
        rw [hr] at hu
        have := (mayE_zero hm).2
        rw [List.nil_append, usedN_one] at hu
        omega
      · rw [if_neg hr, h2]
        simp
    · rw [if_neg hu, if_neg hu]
      exact ⟨ps, h1, h2⟩
  · rw [fillF_end]
    unfold Ws.putX stepF
    rw [stop_may W, if_neg (by rw [hm]; decide), ← c.rows]
    by_cases hu : 256 < usedN (x.rows ++ [r])
    · unfold Ws.putE at hE
      rw [stop_may W, if_neg (by rw [hm]; decide), if_pos hu] at hE
      rw [if_pos hu, if_pos hu, if_neg (by rw [hE]; decide)]
    · rw [if_neg hu, if_neg hu]
theorem putAll_wrote : ∀ (rows : List (List V)) {d : Ds} {x : Ws} {L : List (List V)}, Wrote d x L → Cnt d x L → x.n + rows.length ≤ 1000000 → (putAll R F d x rows).e = 0 →
    Wrote (putAll R F d x rows).d (putAll R F d x rows).x (L ++ rows) ∧ Cnt (putAll R F d x rows).d (putAll R F d x rows).x (L ++ rows) ∧ ∀ r ∈ rows, mayE r = 0
  | [], d, x, L, W, c, hn, hE => by rw [List.append_nil]; exact ⟨W, c, by simp⟩
  | r :: t, d, x, L, W, c, hn, hE => by
    unfold putAll at hE ⊢
    by_cases h0 : x.putE R F d r = 0
    · rw [if_pos h0] at hE ⊢
      have hp := put_n (R := R) (F := F) (d := d) (x := x) (r := r)
      have h1 := put_wrote W h0 (by simp at hn; omega)
      have := putAll_wrote t h1 (put_cnt W c h0) (by have := hp.1; simp at hn; omega) hE
      rw [List.append_assoc] at this
      refine ⟨this.1, this.2.1, fun r' hr' => ?_⟩
      rcases List.mem_cons.1 hr' with e | e
      · rw [e]; exact put_may W h0
      · exact this.2.2 r' e
    · rw [if_neg h0] at hE
      exact absurd hE h0
theorem new_one : One Ds.new.create 1 := ⟨[], rfl⟩
/-- What Write has done to a new disk. -/
structure WrOk (z : Wt) (G : Int) (rows : List (List V)) : Prop where
  num : z.n = 1
  has : Has z.d 1 rows
  one : One z.d 1
  may : ∀ r ∈ rows, mayE r = 0
  pages : ∃ ps, z.d.find 1 = some ps ∧ ps.length = (fillG rows).length
  room : ¬ G ≤ 0
theorem write_law (K : SOk R Ds.new) (hl : rows.length ≤ 1000) : (writeS R F G Ds.new 0 rows).d.le 2000 ∧ (((writeS R F G Ds.new 0 rows).e ≠ 0 ∧ (writeS R F G Ds.new 0 rows).d.fs = []) ∨ ((writeS R F G Ds.new 0 rows).e = 0 ∧ WrOk (writeS R F G Ds.new 0 rows) G rows)) := by
  have l0 : Ds.new.le 0 := ⟨by decide, by decide⟩
  have l1 := putAll_le (R := R) (F := F) (rows := rows) (x := wrX Ds.new) (le_create l0)
  unfold writeS
  by_cases hE : wrE G Ds.new 0 ≠ 0
  · rw [if_pos hE]
    exact ⟨l0.mono (by omega), .inl ⟨hE, rfl⟩⟩
  · rw [if_neg hE]
    have hG : ¬ G ≤ 0 := by
      intro h
      unfold wrE at hE
      rw [if_pos h] at hE
      exact hE (by decide)
    have hx : (wrX Ds.new).file = 1 := rfl
    have o := putAll_one (R := R) (F := F) rows (d := Ds.new.create) (x := wrX Ds.new) new_one
    rw [hx] at o
    obtain ⟨o1, o2, o3⟩ := o
    have hopn : (putAll R F Ds.new.create (wrX Ds.new) rows).x.ended = false := o3
    by_cases hP : (putAll R F Ds.new.create (wrX Ds.new) rows).e ≠ 0
    · rw [if_pos hP]
      refine ⟨(le_drop l1).mono (by omega), .inl ⟨hP, ?_⟩⟩
      show Ds.fs (Ws.dropD _ _) = []
      unfold Ws.dropD
      rw [hopn, if_neg (by decide), o2]
      exact o1.del
    · rw [if_neg hP]
      have hP : (putAll R F Ds.new.create (wrX Ds.new) rows).e = 0 := by simpa using hP
      have W0 : Wrote Ds.new.create (wrX Ds.new) [] := wr_wrote K (by decide) (by decide)
      have c0 : Cnt Ds.new.create (wrX Ds.new) [] := ⟨⟨[], rfl, rfl⟩, rfl⟩
      obtain ⟨W, c, hm⟩ := putAll_wrote rows W0 c0 (by show (0 : Int) + _ ≤ _; omega) hP
      rw [List.nil_append] at W c
      generalize (putAll R F Ds.new.create (wrX Ds.new) rows) = P at *
      refine ⟨(le_done l1).mono (by omega), ?_⟩
      dsimp only
      by_cases hD : P.x.doneE R F P.d = 0
      · refine .inr ⟨hD, ?_⟩
        obtain ⟨d1, d2⟩ := done_has W hD
        have hF : P.x.flushE R F P.d = 0 := by
          unfold Ws.doneE at hD
          rw [hopn, if_neg (by decide)] at hD
          exact hD
        have eD : P.x.doneD R F P.d = P.x.flushD R F P.d := by
          unfold Ws.doneD
          rw [hopn, if_neg (by decide), if_pos hF]
        rw [o2] at d1 d2
        refine ⟨d1, d2, ?_, hm, ?_, hG⟩
        · show One (P.x.doneD R F P.d) 1
          rw [eD, ← o2]
          exact (by rw [o2]; exact o1 : One P.d P.x.file).flush
        · show ∃ ps, (P.x.doneD R F P.d).find 1 = some ps ∧ _
          rw [eD, ← o2]
          obtain ⟨ps, p1, p2⟩ := c.pages
          obtain ⟨ps', q1, q2⟩ := flush_pages W hF p1
          refine ⟨ps', q1, ?_⟩
          rw [q2, p2, c.rows]
          unfold fillG
          by_cases hr : rows = []
          · rw [if_pos hr, hr]
            rfl
          · rw [if_neg hr, if_neg (fillF_ne rows hr)]
            simp
      · refine .inl ⟨hD, ?_⟩
        show (P.x.doneD R F P.d).fs = []
        unfold Ws.doneE at hD
        unfold Ws.doneD
        rw [hopn] at hD ⊢
        rw [if_neg (by decide)] at hD ⊢
        rw [if_neg hD]
        exact (by rw [o2]; exact o1 : One P.d P.x.file).flush.del
/-- A reader of a file with faults: a row that is left is read, or it is told why not. -/
theorem left_some_f (K : SOk R d) (h : Left d y (r :: L)) : ((y.next F d).row = some r ∧ Left (y.next F d).d (y.next F d).x L) ∨ ((y.next F d).row = none ∧ (y.next F d).e ≠ 0) := by
  obtain ⟨ps, h1, h2⟩ := h.has
  have hc : ¬ y.closed = true := by rw [h.opn]; decide
  cases hr : y.rows with
  | cons a b =>
    have en : y.next F d = ⟨some a, 0, d, ⟨y.file, y.page, b, y.closed⟩⟩ := by unfold Rs.next; rw [if_neg hc, hr]
    rw [hr] at h2
    injection h2 with e1 e2
    rw [en]
    exact .inl ⟨by rw [e1], h.opn, ps, h1, e2⟩
  | nil =>
    rw [hr, List.nil_append] at h2
    have hl : y.page < ps.length := by
      rcases Nat.lt_or_ge y.page ps.length with hl | hl
      · exact hl
      · rw [List.drop_of_length_le hl] at h2; cases h2
    cases hb : y.loadB F d with
    | false =>
      have en : y.next F d = ⟨none, y.loadE F d, y.loadD F d, y⟩ := by unfold Rs.next; rw [if_neg hc, hr]; dsimp only; rw [if_neg (by rw [hb]; decide)]
      rw [en]
      refine .inr ⟨rfl, ?_⟩
      unfold Rs.loadB at hb
      show y.loadE F d ≠ 0
      unfold Rs.loadE
      rw [h1] at hb ⊢
      dsimp only at hb ⊢
      rw [if_neg (by omega)]
      simp at hb
      exact hb (by omega)
    | true =>
      have en : y.next F d = ⟨(y.loadX F d).rows.head?, 0, y.loadD F d, ⟨y.file, y.page + 1, (y.loadX F d).rows.tail, y.closed⟩⟩ := by unfold Rs.next; rw [if_neg hc, hr]; dsimp only; rw [if_pos hb]
      obtain ⟨ps', p, g1, g2, g3, _⟩ := load_at hb
      rw [h1] at g1
      injection g1 with g1
      subst g1
      have ex : (y.loadX F d).rows = pgRows p := by unfold Rs.loadX; rw [if_pos hb, g3]
      have hm := Ds.find_mem h1
      obtain ⟨rows, q1, q2, q3, q4⟩ := K.pg _ hm p (List.mem_of_getElem? g2)
      have q5 : pgRows p = rows := by rw [q2, pgRows_mkP q4 q3]
      rw [drop_at g2, List.flatMap_cons, q5] at h2
      rw [en, ex, q5]
      cases rows with
      | nil => exact absurd rfl q1
      | cons a b =>
        injection h2 with e1 e2
        refine .inl ⟨by rw [List.head?_cons, e1], h.opn, ps, ?_, e2⟩
        show (y.loadD F d).find y.file = some ps
        have : (y.loadD F d).find y.file = d.find y.file := by unfold Ds.find; rw [load_fs]
        rw [this]
        exact h1
theorem left_none_f (K : SOk R d) (h : Left d y []) : (y.next F d).row = none := by
  obtain ⟨ps, h1, h2⟩ := h.has
  have hc : ¬ y.closed = true := by rw [h.opn]; decide
  have hr : y.rows = [] := by
    cases hr : y.rows with
    | nil => rfl
    | cons a b => rw [hr] at h2; cases h2
  rw [hr, List.nil_append] at h2
  have hl : ps.length ≤ y.page := by
    rcases Nat.lt_or_ge y.page ps.length with hl | hl
    · have hm := Ds.find_mem h1
      obtain ⟨rows, q1, q2, q3, q4⟩ := K.pg _ hm ps[y.page] (List.getElem_mem hl)
      rw [List.drop_eq_getElem_cons hl, List.flatMap_cons, q2, pgRows_mkP q4 q3] at h2
      cases rows with
      | nil => exact absurd rfl q1
      | cons a b => cases h2
    · exact hl
  have hb : y.loadB F d = false := by
    unfold Rs.loadB
    rw [h1]
    simp
    intro h
    omega
  unfold Rs.next
  rw [if_neg hc, hr]
  dsimp only
  rw [if_neg (by rw [hb]; decide)]
theorem readS_left : ∀ (f : Nat) {d : Ds} {y : Rs} {L : List (List V)}, SOk R d → Left d y L → L.length < f → (readS F f d y).e = 0 → (readS F f d y).l = L
  | 0, d, y, L, K, h, hf, hE => by omega
  | f + 1, d, y, [], K, h, hf, hE => by
    unfold readS
    rw [left_none_f K h]
  | f + 1, d, y, r :: L, K, h, hf, hE => by
    rcases left_some_f (F := F) K h with ⟨h1, h2⟩ | ⟨h1, h2⟩
    · unfold readS at hE ⊢
      rw [h1] at hE ⊢
      dsimp only at hE ⊢
      rw [readS_left f K.next h2 (by simp at hf; omega) hE]
    · unfold readS at hE
      rw [h1] at hE
      exact absurd hE h2
theorem readS_fs : ∀ (f : Nat) {d : Ds} {y : Rs}, (readS F f d y).d.fs = d.fs
  | 0, d, y => rfl
  | f + 1, d, y => by
    unfold readS
    split
    · exact (readS_fs f).trans (next_fs F d y)
    · exact next_fs F d y
theorem left_len {ps : List Pg} : rowsN ps = (ps.flatMap pgRows).length := by unfold rowsN; rw [List.length_flatMap]
/-- What All has read of a file. -/
theorem all_law (K : SOk R d) (h : Has d n L) : ((allS F d n).e = 0 → (allS F d n).l = L) ∧ (allS F d n).d.fs = d.fs := by
  refine ⟨fun hE => ?_, readS_fs _⟩
  have hl := Left.new h
  refine readS_left (R := R) _ K hl ?_ hE
  obtain ⟨ps, h1, h2⟩ := h
  unfold leftN
  rw [h1, left_len]
  simp [h2]
end
end Go.Proofs.YtkbapoeilcapfaaGreat

/- Make that fails; SpillKeeps, call by call. -/
namespace Go.Proofs.YtkbapoeilcapfaaGreat
open Go.RowKit Go.Maps
set_option linter.unusedVariables false
set_option linter.unusedSimpArgs false
set_option maxRecDepth 6000

theorem make_no {w : World} {R G : Int} {F : List Int} {A : Option Addr} {k c : Nat} (hr : RdI w A k F) (h : ¬ ((0 ≤ R ∧ R ≤ 16384) ∧ (0 ≤ G ∧ G ≤ 16384))) :
    Calls Tryz.prog 10 #[.int .i64 R, .slice A k c, .int .i64 G] w fun e w' => ∃ p q : Option Addr, e = .returned (.tuple #[.agg #[.pointer p, .pointer q, .int .i64 0], .bool false]) ∧ In w w' emp := by
  have zo := (.cells #[.pointer none, .pointer none, .int .i64 0] 29 (0, 0) : Obj)
  have V0 : In w (w.alloc (.cells #[.pointer none, .pointer none, .int .i64 0] 29)) (star emp (blkR w.heap.size (.cells #[.pointer none, .pointer none, .int .i64 0] 29 (0, 0)))) := (In.emp w).blk emp_good _
  have gF : Good (star emp (blkR w.heap.size (.cells #[.pointer none, .pointer none, .int .i64 0] 29 (0, 0)))) := star_good emp_good (blkR_good _ _)
  have key : ∃ ed el : Int, (ed = 0 → el ≠ 0) ∧ (Calls Tryz.prog 45 #[.int .i64 R, .slice A k c] (w.alloc (.cells #[.pointer none, .pointer none, .int .i64 0] 29)) fun e w' => ∃ p, e = .returned (.tuple #[.pointer p, .int .i64 ed]) ∧ In w w' (star emp (blkR w.heap.size (.cells #[.pointer none, .pointer none, .int .i64 0] 29 (0, 0))))) ∧
      ∀ W, In w W (star emp (blkR w.heap.size (.cells #[.pointer none, .pointer none, .int .i64 0] 29 (0, 0)))) → Calls Tryz.prog 46 #[.int .i64 G] W fun e w' => ∃ q, e = .returned (.tuple #[.pointer q, .int .i64 el]) ∧ In w w' (star emp (blkR w.heap.size (.cells #[.pointer none, .pointer none, .int .i64 0] 29 (0, 0)))) := by
    by_cases h1 : 0 ≤ G ∧ G ≤ 16384
    · have h2 : R < 0 ∨ 16384 < R := by omega
      refine ⟨1, 0, fun h => absurd h (by decide), (dnew_no h2).mono fun e w' hh => ⟨none, hh.1, hh.2 ▸ V0⟩, fun W V => ?_⟩
      refine (r_new gF V h1.1 h1.2).mono fun e w' hh => ?_
      obtain ⟨bl, e1, _, h3⟩ := hh
      exact ⟨_, e1, h3.right⟩
    · have h2 : G < 0 ∨ 16384 < G := by omega
      have CN : ∀ W, In w W (star emp (blkR w.heap.size (.cells #[.pointer none, .pointer none, .int .i64 0] 29 (0, 0)))) → Calls Tryz.prog 46 #[.int .i64 G] W fun e w' => ∃ q, e = .returned (.tuple #[.pointer q, .int .i64 1]) ∧ In w w' (star emp (blkR w.heap.size (.cells #[.pointer none, .pointer none, .int .i64 0] 29 (0, 0)))) := fun W V => (new_no h2).mono fun e w' hh => ⟨none, hh.1, hh.2 ▸ V⟩
      by_cases h3 : 0 ≤ R ∧ R ≤ 16384
      · refine ⟨0, 1, fun _ => by decide, ?_, CN⟩
        refine (m_disk (c := c) gF V0 (hr.below ((Below.refl _ _).alloc (Nat.le_refl _) _)) h3.1 h3.2).mono fun e w' hh => ?_
        obtain ⟨bd, e1, h4⟩ := hh
        exact ⟨_, e1, h4.right⟩
      · exact ⟨1, 1, fun h => absurd h (by decide), (dnew_no (by omega)).mono fun e w' hh => ⟨none, hh.1, hh.2 ▸ V0⟩, CN⟩
  obtain ⟨ed, el, hel, CD, CL⟩ := key
  have CD := Lib.hid CD
  have CL := Lib.hid CL
  have CE := Lib.hid (fun (p q : Option Addr) W (V : In w W (star emp (blkR w.heap.size (.cells #[.pointer none, .pointer none, .int .i64 0] 29 (0, 0))))) => show In w (((W.setCell ⟨w.heap.size, 0, none⟩ (.pointer p)).setCell ⟨w.heap.size, 1, none⟩ (.pointer q)).setCell ⟨w.heap.size, 2, none⟩ (.int .i64 0)) (star (blkR w.heap.size (.cells #[.pointer p, .pointer q, .int .i64 0] 29 (0, 0))) emp) from
    (((V.comm.put emp_good 0 (.pointer p)).put emp_good 1 (.pointer q)).put emp_good 2 (.int .i64 0)))
  clear V0 gF h hr zo
  go_enter Tryz.func10, Tryz.ntmps10
  by_cases hed : ed = 0
  · have h1 : (ed == 0) = true := by simpa using hed
    have h2 : (el == 0) = false := by simpa using hel hed
    clear hel hed
    go_wp2_with (first
      | (go_at_call 45; (with_reducible refine CD.out.mono ?_); rintro e w1 ⟨p, rfl, V⟩; have V1 := Lib.hid V; clear V)
      | (go_at_call 46; (with_reducible refine (CL.out _ V1.out).mono ?_); rintro e w2 ⟨q, rfl, V⟩; have hb := V.comm.left.get fun S h => h.1; have hc0 := cell_of_blk hb 0; have hc1 := cell_of_blk hb 1; have hc2 := cell_of_blk hb 2; have hf0 := free_of_blk hb 0; have hf1 := free_of_blk hb 1; have hf2 := free_of_blk hb 2; have V2 := Lib.hid V; clear V hb))
    have V3 := CE.out p q _ V2.out
    have hb := V3.left.get fun S h => h.1
    have V3 := Lib.hid V3.right
    generalize (((w2.setCell { block := w.heap.size, off := 0 } (.pointer p)).setCell { block := w.heap.size, off := 1 } (.pointer q)).setCell { block := w.heap.size, off := 2 } (Value.int IntKind.i64 0)) = W3 at hb V3 ⊢
    have q0 := cell_of_blk hb 0
    have q1 := cell_of_blk hb 1
    have q2 := cell_of_blk hb 2
    clear hc0 hc1 hc2 hf0 hf1 hf2 hb V2 V1 CE CL CD
    refine bodyPost_ret (v := .tuple #[.agg #[.pointer p, .pointer q, .int .i64 0], .bool false]) (by simp [results, Tryz.results10, go_sem, q0, q1, q2]) rfl ?_
    exact ⟨p, q, rfl, V3.out⟩
  · have h1 : (ed == 0) = false := by simpa using hed
    clear hel hed
    go_wp2_with (first
      | (go_at_call 45; (with_reducible refine CD.out.mono ?_); rintro e w1 ⟨p, rfl, V⟩; have V1 := Lib.hid V; clear V)
      | (go_at_call 46; (with_reducible refine (CL.out _ V1.out).mono ?_); rintro e w2 ⟨q, rfl, V⟩; have hb := V.comm.left.get fun S h => h.1; have hc0 := cell_of_blk hb 0; have hc1 := cell_of_blk hb 1; have hc2 := cell_of_blk hb 2; have hf0 := free_of_blk hb 0; have hf1 := free_of_blk hb 1; have hf2 := free_of_blk hb 2; have V2 := Lib.hid V; clear V hb))
    have V3 := CE.out p q _ V2.out
    have hb := V3.left.get fun S h => h.1
    have V3 := Lib.hid V3.right
    generalize (((w2.setCell { block := w.heap.size, off := 0 } (.pointer p)).setCell { block := w.heap.size, off := 1 } (.pointer q)).setCell { block := w.heap.size, off := 2 } (Value.int IntKind.i64 0)) = W3 at hb V3 ⊢
    have q0 := cell_of_blk hb 0
    have q1 := cell_of_blk hb 1
    have q2 := cell_of_blk hb 2
    clear hc0 hc1 hc2 hf0 hf1 hf2 hb V2 V1 CE CL CD
    refine bodyPost_ret (v := .tuple #[.agg #[.pointer p, .pointer q, .int .i64 0], .bool false]) (by simp [results, Tryz.results10, go_sem, q0, q1, q2]) rfl ?_
    exact ⟨p, q, rfl, V3.out⟩
/-- What came in. -/
structure KC (w : World) (R G : Int) (F : List Int) (A : Option Addr) (k : Nat) (B : Option Addr) (n : Nat) (hds : List Value) (rows : List (List V)) : Prop where
  hr : RdI w A k F
  hl : RdL w B n hds rows
  r : 0 ≤ R ∧ R ≤ 16384
  g : 0 ≤ G ∧ G ≤ 16384
  hk : k ≤ 100
  hn : n ≤ 500
section
variable {w W : World} {R G : Int} {F : List Int} {A B : Option Addr} {k n c cB bd bl bx bm bp bq : Nat} {hds : List Value} {rows : List (List V)} {d d2 : Ds}
theorem KC.len (C : KC w R G F A k B n hds rows) : rows.length = n := C.hl.len
abbrev K1 (bp bd bl : Nat) : Res := star (blkR bp (pbox bd bl)) emp
theorem K1_good (bp bd bl : Nat) : Good (K1 bp bd bl) := star_good (blkR_good _ _) emp_good
abbrev K2 (bp bq bd bl bx bm : Nat) : Res := star (blkR bq (xbox bx bm)) (K1 bp bd bl)
theorem K2_good (bp bq bd bl bx bm : Nat) : Good (K2 bp bq bd bl bx bm) := star_good (blkR_good _ _) (K1_good _ _ _)
theorem K1_cells {X : Res} (V : In w W (star X (K1 bp bd bl))) : PB bp bd bl W := by
  have h := V.right.left.get fun S h => h.1
  exact ⟨cell_of_blk h 0, cell_of_blk h 1, cell_of_blk h 2⟩
abbrev XB (bq bx bm : Nat) (W : World) : Prop := W.cell? ⟨bq, 0, none⟩ = some (dp bx) ∧ W.cell? ⟨bq, 1, none⟩ = some (dp bm) ∧ W.cell? ⟨bq, 2, none⟩ = some (.int .i64 0)
theorem K2_cells {X : Res} (V : In w W (star X (K2 bp bq bd bl bx bm))) : PB bp bd bl W ∧ XB bq bx bm W := by
  have h := V.right.left.get fun S h => h.1
  exact ⟨K1_cells V.drop, cell_of_blk h 0, cell_of_blk h 1, cell_of_blk h 2⟩
theorem K_make (C : KC w R G F A k B n hds rows) : Calls Tryz.prog 10 #[.int .i64 R, .slice A k c, .int .i64 G] w fun e w' => ∃ bd bl, e = .returned (.tuple #[pv bd bl, .bool true]) ∧ In w (w'.alloc (pbox bd bl)) (star (PL bd bl R F G Ds.new 0) (K1 w'.heap.size bd bl)) :=
  (make_yes emp_good (In.emp w) (fun W hW => C.hr.below hW.bel) C.r.1 C.r.2 C.g.1 C.g.2).mono fun e w' ⟨bd, bl, h1, h2⟩ => ⟨bd, bl, h1, h2.pushB (star_good (PL_good _ _ _ _ _ _ _) emp_good) _⟩
theorem K_lives (V : In w W (star (PL bd bl R F G Ds.new 0) (K1 bp bd bl))) : Calls Tryz.prog 9 #[] W fun e w' => e = .returned (.bool true) ∧ In w w' (star (PL bd bl R F G Ds.new 0) (K1 bp bd bl)) :=
  (slives W).mono fun e w' hh => ⟨hh.1, V.below (star_good (PL_good _ _ _ _ _ _ _) (K1_good _ _ _)) hh.2⟩
theorem K_xd (C : KC w R G F A k B n hds rows) (V : In w W (star (PL bd bl R F G Ds.new 0) (K1 bp bd bl))) :
    Calls Tryz.prog 11 #[.int .i64 R, .slice A k c] W fun e w' => ∃ bx, e = .returned (dp bx) ∧ In w w' (star (XR bx R F Ds.new) (star (PL bd bl R F G Ds.new 0) (K1 bp bd bl))) := by
  have g := star_good (PL_good bd bl R F G Ds.new 0) (K1_good bp bd bl)
  refine (xnew_yes C.r.1 C.r.2 (by have := C.hk; omega) (C.hr.below V.bel)).mono fun e w' hh => ?_
  obtain ⟨bx, e1, S', k1, k2, k3⟩ := hh
  refine ⟨bx, e1, ?_⟩
  refine V.ch fun S hS => ?_
  have hb : Below W.heap.size W w' := k2.below (Nat.le_refl _) (fun k hk => hk.elim)
  have hge : ∀ k, S' k → W.heap.size ≤ k := fun k hk => (k3 k hk).elim (fun h => h.elim) id
  refine ⟨fun k => S' k ∨ S k, ⟨S', S, k1, g.turn hS (Turn.of_below hb (fun _ => False)) (fun _ _ => id), ?_, fun k => Iff.rfl⟩, Turn.of_below hb S, ?_⟩
  · intro k a b
    have := g.lt hS k b
    have := hge k a
    omega
  · rintro k (a | a)
    · exact .inr (hge k a)
    · exact .inl a
theorem K_lx (C : KC w R G F A k B n hds rows) (V : In w W (star (XR bx R F Ds.new) (star (PL bd bl R F G Ds.new 0) (K1 bp bd bl)))) :
    Calls Tryz.prog 12 #[.int .i64 G] W fun e w' => ∃ bm, e = .returned (dp bm) ∧ PB bp bd bl (w'.alloc (xbox bx bm)) ∧ In w (w'.alloc (xbox bx bm)) (star (PL bd bl R F G Ds.new 0) (star (PX bx bm R F G Ds.new 0) (K2 bp w'.heap.size bd bl bx bm))) := by
  refine (lx_new_yes (star_good (XR_good _ _ _ _) (star_good (PL_good _ _ _ _ _ _ _) (K1_good _ _ _))) V C.g.1 C.g.2).mono fun e w' hh => ?_
  obtain ⟨bm, h1, h2⟩ := hh
  have K : SOk R Ds.new ∧ F.length ≤ 9223372036854775807 := ⟨SOk.new C.r.1 C.r.2, by have := C.hr.1; have := C.hk; omega⟩
  have h3 := (PX_disk' K h2.swap).swap
  have h4 := h3.pushB (star_good (PL_good _ _ _ _ _ _ _) (star_good (PX_good _ _ _ _ _ _ _) (K1_good _ _ _))) (xbox bx bm)
  have h5 := h4.imp fun S h => star_mono h (fun _ => id) (fun _ => star_swap)
  exact ⟨bm, h1, (K2_cells h5.right).1, h5⟩
theorem K_write (C : KC w R G F A k B n hds rows) (V : In w W (star (PL bd bl R F G Ds.new 0) (star (PX bx bm R F G Ds.new 0) (K2 bp bq bd bl bx bm)))) :
    Calls Tryz.prog 13 #[pv bd bl, .slice B n cB] W fun e w' => e = .returned (.tuple #[.int .i64 (writeS R F G Ds.new 0 rows).n, .int .i64 (writeS R F G Ds.new 0 rows).e]) ∧ XB bq bx bm w' ∧ In w w' (star (PL bd bl R F G (writeS R F G Ds.new 0 rows).d 0) (star (PX bx bm R F G Ds.new 0) (K2 bp bq bd bl bx bm))) :=
  (s_write (N := 0) (star_good (PX_good _ _ _ _ _ _ _) (K2_good _ _ _ _ _ _)) V (fun W' hW => C.hl.below hW.bel) ⟨by decide, by decide⟩ (by have := C.hn; omega) (by have := C.hn; omega)).mono fun e w' hh => by
    unfold WriteP at hh
    exact ⟨hh.1, (K2_cells hh.2.right).2, hh.2⟩
theorem K_xwrite (C : KC w R G F A k B n hds rows) (V : In w W (star (PL bd bl R F G d 0) (star (PX bx bm R F G Ds.new 0) (K2 bp bq bd bl bx bm)))) :
    Calls Tryz.prog 14 #[pvx bx bm, .slice B n cB] W fun e w' => e = .returned (.tuple #[.int .i64 (writeS R F G Ds.new 0 rows).n, .int .i64 (writeS R F G Ds.new 0 rows).e]) ∧ (PB bp bd bl w' ∧ XB bq bx bm w') ∧ In w w' (star (PL bd bl R F G d 0) (star (PX bx bm R F G (writeS R F G Ds.new 0 rows).d 0) (K2 bp bq bd bl bx bm))) :=
  (y_write (N := 0) (star_good (PL_good _ _ _ _ _ _ _) (K2_good _ _ _ _ _ _)) V.swap (fun W' hW => C.hl.below hW) ⟨by decide, by decide⟩ (by have := C.hn; omega) (by have := C.hn; omega)).mono fun e w' hh => by
    unfold YWriteP at hh
    exact ⟨hh.1, K2_cells hh.2.right, hh.2.swap⟩
/-- The rows that All tells. -/
def told (z : Rt) : List (List V) := if z.e ≠ 0 then [] else z.l
theorem nil_rd {X : Res} {S : Nat → Prop} (h : X W S) : star (rd (fun W => RdL W none 0 [] [])) X W S :=
  ⟨fun _ => False, S, ⟨fun _ h => h.elim, fun W _ => ⟨⟨rfl, by omega, fun h => absurd h (by omega)⟩, rfl, fun i r hr => by simp at hr⟩⟩, h, fun _ h => h.elim, fun k => by simp⟩
theorem K_all (V : In w W (star (PL bd bl R F G d 0) (star (PX bx bm R F G d 0) (K2 bp bq bd bl bx bm)))) (hle : d.le 2000) (hE : rrE G d 0 1 = 0) (hhas : Has d 1 rows) :
    Calls Tryz.prog 16 #[pv bd bl, .int .i64 1] W fun e w' => ∃ A2 c2 hds2, e = .returned (.tuple #[.slice A2 (told (allS F d 1)).length c2, .int .i64 (allS F d 1).e]) ∧ XB bq bx bm w' ∧ ((allS F d 1).e = 0 → told (allS F d 1) = rows) ∧
      In w w' (star (PL bd bl R F G (allS F d 1).d 0) (star (rd (fun W => RdL W A2 (told (allS F d 1)).length hds2 (told (allS F d 1)))) (star (PX bx bm R F G d 0) (K2 bp bq bd bl bx bm)))) := by
  have hT : (allS F d 1).e = 0 → told (allS F d 1) = rows := fun h => by
    unfold told
    rw [if_neg (by simpa using h)]
    exact (all_law (PL_ok V).1 hhas).1 h
  refine (all_yes (star_good (PX_good _ _ _ _ _ _ _) (K2_good _ _ _ _ _ _)) V (by decide) hE hle (by decide)).mono fun e w' hh => ?_
  unfold AllP at hh
  unfold told at hT ⊢
  by_cases h : (allS F d 1).e ≠ 0
  · rw [if_pos h] at hh
    simp only [if_pos h] at hT ⊢
    exact ⟨none, 0, [], hh.1, (K2_cells hh.2.right).2, hT, hh.2.imp fun S h => star_mono h (fun _ => id) (fun _ h => nil_rd h)⟩
  · rw [if_neg h] at hh
    simp only [if_neg h] at hT ⊢
    obtain ⟨A2, c2, hds2, h1, h2⟩ := hh
    have h0 : (allS F d 1).e = 0 := by simpa using h
    exact ⟨A2, c2, hds2, by rw [h0]; exact h1, (K2_cells h2.drop.right).2, hT, h2⟩
abbrev K3 (w W : World) (bp bd bl : Nat) (R : Int) (F : List Int) (G : Int) (d : Ds) (A1 A2 : Option Addr) (h1 h2 : List Value) (L : List (List V)) : Prop :=
  In w W (star (PL bd bl R F G d 0) (star (rd (fun W => RdL W A1 L.length h1 L)) (star (rd (fun W => RdL W A2 L.length h2 L)) (K1 bp bd bl))))
theorem K3_good {bp bd bl : Nat} {R : Int} {F : List Int} {G : Int} {d : Ds} {A1 A2 : Option Addr} {h1 h2 : List Value} {L : List (List V)} : Good (star (PL bd bl R F G d 0) (star (rd (fun W => RdL W A1 L.length h1 L)) (star (rd (fun W => RdL W A2 L.length h2 L)) (K1 bp bd bl)))) :=
  star_good (PL_good _ _ _ _ _ _ _) (star_good (rd_good _) (star_good (rd_good _) (K1_good _ _ _)))
theorem K_xall {A1 : Option Addr} {h1 : List Value} (V : In w W (star (PL bd bl R F G d2 0) (star (rd (fun W => RdL W A1 (told (allS F d 1)).length h1 (told (allS F d 1)))) (star (PX bx bm R F G d 0) (K2 bp bq bd bl bx bm))))) (hle : d.le 2000) (hE : rrE G d 0 1 = 0) :
    Calls Tryz.prog 17 #[pvx bx bm, .int .i64 1] W fun e w' => ∃ A2 c2 h2, e = .returned (.tuple #[.slice A2 (told (allS F d 1)).length c2, .int .i64 (allS F d 1).e]) ∧ PB bp bd bl w' ∧ K3 w w' bp bd bl R F G d2 A1 A2 h1 h2 (told (allS F d 1)) := by
  have V1 := V.imp fun S h => pull3 h
  refine (yall_yes (star_good (PL_good _ _ _ _ _ _ _) (star_good (rd_good _) (K2_good _ _ _ _ _ _))) V1 (by decide) hE hle (by decide)).mono fun e w' hh => ?_
  have key : ∀ {A2 : Option Addr} {h2 : List Value}, In w w' (star (PX bx bm R F G (allS F d 1).d 0) (star (rd (fun W => RdL W A2 (told (allS F d 1)).length h2 (told (allS F d 1)))) (star (PL bd bl R F G d2 0) (star (rd (fun W => RdL W A1 (told (allS F d 1)).length h1 (told (allS F d 1)))) (K2 bp bq bd bl bx bm))))) → PB bp bd bl w' ∧ K3 w w' bp bd bl R F G d2 A1 A2 h1 h2 (told (allS F d 1)) := by
    intro A2 h2 h
    have k1 := h.right.swap
    have k2 := k1.imp fun S h => star_mono h (fun _ => id) (fun _ h => star_swap (star_mono h (fun _ => id) (fun _ h => star_mono h (fun _ => id) (fun _ h => h))))
    have k3 : In w w' (star (PL bd bl R F G d2 0) (star (rd (fun W => RdL W A1 (told (allS F d 1)).length h1 (told (allS F d 1)))) (star (rd (fun W => RdL W A2 (told (allS F d 1)).length h2 (told (allS F d 1)))) (K2 bp bq bd bl bx bm)))) := k2
    have k4 : In w w' (star (blkR bq (xbox bx bm)) (star (PL bd bl R F G d2 0) (star (rd (fun W => RdL W A1 (told (allS F d 1)).length h1 (told (allS F d 1)))) (star (rd (fun W => RdL W A2 (told (allS F d 1)).length h2 (told (allS F d 1)))) (K1 bp bd bl))))) := k3.imp fun S h => pull4 h
    exact ⟨K1_cells k4.right.right.right, k4.right⟩
  unfold YAllP at hh
  by_cases h : (allS F d 1).e ≠ 0
  · have hT : told (allS F d 1) = [] := if_pos h
    rw [if_pos h] at hh
    rw [hT] at hh key ⊢
    exact ⟨none, 0, [], hh.1, key (hh.2.imp fun S h => star_mono h (fun _ => id) (fun _ h => nil_rd h))⟩
  · have hT : told (allS F d 1) = (allS F d 1).l := if_neg h
    rw [if_neg h] at hh
    rw [hT] at hh key ⊢
    obtain ⟨A2, c2, hds2, h1, h2⟩ := hh
    have h0 : (allS F d 1).e = 0 := by simpa using h
    exact ⟨A2, c2, hds2, by rw [h0]; exact h1, key h2⟩
section
variable {A1 A2 : Option Addr} {h1 h2 : List Value} {L : List (List V)} {c1 c2 : Nat}
theorem K_same1 (V : K3 w W bp bd bl R F G d A1 A2 h1 h2 L) : Calls Tryz.prog 18 #[.slice A1 L.length c1, .slice A2 L.length c2] W fun e w' => e = .returned (.bool true) ∧ PB bp bd bl w' ∧ K3 w w' bp bd bl R F G d A1 A2 h1 h2 L := by
  refine (samelist_rdl (V.right.left.get fun S h => rd_get h) (V.right.right.left.get fun S h => rd_get h)).mono fun e w' hh => ?_
  have V2 := V.below K3_good hh.2
  exact ⟨hh.1, K1_cells V2.right.right, V2⟩
theorem K_same2 (C : KC w R G F A k B n hds rows) (V : K3 w W bp bd bl R F G d A1 A2 h1 h2 L) (hL : L = rows) : Calls Tryz.prog 18 #[.slice A1 L.length c1, .slice B n cB] W fun e w' => e = .returned (.bool true) ∧ PB bp bd bl w' ∧ K3 w w' bp bd bl R F G d A1 A2 h1 h2 L := by
  have hr := V.right.left.get fun S h => rd_get h
  have hn : L.length = n := by rw [hL]; exact C.len
  have hl := C.hl.below V.bel
  subst hL
  rw [hn] at hr ⊢
  refine (samelist_rdl hr hl).mono fun e w' hh => ?_
  have V2 := V.below K3_good hh.2
  exact ⟨hh.1, K1_cells V2.right.right, V2⟩
theorem K_clean (V : K3 w W bp bd bl R F G d A1 A2 h1 h2 L) (i : Int) (hf : (d.fs.length : Int) = i) : Calls Tryz.prog 15 #[pv bd bl, .int .i64 i] W fun e w' => e = .returned (.bool true) ∧ PB bp bd bl w' ∧ K3 w w' bp bd bl R F G d A1 A2 h1 h2 L := by
  refine (clean_walk (star_good (rd_good _) (star_good (rd_good _) (K1_good _ _ _))) V i).mono fun e w' hh => ⟨?_, K1_cells hh.2.right.right, hh.2⟩
  rw [hh.1, hf]
  simp
theorem K_clean0 (V : In w W (star (PL bd bl R F G d 0) (star (PX bx bm R F G d2 0) (K2 bp bq bd bl bx bm)))) (hf : d.fs = []) : Calls Tryz.prog 15 #[pv bd bl, .int .i64 0] W fun e w' => e = .returned (.bool true) ∧ Below w.heap.size w w' := by
  refine (clean_walk (star_good (PX_good _ _ _ _ _ _ _) (K2_good _ _ _ _ _ _)) V 0).mono fun e w' hh => ⟨?_, hh.2.bel⟩
  rw [hh.1, hf]
  simp
theorem K_size (V : K3 w W bp bd bl R F G d A1 A2 h1 h2 L) {ps : List Pg} (hf : d.find 1 = some ps) : Calls Tryz.prog 19 #[dp bd, .int .i64 1] W fun e w' => e = .returned (.tuple #[.int .i64 (ps.length : Int), .int .i64 0]) ∧ w' = W := by
  have h := s_size (star_good (rd_good _) (star_good (rd_good _) (K1_good _ _ _))) V (n := 1) (by decide)
  rw [hf] at h
  exact h
theorem K_remove (V : K3 w W bp bd bl R F G d A1 A2 h1 h2 L) :
    Calls Tryz.prog 20 #[pv bd bl, .slice (some ⟨W.heap.size, 0, none⟩) 2 2] (W.alloc (.cells #[.int .i64 1, .int .i64 1] 3)) fun e w' => e = .returned (.tuple #[]) ∧ PB bp bd bl w' ∧ K3 w w' bp bd bl R F G (delAll d [1, 1]) A1 A2 h1 h2 L := by
  have gF : Good (star (rd (fun W => RdL W A1 L.length h1 L)) (star (rd (fun W => RdL W A2 L.length h2 L)) (K1 bp bd bl))) := star_good (rd_good _) (star_good (rd_good _) (K1_good _ _ _))
  have V1 := V.pushB (star_good (PL_good _ _ _ _ _ _ _) gF) (.cells #[.int .i64 1, .int .i64 1] 3 (0, 0))
  refine (s_remove (A := some ⟨W.heap.size, 0, none⟩) (n := 2) (c := 2) (xs := [1, 1]) (star_good (blkR_good _ _) gF) V1 (fun W' hW => by
    have hb := hW.left.get fun S h => h.1
    refine ⟨rfl, by omega, by decide, fun _ => ⟨_, rfl, lt_of_heap hb, fun j x hx => ?_⟩⟩
    rcases j with _ | _ | j
    · rw [add_zero0, cell_of_blk hb 0]; simpa using hx
    · exact (cell_of_blk hb 1).trans (by simpa using hx)
    · simp at hx)).mono fun e w' hh => ?_
  have h3 := hh.2.drop
  exact ⟨hh.1, K1_cells h3.right.right, h3⟩
theorem K_fill (C : KC w R G F A k B n hds rows) (hm : ∀ r ∈ rows, mayE r = 0) (V : K3 w W bp bd bl R F G d A1 A2 h1 h2 L) :
    Calls Tryz.prog 21 #[.slice B n cB] W fun e w' => ∃ A' c', e = .returned (.slice A' (fillG rows).length c') ∧ PB bp bd bl w' ∧ K3 w w' bp bd bl R F G d A1 A2 h1 h2 L := by
  refine (rfill_walk (C.hl.below V.bel) hm (by have := C.hn; omega)).mono fun e w' hh => ?_
  obtain ⟨A', c', hs2, e1, _, _, b⟩ := hh
  have V2 := V.below K3_good b
  exact ⟨A', c', e1, K1_cells V2.right.right, V2⟩
end
end
end Go.Proofs.YtkbapoeilcapfaaGreat

/- SpillKeeps: the walk. -/
namespace Go.Proofs.YtkbapoeilcapfaaGreat
open Go.RowKit Go.Maps
set_option linter.unusedVariables false
set_option linter.unusedSimpArgs false
set_option maxRecDepth 6000

theorem keeps_big {w : World} {R G : Int} {A B : Option Addr} {k c n cB : Nat} (h : 100 < k ∨ 500 < n) (hk : k ≤ 9223372036854775807) (hn : n ≤ 9223372036854775807) :
    Calls Tryz.prog 3 #[.int .i64 R, .slice A k c, .int .i64 G, .slice B n cB] w fun e w' => e = .returned (.bool true) ∧ Below w.heap.size w w' := by
  by_cases h1 : 100 < k
  · clear h
    go_enter Tryz.func3, Tryz.ntmps3
    go_wp2_with (go_at_call 9; refine (slives _).mono ?_; rintro e w1 ⟨rfl, b⟩)
    go_ret
    exact ⟨by trivial, b⟩
  · have h2 : 500 < n := by omega
    clear h
    go_enter Tryz.func3, Tryz.ntmps3
    go_wp2_with (go_at_call 9; refine (slives _).mono ?_; rintro e w1 ⟨rfl, b⟩)
    go_ret
    exact ⟨by trivial, b⟩
set_option maxHeartbeats 4000000 in
theorem keeps_small {w : World} {R G : Int} {F : List Int} {A B : Option Addr} {k c n cB : Nat} {hds : List Value} {rows : List (List V)} (hr : RdI w A k F) (hl : RdL w B n hds rows) (hk : k ≤ 100) (hn : n ≤ 500) :
    Calls Tryz.prog 3 #[.int .i64 R, .slice A k c, .int .i64 G, .slice B n cB] w fun e w' => e = .returned (.bool true) ∧ Below w.heap.size w w' := by
  have hn1 : ¬ 500 < n := by omega
  have hk1 : ¬ 100 < k := by omega
  have HR := Lib.hid hr
  have HL := Lib.hid hl
  clear hr hl
  go_enter Tryz.func3, Tryz.ntmps3
  go_wp2
  go_loopw [9] (fun i wr => ∃ j : Nat, j ≤ n ∧ i = .int .i64 (j : Int) ∧ wr = w) (fun i _ => n - (intOf i).toNat)
  case atStart => exact ⟨0, by omega, rfl, rfl⟩
  case round =>
    obtain ⟨j, hj, rfl, rfl⟩ := hrel
    by_cases hlt : j < n
    · obtain ⟨ad, D, m, cc, r, rfl, hb, hrj, hhj, hcell, hv⟩ := HL.out.at_ hlt
      have hm := hv.max
      clear hv hhj hrj hb
      by_cases hm1 : 100 < m
      · go_wp2_with (go_at_call 9; refine (slives _).mono ?_; rintro e w1 ⟨rfl, b⟩)
        go_ret
        exact ⟨by trivial, b⟩
      · go_wp2
        go_roundw
        case measure => simp [intOf]; omega
        case rel => exact ⟨j + 1, by omega, by go_num, by first | rfl | trivial⟩
    · obtain rfl : j = n := by omega
      by_cases hgood : (0 ≤ R ∧ R ≤ 16384) ∧ (0 ≤ G ∧ G ≤ 16384)
      · have C : KC wr R G F A k B j hds rows := ⟨HR.out, HL.out, hgood.1, hgood.2, hk, hn⟩
        obtain ⟨hle, law⟩ := write_law (R := R) (F := F) (G := G) (SOk.new hgood.1.1 hgood.1.2) (rows := rows) (by rw [C.len]; omega)
        have CM := Lib.hid (K_make (c := c) C)
        have CV := Lib.hid (fun W bp bd bl (V : In wr W (star (PL bd bl R F G Ds.new 0) (K1 bp bd bl))) => K_lives V)
        have CX := Lib.hid (fun W bp bd bl (V : In wr W (star (PL bd bl R F G Ds.new 0) (K1 bp bd bl))) => K_xd (c := c) C V)
        have CL := Lib.hid (fun W bp bd bl bx V => K_lx (W := W) (bp := bp) (bd := bd) (bl := bl) (bx := bx) C V)
        have CW := Lib.hid (fun W bp bq bd bl bx bm V => K_write (cB := cB) (W := W) (bp := bp) (bq := bq) (bd := bd) (bl := bl) (bx := bx) (bm := bm) C V)
        have CY := Lib.hid (fun W bp bq bd bl bx bm V => K_xwrite (d := (writeS R F G Ds.new 0 rows).d) (cB := cB) (W := W) (bp := bp) (bq := bq) (bd := bd) (bl := bl) (bx := bx) (bm := bm) C V)
        obtain ⟨z, hz⟩ : ∃ z, z = writeS R F G Ds.new 0 rows := ⟨_, rfl⟩
        rw [← hz] at hle law CW CY
        rcases law with ⟨he, hfs⟩ | ⟨he, hok⟩
        · have he1 : (z.e != 0) = true := by simpa using he
          obtain ⟨zd, ze, zn, hzd, hze, hzn⟩ : ∃ zd ze zn, zd = z.d ∧ ze = z.e ∧ zn = z.n := ⟨_, _, _, rfl, rfl, rfl⟩
          rw [← hzd] at hfs CW CY
          rw [← hze, ← hzn] at CW CY
          rw [← hze] at he1
          clear he hle hz hzd hze hzn HR HL hgood C
          go_wp2_with (first
            | (go_at_call 10; (with_reducible refine CM.out.mono ?_); rintro e w1 ⟨bd, bl, rfl, V⟩; have V1 := Lib.hid V; clear V CM)
            | (go_at_call 9; (with_reducible refine (CV.out _ _ _ _ V1.out).mono ?_); rintro e w2 ⟨rfl, V⟩; have V2 := Lib.hid V; clear V V1 CV)
            | (go_at_call 11; (with_reducible refine (CX.out _ _ _ _ V2.out).mono ?_); rintro e w3 ⟨bx, rfl, V⟩; have V3 := Lib.hid V; clear V V2 CX)
            | (go_at_call 12; (with_reducible refine (CL.out _ _ _ _ _ V3.out).mono ?_); rintro e w4 ⟨bm, rfl, ⟨k0, k1, k2⟩, V⟩; have V4 := Lib.hid V; clear V V3 CL)
            | (go_at_call 13; (with_reducible refine (CW.out _ _ _ _ _ _ _ V4.out).mono ?_); rintro e w5 ⟨rfl, ⟨x0, x1, x2⟩, V⟩; have V5 := Lib.hid V; clear V V4 CW)
            | (go_at_call 14; (with_reducible refine (CY.out _ _ _ _ _ _ _ V5.out).mono ?_); rintro e w6 ⟨rfl, ⟨⟨l0, l1, l2⟩, _⟩, V⟩; have V6 := Lib.hid V; clear V V5 CY)
            | (go_at_call 15; (with_reducible refine (K_clean0 V6.out hfs).mono ?_); rintro e w7 ⟨rfl, b⟩; have V7 := Lib.hid b; clear b V6))
          go_ret
          exact ⟨by trivial, V7.out⟩
        · obtain ⟨ps, hf, hpl⟩ := hok.pages
          have hE : rrE G z.d 0 1 = 0 := by unfold rrE; rw [hf, if_neg (by simp), if_neg hok.room]
          have CA := Lib.hid (fun W bp bq bd bl bx bm V => K_all (w := wr) (R := R) (F := F) (W := W) (bp := bp) (bq := bq) (bd := bd) (bl := bl) (bx := bx) (bm := bm) V hle hE hok.has)
          have CB := Lib.hid (fun W bp bq bd bl bx bm A1 h1 V => K_xall (d2 := (allS F z.d 1).d) (w := wr) (R := R) (F := F) (W := W) (bp := bp) (bq := bq) (bd := bd) (bl := bl) (bx := bx) (bm := bm) (A1 := A1) (h1 := h1) V hle hE)
          have CS2 := Lib.hid (fun W bp bd bl A1 A2 h1 h2 c1 V hL => K_same2 (d := (allS F z.d 1).d) (L := told (allS F z.d 1)) (cB := cB) (W := W) (bp := bp) (bd := bd) (bl := bl) (A1 := A1) (A2 := A2) (h1 := h1) (h2 := h2) (c1 := c1) C V hL)
          have CF := Lib.hid (fun W bp bd bl A1 A2 h1 h2 d L V => K_fill (d := d) (L := L) (cB := cB) (W := W) (bp := bp) (bd := bd) (bl := bl) (A1 := A1) (A2 := A2) (h1 := h1) (h2 := h2) C hok.may V)
          have hfs : (allS F z.d 1).d.fs = z.d.fs := readS_fs _
          obtain ⟨ps0, hz1⟩ := hok.one
          have hf1 : ((allS F z.d 1).d.fs.length : Int) = 1 := by rw [hfs, hz1]; rfl
          have hf2 : (allS F z.d 1).d.find 1 = some ps := by unfold Ds.find at hf ⊢; rw [hfs]; exact hf
          have hf3 : ((delAll (allS F z.d 1).d [1, 1]).fs.length : Int) = 0 := by
            have o : One (allS F z.d 1).d 1 := ⟨ps0, by rw [hfs]; exact hz1⟩
            have : (delAll (allS F z.d 1).d [1, 1]).fs = [] := del_nil o.del 1
            rw [this]
            rfl
          obtain ⟨N, hN⟩ : ∃ N, N = (fillG rows).length := ⟨_, rfl⟩
          have hN1 : ps.length = N := by rw [hpl, hN]
          rw [← hN] at CF
          have hz1 := hok.num
          rw [he, hz1] at CW CY
          obtain ⟨E2, hE2⟩ : ∃ E2, E2 = (allS F z.d 1).e := ⟨_, rfl⟩
          obtain ⟨D2, hD2⟩ : ∃ D2, D2 = (allS F z.d 1).d := ⟨_, rfl⟩
          obtain ⟨T, hT⟩ : ∃ T, T = told (allS F z.d 1) := ⟨_, rfl⟩
          rw [← hD2] at CA CB CS2 hf1 hf2 hf3
          rw [← hE2, ← hT] at CA CB
          rw [← hT] at CS2
          obtain ⟨zd, hzd⟩ : ∃ zd, zd = z.d := ⟨_, rfl⟩
          rw [← hzd] at CA CB CW CY
          by_cases h0 : E2 = 0
          · subst h0
            have h0 : (0 : Int) = 0 := rfl
            clear hok hE hfs hz1 he hle hz hE2 hD2 hT hzd hpl hf hN hgood HR HL C
            go_wp2_with (first
              | (go_at_call 10; (with_reducible refine CM.out.mono ?_); rintro e w1 ⟨bd, bl, rfl, V⟩; have V1 := Lib.hid V; clear V CM)
              | (go_at_call 9; (with_reducible refine (CV.out _ _ _ _ V1.out).mono ?_); rintro e w2 ⟨rfl, V⟩; have V2 := Lib.hid V; clear V V1 CV)
              | (go_at_call 11; (with_reducible refine (CX.out _ _ _ _ V2.out).mono ?_); rintro e w3 ⟨bx, rfl, V⟩; have V3 := Lib.hid V; clear V V2 CX)
              | (go_at_call 12; (with_reducible refine (CL.out _ _ _ _ _ V3.out).mono ?_); rintro e w4 ⟨bm, rfl, ⟨k0, k1, k2⟩, V⟩; have V4 := Lib.hid V; clear V V3 CL)
              | (go_at_call 13; (with_reducible refine (CW.out _ _ _ _ _ _ _ V4.out).mono ?_); rintro e w5 ⟨rfl, ⟨x0, x1, x2⟩, V⟩; have V5 := Lib.hid V; clear V V4 CW)
              | (go_at_call 14; (with_reducible refine (CY.out _ _ _ _ _ _ _ V5.out).mono ?_); rintro e w6 ⟨rfl, ⟨⟨l0, l1, l2⟩, XX⟩, V⟩; have V6 := Lib.hid V; clear V V5 CY)
              | (go_at_call 16; (with_reducible refine (CA.out _ _ _ _ _ _ _ V6.out).mono ?_); rintro e w7 ⟨A1, c1, g1, rfl, ⟨y0, y1, y2⟩, hL, V⟩; have V7 := Lib.hid V; have HT := Lib.hid hL; clear V V6 CA hL)
              | (go_at_call 17; (with_reducible refine (CB.out _ _ _ _ _ _ _ _ _ V7.out).mono ?_); rintro e w8 ⟨A2, c2, g2, rfl, ⟨m0, m1, m2⟩, V⟩; have V8 := Lib.hid V; clear V V7 CB)
              | (go_at_call 18; (with_reducible refine (K_same1 V8.out).mono ?_); rintro e w9 ⟨rfl, ⟨n0, n1, n2⟩, V⟩; have V9 := Lib.hid V; clear V V8)
              | (go_at_call 18; (with_reducible refine (CS2.out _ _ _ _ _ _ _ _ _ V9.out (HT.out (by trivial))).mono ?_); rintro e w10 ⟨rfl, ⟨o0, o1, o2⟩, V⟩; have V10 := Lib.hid V; clear V V9)
              | (go_at_call 15; (with_reducible refine (K_clean V10.out 1 hf1).mono ?_); rintro e w11 ⟨rfl, ⟨p0, p1, p2⟩, V⟩; have V11 := Lib.hid V; clear V V10)
              | (go_at_call 19; (with_reducible refine (K_size V11.out hf2).mono ?_); rintro e w12 ⟨rfl, hw⟩; obtain rfl := hw.symm; clear hw)
              | (go_at_call 20; (with_reducible refine (K_remove V11.out).mono ?_); rintro e w13 ⟨rfl, ⟨q0, q1, q2⟩, V⟩; have V13 := Lib.hid V; clear V V11)
              | (go_at_call 21; (with_reducible refine (CF.out _ _ _ _ _ _ _ _ _ _ V13.out).mono ?_); rintro e w14 ⟨A', c', rfl, ⟨r0, r1, r2⟩, V⟩; have V14 := Lib.hid V; clear V V13)
              | (go_at_call 15; (with_reducible refine (K_clean V14.out 0 hf3).mono ?_); rintro e w15 ⟨rfl, _, V⟩; have V15 := Lib.hid V.bel; clear V V14))
            go_ret
            exact ⟨by trivial, V15.out⟩
          · have h1 : (E2 == 0) = false := by simpa using h0
            clear hok hE hfs hz1 he hle hz hE2 hD2 hT hzd hpl hf hN hgood HR HL C
            go_wp2_with (first
              | (go_at_call 10; (with_reducible refine CM.out.mono ?_); rintro e w1 ⟨bd, bl, rfl, V⟩; have V1 := Lib.hid V; clear V CM)
              | (go_at_call 9; (with_reducible refine (CV.out _ _ _ _ V1.out).mono ?_); rintro e w2 ⟨rfl, V⟩; have V2 := Lib.hid V; clear V V1 CV)
              | (go_at_call 11; (with_reducible refine (CX.out _ _ _ _ V2.out).mono ?_); rintro e w3 ⟨bx, rfl, V⟩; have V3 := Lib.hid V; clear V V2 CX)
              | (go_at_call 12; (with_reducible refine (CL.out _ _ _ _ _ V3.out).mono ?_); rintro e w4 ⟨bm, rfl, ⟨k0, k1, k2⟩, V⟩; have V4 := Lib.hid V; clear V V3 CL)
              | (go_at_call 13; (with_reducible refine (CW.out _ _ _ _ _ _ _ V4.out).mono ?_); rintro e w5 ⟨rfl, ⟨x0, x1, x2⟩, V⟩; have V5 := Lib.hid V; clear V V4 CW)
              | (go_at_call 14; (with_reducible refine (CY.out _ _ _ _ _ _ _ V5.out).mono ?_); rintro e w6 ⟨rfl, ⟨⟨l0, l1, l2⟩, XX⟩, V⟩; have V6 := Lib.hid V; clear V V5 CY)
              | (go_at_call 16; (with_reducible refine (CA.out _ _ _ _ _ _ _ V6.out).mono ?_); rintro e w7 ⟨A1, c1, g1, rfl, ⟨y0, y1, y2⟩, hL, V⟩; have V7 := Lib.hid V; have HT := Lib.hid hL; clear V V6 CA hL)
              | (go_at_call 17; (with_reducible refine (CB.out _ _ _ _ _ _ _ _ _ V7.out).mono ?_); rintro e w8 ⟨A2, c2, g2, rfl, ⟨m0, m1, m2⟩, V⟩; have V8 := Lib.hid V; clear V V7 CB)
              | (go_at_call 18; (with_reducible refine (K_same1 V8.out).mono ?_); rintro e w9 ⟨rfl, ⟨n0, n1, n2⟩, V⟩; have V9 := Lib.hid V; clear V V8)
              | (go_at_call 15; (with_reducible refine (K_clean V9.out 1 hf1).mono ?_); rintro e w11 ⟨rfl, ⟨p0, p1, p2⟩, V⟩; have V11 := Lib.hid V; clear V V9)
              | (go_at_call 19; (with_reducible refine (K_size V11.out hf2).mono ?_); rintro e w12 ⟨rfl, hw⟩; obtain rfl := hw.symm; clear hw)
              | (go_at_call 20; (with_reducible refine (K_remove V11.out).mono ?_); rintro e w13 ⟨rfl, ⟨q0, q1, q2⟩, V⟩; have V13 := Lib.hid V; clear V V11)
              | (go_at_call 21; (with_reducible refine (CF.out _ _ _ _ _ _ _ _ _ _ V13.out).mono ?_); rintro e w14 ⟨A', c', rfl, ⟨r0, r1, r2⟩, V⟩; have V14 := Lib.hid V; clear V V13)
              | (go_at_call 15; (with_reducible refine (K_clean V14.out 0 hf3).mono ?_); rintro e w15 ⟨rfl, _, V⟩; have V15 := Lib.hid V.bel; clear V V14))
            go_ret
            exact ⟨by trivial, V15.out⟩
      · have CM := Lib.hid ((make_no (c := c) HR.out hgood).mono fun (e : Ending) (w' : World) ⟨p, q, h1, h2⟩ => show ∃ p q : Option Addr, e = Ending.returned (.tuple #[.agg #[.pointer p, .pointer q, .int .i64 0], .bool false]) ∧ ∀ o, Below wr.heap.size wr (w'.alloc o) from ⟨p, q, h1, fun o => h2.bel.alloc h2.bel.size _⟩)
        have CV := Lib.hid (fun W (b : Below wr.heap.size wr W) => (slives W).mono fun (e : Ending) (w' : World) hh => show e = Ending.returned (.bool true) ∧ Below wr.heap.size wr w' from ⟨hh.1, b.trans (hh.2.mono b.size)⟩)
        clear HR HL hgood
        go_wp2_with (first
          | (go_at_call 10; (with_reducible refine CM.out.mono ?_); rintro e w1 ⟨p, q, rfl, V⟩; have V1 := Lib.hid V; clear V CM)
          | (go_at_call 9; (with_reducible refine (CV.out _ (V1.out _)).mono ?_); rintro e w2 ⟨rfl, V⟩; have V2 := Lib.hid V; clear V V1)
          | (go_at_call 9; (with_reducible refine (CV.out _ V2.out).mono ?_); rintro e w3 ⟨rfl, V⟩; have V3 := Lib.hid V; clear V V2))
        go_ret
        exact ⟨by trivial, V3.out⟩
end Go.Proofs.YtkbapoeilcapfaaGreat

/- What comes in to SpillKeeps; the law. -/
namespace Go.Proofs.YtkbapoeilcapfaaGreat
open Go.RowKit Go.ChangeShapes Go.WideShapes Go.Deep
set_option linter.unusedVariables false
set_option linter.unusedSimpArgs false

section
variable {H : Type} {enc : TypeId × Value → H} {W : World} {base : Nat} {spare : Nat → Bool} {held : Bool}
theorem ints_in {k : IntKind} {t e : TypeId} (ht : Tryz.prog.underlying t = some (.slice e)) (he : Tryz.prog.underlying e = some (.int k)) (hc : Tryz.prog.cellsOf e = 1) {fuel : Nat} {cs : List Value} {x : DataW H × List MemPlace}
    (h : DataW.trod enc Tryz.prog W base spare held fuel t cs = some x) : ∃ A len cap, ∃ xs : List Int, cs = [.slice A len cap] ∧ xs.length = len ∧ len ≤ 9223372036854775807 ∧ (∀ y ∈ xs, (Lit.int k y).wf = true) ∧ (0 < len → ∃ ad, A = some ad ∧ ad.block < W.heap.size ∧ ∀ j u, (xs.map (Value.int k))[j]? = some u → W.cell? (ad.add j) = some u) := by
  rcases open_ints ht he hc h with ⟨hcs, _⟩ | ⟨x, l, c, zs, hcs, _, hl, hm, hz, _, hcell, hwz⟩
  · exact ⟨none, 0, 0, [], hcs, rfl, by omega, by simp, fun h => absurd h (by omega)⟩
  · have hle : l ≤ zs.length := by rw [hz]; split <;> omega
    refine ⟨_, _, _, zs.take l, hcs, by simp; omega, by simp only [maxLen] at hm; omega, fun y hy => hwz y (List.mem_of_mem_take hy), fun hn => ⟨_, rfl, ?_, fun j u hu => ?_⟩⟩
    · have := World.block_lt_of_cell? W _ (hcell 0 (by omega))
      rwa [add_blk] at this
    · rw [List.getElem?_map, List.getElem?_take] at hu
      split at hu
      · rename_i hj
        rw [hcell j (by omega), List.getD_eq_getElem?_getD]
        rw [List.getElem?_eq_getElem (by omega)] at hu ⊢
        simpa using hu
      · simp at hu
theorem slc_in {A B : Option Addr} {len cap l c : Nat} (h : (Value.slice A len cap).cells.toList = [.slice B l c]) : A = B ∧ len = l ∧ cap = c := by
  simpa [Value.cells] using h
theorem LawSpillKeeps.open_SInt {A : Option Addr} {len cap : Nat} {d : DataW H} {ps : List MemPlace} (h : DataW.Trod enc Tryz.prog W base spare held 22 (.slice A len cap) d ps) : ∃ xs : List Int, RdI W A len xs := by
  obtain ⟨fuel, hf⟩ := h
  obtain ⟨B, l, c, xs, e, h1, h2, h3, h4⟩ := ints_in Tryz.underlying22 Tryz.underlying3 (by kernel_rfl) hf
  obtain ⟨rfl, rfl, rfl⟩ := slc_in e
  refine ⟨xs, h1, h2, h3, fun hn => ?_⟩
  obtain ⟨ad, e, hb, hc⟩ := h4 hn
  exact ⟨ad, e, hb, fun j x hx => hc j _ (by rw [List.getElem?_map, hx]; rfl)⟩
end
theorem SpillKeeps.walk {w : World} (R : Int) (wR : (Lit.int .i64 R).wf = true) (A : Option Addr) (k c : Nat) (F : List Int) (hr : RdI w A k F) (G : Int) (wG : (Lit.int .i64 G).wf = true) (B : Option Addr) (n cB : Nat) (x : List Value × List (List V)) (hl : RdL w B n x.1 x.2) :
    Calls Tryz.prog 3 #[.int .i64 R, .slice A k c, .int .i64 G, .slice B n cB] w fun e w' => e = .returned (.bool true) ∧ Below w.heap.size w w' := by
  by_cases h : 100 < k ∨ 500 < n
  · exact keeps_big h hr.2.1 hl.hd.2.1
  · exact keeps_small hr hl (by omega) (by omega)
end Go.Proofs.YtkbapoeilcapfaaGreat
