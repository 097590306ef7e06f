/- Fanout: files copied, a fan of writers, what comes of it. -/
import Derived.Test.YtkbapoeilcapfaaGreatMG
import Derived.Test.YtkbapoeilcapfaaGreatMC
import Derived.Test.YtkbapoeilcapfaaGreatMD
import Derived.Test.YtkbapoeilcapfaaGreatMB
/- Things apart in any order (from y/DoD, y/DoE). -/
namespace Go.Proofs.YtkbapoeilcapfaaGreat
open Go.RowKit Go.Maps
set_option linter.unusedVariables false
set_option linter.unusedSimpArgs false
set_option maxRecDepth 6000

theorem star_comm_eq (A B : Res) : star A B = star B A := by
  funext w S
  exact propext ⟨star_comm, star_comm⟩
theorem star_assoc_eq (A B C : Res) : star (star A B) C = star A (star B C) := by
  funext w S
  exact propext ⟨star_assoc, star_assoc'⟩
instance : Std.Commutative (α := Res) star := ⟨star_comm_eq⟩
instance : Std.Associative (α := Res) star := ⟨star_assoc_eq⟩
theorem In.ac {w0 w : World} {A B : Res} (V : In w0 w A) (h : A = B) : In w0 w B := h ▸ V
abbrev rwR (v : Value) (n : Nat) (xs : List Value) : Res := rowR 88 1 v n xs
abbrev QR (B : Option Addr) (m : Nat) (r : List V) (W : World) : Prop := True ∧ RdV W B m r
theorem info_pw : (Tryz.prog.info? 88).map (fun i => (i.zero, i.size, i.bytes)) = some (some (.pointer none), 1, 8) := by kernel_rfl
end Go.Proofs.YtkbapoeilcapfaaGreat

/- SameList of rows (printed by mkYF.py from h/Keeps, h/PReads). -/
namespace Go.Proofs.YtkbapoeilcapfaaGreat
open Go.RowKit
set_option linter.unusedVariables false
set_option linter.unusedSimpArgs false
theorem samelist_rows {w : World} {A A2 : Option Addr} {n c c2 : Nat} (xs ys : List It) (ha : Rd1 w A n (xs.map Prod.fst)) (hb : Rd1 w A2 n (ys.map Prod.fst)) (hx : RdIts w xs) (hy : RdIts w ys) (he : xs.map Prod.snd = ys.map Prod.snd) :
    Calls Tryz.prog 18 #[.slice A n c, .slice A2 n c2] w fun e w' => e = .returned (.bool true) ∧ Below w.heap.size w w' := by
  have hn := ha.2.1
  have hlx : xs.length = n := by simpa using ha.1
  have hly : ys.length = n := by simpa using hb.1
  have HLX := Lib.hid (And.intro hlx hly)
  clear hlx hly
  go_enter Tryz.func18, Tryz.ntmps18
  go_wp2
  go_loopw [5] (fun i wr => ∃ k : Nat, k ≤ n ∧ i = .int .i64 k ∧ Below w.heap.size w wr) (fun i _ => n - (intOf i).toNat)
  case atStart => exact ⟨0, by omega, rfl, Below.refl _ _⟩
  case round =>
    obtain ⟨k, hk, rfl, bel⟩ := hrel
    by_cases hlt : k < n
    · obtain ⟨ad, rfl, had, hc⟩ := (ha.below bel).at2 hlt
      obtain ⟨ad2, rfl, had2, hc2⟩ := (hb.below bel).at2 hlt
      have h1 : k < xs.length := by have := HLX.out.1; omega
      have h2 : k < ys.length := by have := HLX.out.2; omega
      obtain ⟨B, m, cc, e1, hrv⟩ := (hx.below bel) xs[k] (List.getElem_mem h1)
      obtain ⟨B2, m2, cc2, e2, hrv2⟩ := (hy.below bel) ys[k] (List.getElem_mem h2)
      have hs : xs[k].2 = ys[k].2 := by
        have := congrArg (fun l => l[k]?) he
        simpa [h1, h2] using this
      rw [List.getElem?_map, List.getElem?_eq_getElem h1, Option.map_some, e1] at hc
      rw [List.getElem?_map, List.getElem?_eq_getElem h2, Option.map_some, e2] at hc2
      rw [← hs] at hrv2
      generalize xs[k].2 = r at hrv hrv2
      have em : m2 = m := by have := hrv.len; have := hrv2.len; omega
      subst em
      have HS := Lib.hid (fun (W : World) (b : Below wr.heap.size wr W) => same_same (c := cc) (c2 := cc2) r (hrv.below b) (hrv2.below b))
      have HB0 := Lib.hid (below_drew (Below.refl wr.heap.size wr))
      clear ha hb hx hy he hrv hrv2 e1 e2 hs h1 h2
      go_wp2
      go_region_with (go_at_call 44; refine (HS.out _ HB0.out).mono ?_; rintro e w1 ⟨rfl, b1⟩)
      all_goals
        have b2 : Below w.heap.size w w1 := (below_drew bel).trans (b1.mono bel.size)
        go_wp2
        go_roundw
      all_goals first
        | exact ⟨k + 1, by omega, by go_num, b2⟩
        | (simp [intOf]; omega)
    · clear ha hb hx hy he
      go_wp2
      go_ret
      exact ⟨by trivial, bel⟩

theorem RdL.its {w : World} {A : Option Addr} {n : Nat} {hds : List Value} {rows : Rows} (h : RdL w A n hds rows) : (hds.zip rows).map Prod.fst = hds ∧ (hds.zip rows).map Prod.snd = rows ∧ RdIts w (hds.zip rows) := by
  have hl : hds.length = rows.length := by rw [h.len]; exact h.hd.1
  refine ⟨List.map_fst_zip (by omega), List.map_snd_zip (by omega), fun x hx => ?_⟩
  obtain ⟨i, hi, e⟩ := List.getElem_of_mem hx
  have hz : (hds.zip rows)[i]? = some x := by rw [← e]; exact List.getElem?_eq_getElem hi
  rw [List.getElem?_zip_eq_some] at hz
  obtain ⟨B, m, c, e2, hr⟩ := h.row i x.2 hz.2
  rw [hz.1] at e2
  exact ⟨B, m, c, Option.some.inj e2, hr⟩
theorem samelist_rdl {w : World} {A A2 : Option Addr} {n c c2 : Nat} {hds hds2 : List Value} {rows : Rows} (h1 : RdL w A n hds rows) (h2 : RdL w A2 n hds2 rows) :
    Calls Tryz.prog 18 #[.slice A n c, .slice A2 n c2] w fun e w' => e = .returned (.bool true) ∧ Below w.heap.size w w' := by
  obtain ⟨a1, a2, a3⟩ := h1.its
  obtain ⟨b1, b2, b3⟩ := h2.its
  exact samelist_rows _ _ (by rw [a1]; exact h1.hd) (by rw [b1]; exact h2.hd) a3 b3 (by rw [a2, b2])
end Go.Proofs.YtkbapoeilcapfaaGreat

/- SpillKeeps as a plain law: what was written is read, or it is told why not; a file's pages are as many as Fill's. -/
namespace Go.Proofs.YtkbapoeilcapfaaGreat
set_option linter.unusedVariables false
set_option linter.unusedSimpArgs false

/-- One file and no other. -/
def One (d : Ds) (n : Int) : Prop := ∃ ps, d.fs = [(n, ps)]
section
variable {R : Int} {F : List Int} {G : Int} {d : Ds} {h n : Int} {x : Ws} {y : Rs} {r : List V} {L rows : List (List V)}
theorem One.app {p : Pg} (o : One d n) : One (d.app R F n p) n := by
  obtain ⟨ps, h⟩ := o
  unfold Ds.app
  split
  · exact ⟨ps ++ [p], by simp [addPg, h]⟩
  · split
    · exact ⟨ps, h⟩
    · exact ⟨ps, h⟩
theorem One.flush (o : One d x.file) : One (x.flushD R F d) x.file := by
  unfold Ws.flushD
  split
  · exact o.app
  · exact o
theorem One.put (o : One d x.file) : One (x.putD R F d r) x.file := by
  unfold Ws.putD
  split
  · exact o
  · split
    · exact o.flush
    · exact o
theorem One.find (o : One d n) : ∃ ps, d.find n = some ps ∧ d.fs = [(n, ps)] := by
  obtain ⟨ps, h⟩ := o
  exact ⟨ps, by unfold Ds.find; rw [h]; simp, h⟩
theorem One.del (o : One d n) : (d.del n).fs = [] := by
  obtain ⟨ps, h1, h2⟩ := o.find
  unfold Ds.del
  rw [h1]
  simp [h2]
theorem del_nil (h : d.fs = []) (n : Int) : (d.del n).fs = [] := by
  unfold Ds.del
  split
  · exact h
  · simp [h]
theorem putAll_one : ∀ (rows : List (List V)) {d : Ds} {x : Ws}, One d x.file → One (putAll R F d x rows).d x.file ∧ (putAll R F d x rows).x.file = x.file ∧ (putAll R F d x rows).x.ended = x.ended
  | [], d, x, o => ⟨o, rfl, rfl⟩
  | r :: t, d, x, o => by
    have hp := put_n (R := R) (F := F) (d := d) (x := x) (r := r)
    unfold putAll
    split
    · have := putAll_one t (d := x.putD R F d r) (x := x.putX R F d r) (by rw [hp.2.1]; exact o.put)
      rw [hp.2.1, hp.2.2] at this
      exact this
    · exact ⟨o.put, hp.2.1, hp.2.2⟩
/-- As many pages as Fill has laid, the last one still in memory. -/
structure Cnt (d : Ds) (x : Ws) (L : List (List V)) : Prop where
  pages : ∃ ps, d.find x.file = some ps ∧ ps.length = (fillF L).1.length
  rows : x.rows = (fillF L).2
theorem fillF_end (L : List (List V)) (r : List V) : fillF (L ++ [r]) = stepF (fillF L) r := by unfold fillF; rw [List.foldl_append]; rfl
theorem fillF_ne (L : List (List V)) (h : L ≠ []) : (fillF L).2 ≠ [] := by
  obtain ⟨a, b, rfl⟩ : ∃ a b, L = a ++ [b] := ⟨L.dropLast, L.getLast h, (List.dropLast_concat_getLast h).symm⟩
  rw [fillF_end]
  unfold stepF
  split <;> simp
theorem flush_pages (W : Wrote d x L) (hE : x.flushE R F d = 0) {ps : List Pg} (hf : d.find x.file = some ps) : ∃ ps', (x.flushD R F d).find x.file = some ps' ∧ ps'.length = if x.rows = [] then ps.length else ps.length + 1 := by
  unfold Ws.flushE at hE
  unfold Ws.flushD
  by_cases hr : x.rows = []
  · rw [if_neg (by simp [hr]), if_pos hr]
    exact ⟨ps, hf, rfl⟩
  · rw [if_pos ⟨W.wr, hr⟩] at hE ⊢
    rw [if_neg hr]
    exact ⟨ps ++ [mkP x.rows], by rw [app_find, if_pos hE, hf]; simp, by simp⟩
theorem put_may (W : Wrote d x L) (hE : x.putE R F d r = 0) : mayE r = 0 := by
  unfold Ws.putE at hE
  rw [stop_may W] at hE
  by_cases h : mayE r ≠ 0
  · rw [if_pos h] at hE; exact hE
  · simpa using h
theorem put_cnt (W : Wrote d x L) (c : Cnt d x L) (hE : x.putE R F d r = 0) : Cnt (x.putD R F d r) (x.putX R F d r) (L ++ [r]) := by
  have hm := put_may W hE
  have hp := put_n (R := R) (F := F) (d := d) (x := x) (r := r)
  obtain ⟨ps, h1, h2⟩ := c.pages
  refine ⟨?_, ?_⟩
  · rw [hp.2.1, fillF_end]
    unfold Ws.putD stepF
    rw [stop_may W, if_neg (by rw [hm]; decide), ← c.rows]
    by_cases hu : 256 < usedN (x.rows ++ [r])
    · unfold Ws.putE at hE
      rw [stop_may W, if_neg (by rw [hm]; decide), if_pos hu] at hE
      rw [if_pos hu, if_pos hu]
      obtain ⟨ps', g1, g2⟩ := flush_pages W hE h1
      refine ⟨ps', g1, ?_⟩
      rw [g2]
      by_cases hr : x.rows = []
      · exfalso
        rw [hr] at hu
        have := (mayE_zero hm).2
        rw [List.nil_append, usedN_one] at hu
        omega
      · rw [if_neg hr, h2]
        simp
    · rw [if_neg hu, if_neg hu]
      exact ⟨ps, h1, h2⟩
  · rw [fillF_end]
    unfold Ws.putX stepF
    rw [stop_may W, if_neg (by rw [hm]; decide), ← c.rows]
    by_cases hu : 256 < usedN (x.rows ++ [r])
    · unfold Ws.putE at hE
      rw [stop_may W, if_neg (by rw [hm]; decide), if_pos hu] at hE
      rw [if_pos hu, if_pos hu, if_neg (by rw [hE]; decide)]
    · rw [if_neg hu, if_neg hu]
theorem putAll_wrote : ∀ (rows : List (List V)) {d : Ds} {x : Ws} {L : List (List V)}, Wrote d x L → Cnt d x L → x.n + rows.length ≤ 1000000 → (putAll R F d x rows).e = 0 →
    Wrote (putAll R F d x rows).d (putAll R F d x rows).x (L ++ rows) ∧ Cnt (putAll R F d x rows).d (putAll R F d x rows).x (L ++ rows) ∧ ∀ r ∈ rows, mayE r = 0
  | [], d, x, L, W, c, hn, hE => by rw [List.append_nil]; exact ⟨W, c, by simp⟩
  | r :: t, d, x, L, W, c, hn, hE => by
    unfold putAll at hE ⊢
    by_cases h0 : x.putE R F d r = 0
    · rw [if_pos h0] at hE ⊢
      have hp := put_n (R := R) (F := F) (d := d) (x := x) (r := r)
      have h1 := put_wrote W h0 (by simp at hn; omega)
      have := putAll_wrote t h1 (put_cnt W c h0) (by have := hp.1; simp at hn; omega) hE
      rw [List.append_assoc] at this
      refine ⟨this.1, this.2.1, fun r' hr' => ?_⟩
      rcases List.mem_cons.1 hr' with e | e
      · rw [e]; exact put_may W h0
      · exact this.2.2 r' e
    · rw [if_neg h0] at hE
      exact absurd hE h0
theorem new_one : One Ds.new.create 1 := ⟨[], rfl⟩
/-- What Write has done to a new disk. -/
structure WrOk (z : Wt) (G : Int) (rows : List (List V)) : Prop where
  num : z.n = 1
  has : Has z.d 1 rows
  one : One z.d 1
  may : ∀ r ∈ rows, mayE r = 0
  pages : ∃ ps, z.d.find 1 = some ps ∧ ps.length = (fillG rows).length
  room : ¬ G ≤ 0
theorem write_law (K : SOk R Ds.new) (hl : rows.length ≤ 1000) : (writeS R F G Ds.new 0 rows).d.le 2000 ∧ (((writeS R F G Ds.new 0 rows).e ≠ 0 ∧ (writeS R F G Ds.new 0 rows).d.fs = []) ∨ ((writeS R F G Ds.new 0 rows).e = 0 ∧ WrOk (writeS R F G Ds.new 0 rows) G rows)) := by
  have l0 : Ds.new.le 0 := ⟨by decide, by decide⟩
  have l1 := putAll_le (R := R) (F := F) (rows := rows) (x := wrX Ds.new) (le_create l0)
  unfold writeS
  by_cases hE : wrE G Ds.new 0 ≠ 0
  · rw [if_pos hE]
    exact ⟨l0.mono (by omega), .inl ⟨hE, rfl⟩⟩
  · rw [if_neg hE]
    have hG : ¬ G ≤ 0 := by
      intro h
      unfold wrE at hE
      rw [if_pos h] at hE
      exact hE (by decide)
    have hx : (wrX Ds.new).file = 1 := rfl
    have o := putAll_one (R := R) (F := F) rows (d := Ds.new.create) (x := wrX Ds.new) new_one
    rw [hx] at o
    obtain ⟨o1, o2, o3⟩ := o
    have hopn : (putAll R F Ds.new.create (wrX Ds.new) rows).x.ended = false := o3
    by_cases hP : (putAll R F Ds.new.create (wrX Ds.new) rows).e ≠ 0
    · rw [if_pos hP]
      refine ⟨(le_drop l1).mono (by omega), .inl ⟨hP, ?_⟩⟩
      show Ds.fs (Ws.dropD _ _) = []
      unfold Ws.dropD
      rw [hopn, if_neg (by decide), o2]
      exact o1.del
    · rw [if_neg hP]
      have hP : (putAll R F Ds.new.create (wrX Ds.new) rows).e = 0 := by simpa using hP
      have W0 : Wrote Ds.new.create (wrX Ds.new) [] := wr_wrote K (by decide) (by decide)
      have c0 : Cnt Ds.new.create (wrX Ds.new) [] := ⟨⟨[], rfl, rfl⟩, rfl⟩
      obtain ⟨W, c, hm⟩ := putAll_wrote rows W0 c0 (by show (0 : Int) + _ ≤ _; omega) hP
      rw [List.nil_append] at W c
      generalize (putAll R F Ds.new.create (wrX Ds.new) rows) = P at *
      refine ⟨(le_done l1).mono (by omega), ?_⟩
      dsimp only
      by_cases hD : P.x.doneE R F P.d = 0
      · refine .inr ⟨hD, ?_⟩
        obtain ⟨d1, d2⟩ := done_has W hD
        have hF : P.x.flushE R F P.d = 0 := by
          unfold Ws.doneE at hD
          rw [hopn, if_neg (by decide)] at hD
          exact hD
        have eD : P.x.doneD R F P.d = P.x.flushD R F P.d := by
          unfold Ws.doneD
          rw [hopn, if_neg (by decide), if_pos hF]
        rw [o2] at d1 d2
        refine ⟨d1, d2, ?_, hm, ?_, hG⟩
        · show One (P.x.doneD R F P.d) 1
          rw [eD, ← o2]
          exact (by rw [o2]; exact o1 : One P.d P.x.file).flush
        · show ∃ ps, (P.x.doneD R F P.d).find 1 = some ps ∧ _
          rw [eD, ← o2]
          obtain ⟨ps, p1, p2⟩ := c.pages
          obtain ⟨ps', q1, q2⟩ := flush_pages W hF p1
          refine ⟨ps', q1, ?_⟩
          rw [q2, p2, c.rows]
          unfold fillG
          by_cases hr : rows = []
          · rw [if_pos hr, hr]
            rfl
          · rw [if_neg hr, if_neg (fillF_ne rows hr)]
            simp
      · refine .inl ⟨hD, ?_⟩
        show (P.x.doneD R F P.d).fs = []
        unfold Ws.doneE at hD
        unfold Ws.doneD
        rw [hopn] at hD ⊢
        rw [if_neg (by decide)] at hD ⊢
        rw [if_neg hD]
        exact (by rw [o2]; exact o1 : One P.d P.x.file).flush.del
/-- A reader of a file with faults: a row that is left is read, or it is told why not. -/
theorem left_some_f (K : SOk R d) (h : Left d y (r :: L)) : ((y.next F d).row = some r ∧ Left (y.next F d).d (y.next F d).x L) ∨ ((y.next F d).row = none ∧ (y.next F d).e ≠ 0) := by
  obtain ⟨ps, h1, h2⟩ := h.has
  have hc : ¬ y.closed = true := by rw [h.opn]; decide
  cases hr : y.rows with
  | cons a b =>
    have en : y.next F d = ⟨some a, 0, d, ⟨y.file, y.page, b, y.closed⟩⟩ := by unfold Rs.next; rw [if_neg hc, hr]
    rw [hr] at h2
    injection h2 with e1 e2
    rw [en]
    exact .inl ⟨by rw [e1], h.opn, ps, h1, e2⟩
  | nil =>
    rw [hr, List.nil_append] at h2
    have hl : y.page < ps.length := by
      rcases Nat.lt_or_ge y.page ps.length with hl | hl
      · exact hl
      · rw [List.drop_of_length_le hl] at h2; cases h2
    cases hb : y.loadB F d with
    | false =>
      have en : y.next F d = ⟨none, y.loadE F d, y.loadD F d, y⟩ := by unfold Rs.next; rw [if_neg hc, hr]; dsimp only; rw [if_neg (by rw [hb]; decide)]
      rw [en]
      refine .inr ⟨rfl, ?_⟩
      unfold Rs.loadB at hb
      show y.loadE F d ≠ 0
      unfold Rs.loadE
      rw [h1] at hb ⊢
      dsimp only at hb ⊢
      rw [if_neg (by omega)]
      simp at hb
      exact hb (by omega)
    | true =>
      have en : y.next F d = ⟨(y.loadX F d).rows.head?, 0, y.loadD F d, ⟨y.file, y.page + 1, (y.loadX F d).rows.tail, y.closed⟩⟩ := by unfold Rs.next; rw [if_neg hc, hr]; dsimp only; rw [if_pos hb]
      obtain ⟨ps', p, g1, g2, g3, _⟩ := load_at hb
      rw [h1] at g1
      injection g1 with g1
      subst g1
      have ex : (y.loadX F d).rows = pgRows p := by unfold Rs.loadX; rw [if_pos hb, g3]
      have hm := Ds.find_mem h1
      obtain ⟨rows, q1, q2, q3, q4⟩ := K.pg _ hm p (List.mem_of_getElem? g2)
      have q5 : pgRows p = rows := by rw [q2, pgRows_mkP q4 q3]
      rw [drop_at g2, List.flatMap_cons, q5] at h2
      rw [en, ex, q5]
      cases rows with
      | nil => exact absurd rfl q1
      | cons a b =>
        injection h2 with e1 e2
        refine .inl ⟨by rw [List.head?_cons, e1], h.opn, ps, ?_, e2⟩
        show (y.loadD F d).find y.file = some ps
        have : (y.loadD F d).find y.file = d.find y.file := by unfold Ds.find; rw [load_fs]
        rw [this]
        exact h1
theorem left_none_f (K : SOk R d) (h : Left d y []) : (y.next F d).row = none := by
  obtain ⟨ps, h1, h2⟩ := h.has
  have hc : ¬ y.closed = true := by rw [h.opn]; decide
  have hr : y.rows = [] := by
    cases hr : y.rows with
    | nil => rfl
    | cons a b => rw [hr] at h2; cases h2
  rw [hr, List.nil_append] at h2
  have hl : ps.length ≤ y.page := by
    rcases Nat.lt_or_ge y.page ps.length with hl | hl
    · have hm := Ds.find_mem h1
      obtain ⟨rows, q1, q2, q3, q4⟩ := K.pg _ hm ps[y.page] (List.getElem_mem hl)
      rw [List.drop_eq_getElem_cons hl, List.flatMap_cons, q2, pgRows_mkP q4 q3] at h2
      cases rows with
      | nil => exact absurd rfl q1
      | cons a b => cases h2
    · exact hl
  have hb : y.loadB F d = false := by
    unfold Rs.loadB
    rw [h1]
    simp
    intro h
    omega
  unfold Rs.next
  rw [if_neg hc, hr]
  dsimp only
  rw [if_neg (by rw [hb]; decide)]
theorem readS_left : ∀ (f : Nat) {d : Ds} {y : Rs} {L : List (List V)}, SOk R d → Left d y L → L.length < f → (readS F f d y).e = 0 → (readS F f d y).l = L
  | 0, d, y, L, K, h, hf, hE => by omega
  | f + 1, d, y, [], K, h, hf, hE => by
    unfold readS
    rw [left_none_f K h]
  | f + 1, d, y, r :: L, K, h, hf, hE => by
    rcases left_some_f (F := F) K h with ⟨h1, h2⟩ | ⟨h1, h2⟩
    · unfold readS at hE ⊢
      rw [h1] at hE ⊢
      dsimp only at hE ⊢
      rw [readS_left f K.next h2 (by simp at hf; omega) hE]
    · unfold readS at hE
      rw [h1] at hE
      exact absurd hE h2
theorem readS_fs : ∀ (f : Nat) {d : Ds} {y : Rs}, (readS F f d y).d.fs = d.fs
  | 0, d, y => rfl
  | f + 1, d, y => by
    unfold readS
    split
    · exact (readS_fs f).trans (next_fs F d y)
    · exact next_fs F d y
theorem left_len {ps : List Pg} : rowsN ps = (ps.flatMap pgRows).length := by unfold rowsN; rw [List.length_flatMap]
/-- What All has read of a file. -/
theorem all_law (K : SOk R d) (h : Has d n L) : ((allS F d n).e = 0 → (allS F d n).l = L) ∧ (allS F d n).d.fs = d.fs := by
  refine ⟨fun hE => ?_, readS_fs _⟩
  have hl := Left.new h
  refine readS_left (R := R) _ K hl ?_ hE
  obtain ⟨ps, h1, h2⟩ := h
  unfold leftN
  rw [h1, left_len]
  simp [h2]
end
end Go.Proofs.YtkbapoeilcapfaaGreat

/- fanout: each, with a writer's Put. -/
namespace Go.Proofs.YtkbapoeilcapfaaGreat
open Go.RowKit Go.Maps
set_option linter.unusedVariables false
set_option linter.unusedSimpArgs false
set_option maxRecDepth 6000

structure Et where
  n : Int
  e : Int
  d : Ds
  y : Rs
  x : Ws
/-- Rows of a file handed on to a writer, up to the first that is refused. -/
def eachS (R : Int) (F : List Int) : Nat → Ds → Rs → Ws → Int → Et
  | 0, d, y, x, n => ⟨n, 0, d, y, x⟩
  | f + 1, d, y, x, n => match (y.next F d).row with
    | some r => if x.putE R F (y.next F d).d r = 0 then eachS R F f (x.putD R F (y.next F d).d r) (y.next F d).x (x.putX R F (y.next F d).d r) (n + 1)
      else ⟨n, x.putE R F (y.next F d).d r, x.putD R F (y.next F d).d r, (y.next F d).x, x.putX R F (y.next F d).d r⟩
    | none => ⟨n, (y.next F d).e, (y.next F d).d, (y.next F d).x, x⟩
section
variable {w0 w W : World} {bd bl br bw : Nat} {R : Int} {F : List Int} {G : Int} {d : Ds} {h : Int} {y : Rs} {x : Ws} {Q : World → Prop} {Fr X : Res} {r : List V}
theorem RR_get (V : In w0 W (star (RR br bd bl y Q) X)) : Q W := V.left.get fun S ⟨_, A, n, c, hds, S1, S2, _, h2, _⟩ => (rd_get h2).2
theorem put_left (hm : y.file ≠ x.file) : leftN (x.putD R F d r) y = leftN d y := by unfold leftN; rw [put_find hm]
def EachP (bw bd bl : Nat) (R : Int) (F : List Int) (G : Int) (z : Et) (h : Int) (w0 : World) (Fr : Res) (e : Ending) (w' : World) : Prop :=
  e = .returned (.tuple #[.int .i64 z.n, .int .i64 z.e]) ∧ In w0 w' (star (PL bd bl R F G z.d h) (star (WR bw bd bl z.x) Fr))
/-- A state of the loop. -/
structure ESt (w0 wr : World) (bd bl br bw : Nat) (R : Int) (F : List Int) (G : Int) (z : Et) (h : Int) (Fr : Res) (M k : Nat) (d : Ds) (y : Rs) (x : Ws) (N : Int) : Prop where
  inn : In w0 wr (star (PL bd bl R F G d (h + 1)) (star (RR br bd bl y (fun _ => True)) (star (WR bw bd bl x) Fr)))
  eqn : z = eachS R F (leftN d y + 1) d y x (k : Int)
  left : k + leftN d y = M
  le : d.le (N + 2 * k)
  num : x.n ≤ N + k
  file : y.file ≠ x.file
  opn : y.closed = false
theorem eachS_some (f : Nat) {n : Int} (h : (y.next F d).row = some r) : eachS R F (f + 1) d y x n = if x.putE R F (y.next F d).d r = 0 then eachS R F f (x.putD R F (y.next F d).d r) (y.next F d).x (x.putX R F (y.next F d).d r) (n + 1)
      else ⟨n, x.putE R F (y.next F d).d r, x.putD R F (y.next F d).d r, (y.next F d).x, x.putX R F (y.next F d).d r⟩ := by
  conv => lhs; unfold eachS
  rw [h]
theorem eachS_none (f : Nat) {n : Int} (h : (y.next F d).row = none) : eachS R F (f + 1) d y x n = ⟨n, (y.next F d).e, (y.next F d).d, (y.next F d).x, x⟩ := by
  conv => lhs; unfold eachS
  rw [h]
set_option maxHeartbeats 1000000 in
theorem each_put (g : Good Fr) (H : In w0 w (star (PL bd bl R F G d h) (star (WR bw bd bl x) Fr))) {n : Int} (hw : (Lit.int .i64 n).wf = true) (hE : rrE G d h n = 0) (hf : n ≠ x.file) {N : Int} (hN : d.le N) (hx : x.n ≤ N) (hb : N + 6000000 ≤ 1000000000) (hxb : x.n ≤ 900000) (hM : leftN d (rs0 n) ≤ 90000) (h90 : N ≤ 900000) :
    Calls Tryz.prog 67 #[pv bd bl, .int .i64 n, .func (.func 38) #[wp_ bw] #[]] w (EachP bw bd bl R F G (eachS R F (leftN d (rs0 n) + 1) d (rs0 n) x 0) h w0 Fr) := by
  have H1 := in_alloc (star_good (PL_good _ _ _ _ _ _ _) (star_good (WR_good _ _ _ _) g)) H (pbox bd bl)
  obtain ⟨K, h0, _⟩ := PL_ok H
  obtain ⟨M, hMM⟩ : ∃ M, M = leftN d (rs0 n) := ⟨_, rfl⟩
  rw [← hMM] at hM
  obtain ⟨z, hz⟩ : ∃ z, z = eachS R F (leftN d (rs0 n) + 1) d (rs0 n) x 0 := ⟨_, rfl⟩
  have CR : Calls Tryz.prog 41 #[pv bd bl, .int .i64 n] (w.alloc (pbox bd bl)) fun e w' => ∃ br, e = .returned (.tuple #[rp_ br, .int .i64 0]) ∧ ESt w0 w' bd bl br bw R F G z h Fr M 0 d (rs0 n) x N := by
    unfold rrE at hE
    cases hff : d.find n with
    | none => rw [hff] at hE; cases hE
    | some l =>
      rw [hff, if_neg (by simp)] at hE
      have hG : ¬ G ≤ h := fun hG => by rw [if_pos hG] at hE; cases hE
      refine (reader_c (star_good (WR_good _ _ _ _) g) H1 hw hff hG).mono fun e w' hh => ?_
      obtain ⟨br, h1, h2⟩ := hh
      exact ⟨br, h1, h2, hz, by rw [hMM]; simp, by simpa using hN, by simpa using hx, hf, rfl⟩
  have CR := Lib.hid CR
  rw [← hz]
  have h0 := Lib.hid h0
  clear H H1 hE hw hN hz hMM K hx hf hxb
  go_enter_defers Tryz.func67, Tryz.ntmps67
  go_wp2_with (go_at_call 41; (with_reducible refine CR.out.mono ?_); rintro e w1 ⟨br, rfl, V⟩; have V1 := Lib.hid V; clear V CR)
  go_loopw [10] (fun v wr => ∃ (k : Nat) (d' : Ds) (y : Rs) (x' : Ws), k ≤ M ∧ v = .int .i64 (k : Int) ∧ Hid (ESt w0 wr bd bl br bw R F G z h Fr M k d' y x' N)) (fun v _ => M - (intOf v).toNat)
  case atStart => exact ⟨0, _, _, _, by omega, rfl, V1⟩
  case round =>
    clear V1
    obtain ⟨k, d', y, x', hk, rfl, HS⟩ := hrel
    have hle := HS.out.le
    have hnum := HS.out.num
    have hd1 : d'.deeds ≤ 1000000000 := by have := hle.2; omega
    have hnx : k + leftN d' y = M := HS.out.left
    have gW : Good (star (WR bw bd bl x') Fr) := star_good (WR_good _ _ _ _) g
    have CC := Lib.hid (fun W d3 y3 x3 (V : In w0 W (star (PL bd bl R F G d3 (h + 1)) (star (RR br bd bl y3 (fun _ => True)) (star (WR bw bd bl x3) Fr)))) (ho : y3.closed = false) => (r_close_d .returning (star_good (WR_good _ _ _ _) g) V).mono fun (e : Ending) u' (w' : World) hh => show u' = FrameMode.returning ∧ e = .returned (.tuple #[]) ∧ In w0 w' (star (PL bd bl R F G d3 h) (star (WR bw bd bl x3) Fr)) from by
      obtain ⟨h1, h2, h3⟩ := hh
      have eh : y3.closeH (h + 1) = h := by unfold Rs.closeH; rw [if_neg (by rw [ho]; decide), giveH_up h0.out]
      rw [eh] at h3
      exact ⟨h1, h2, h3.drop⟩)
    have hop : (y.next F d').x.closed = false := by rw [next_closed]; exact HS.out.opn
    cases hr : (y.next F d').row with
    | some r =>
      have hlt : k < M := by
        have h2 := next_left hr
        omega
      have hd2 : (y.next F d').d.deeds ≤ 1000000000 := by have := (le_next (F := F) (y := y) hle).2; omega
      have CN := Lib.hid (r_next_some gW HS.out.inn hd1 hr)
      have hxn : x'.n < 1000000 := by omega
      have CP := Lib.hid (fun W B m c (V : In w0 W (star (PL bd bl R F G (y.next F d').d (h + 1)) (star (RR br bd bl (y.next F d').x (QR B m r)) (star (WR bw bd bl x') Fr)))) => (w_put (cc := c) (r := r) (C := B) (m := m) (star_good (RR_good br bd bl (y.next F d').x (QR B m r)) g) (V.imp fun S h => star_mono h (fun _ => id) (fun _ h => star_swap h)) (fun W hW => (RR_get hW).2) hd2 hxn).mono fun (e : Ending) (w' : World) hh => show e = Ending.returned (.int .i64 (x'.putE R F (y.next F d').d r)) ∧ In w0 w' (star (PL bd bl R F G (x'.putD R F (y.next F d').d r) (h + 1)) (star (RR br bd bl (y.next F d').x (fun _ => True)) (star (WR bw bd bl (x'.putX R F (y.next F d').d r)) Fr))) from by
        unfold PutP at hh
        exact ⟨hh.1, RR_imp (hh.2.imp fun S h => star_mono h (fun _ => id) (fun _ h => star_swap h)) (fun _ _ => trivial)⟩)
      have hp := put_n (R := R) (F := F) (d := (y.next F d').d) (x := x') (r := r)
      by_cases hpe : x'.putE R F (y.next F d').d r = 0
      · have HE := Lib.hid (fun W (V : In w0 W (star (PL bd bl R F G (x'.putD R F (y.next F d').d r) (h + 1)) (star (RR br bd bl (y.next F d').x (fun _ => True)) (star (WR bw bd bl (x'.putX R F (y.next F d').d r)) Fr)))) =>
          show ESt w0 W bd bl br bw R F G z h Fr M (k + 1) (x'.putD R F (y.next F d').d r) (y.next F d').x (x'.putX R F (y.next F d').d r) N from by
            have hfl : (y.next F d').x.file ≠ x'.file := by rw [next_file]; exact HS.out.file
            have hpl := put_left (R := R) (F := F) (d := (y.next F d').d) (r := r) hfl
            have h2 := next_left hr
            refine ⟨V, ?_, by rw [hpl]; omega, ?_, by have := hp.1; push_cast; omega, by rw [hp.2.1]; exact hfl, hop⟩
            · have h3 := HS.out.eqn
              rw [eachS_some _ hr, if_pos hpe] at h3
              rw [h3, hpl, h2]
              push_cast
              rfl
            · exact (le_put (le_next hle)).mono (by push_cast; omega))
        rw [hpe] at CP
        clear hr hpe hp hd1 hd2 hle hnum hnx HS CC gW hop hxn
        go_wp2_with (first
          | (go_at_call 42; (with_reducible refine CN.out.mono ?_); rintro e w2 ⟨B, m, c, rfl, V⟩; have V2 := Lib.hid V; clear V CN)
          | (go_at_call 38; (with_reducible refine (CP.out _ _ _ _ V2.out).mono ?_); rintro e w3 ⟨rfl, V⟩; have V3 := Lib.hid (HE.out _ V); clear V V2 CP HE))
        go_roundw
        case measure => simp [intOf]; omega
        case rel => exact ⟨k + 1, _, _, _, by omega, by go_num, V3⟩
      · have ez : z = ⟨(k : Int), x'.putE R F (y.next F d').d r, x'.putD R F (y.next F d').d r, (y.next F d').x, x'.putX R F (y.next F d').d r⟩ := by
          rw [HS.out.eqn, eachS_some _ hr, if_neg hpe]
        have hpe1 : (x'.putE R F (y.next F d').d r != 0) = true := by simpa using hpe
        have EF := Lib.hid (fun W (V : In w0 W (star (PL bd bl R F G (x'.putD R F (y.next F d').d r) h) (star (WR bw bd bl (x'.putX R F (y.next F d').d r)) Fr))) => show EachP bw bd bl R F G z h w0 Fr (.returned (.tuple #[.int .i64 (k : Int), .int .i64 (x'.putE R F (y.next F d').d r)])) W from by
          unfold EachP
          rw [ez]
          exact ⟨rfl, V⟩)
        obtain ⟨E, hEE⟩ : ∃ E, E = x'.putE R F (y.next F d').d r := ⟨_, rfl⟩
        rw [← hEE] at hpe1
        simp only [← hEE] at CP EF
        clear hr hpe hp hd1 hd2 hle hnum hnx HS gW hxn ez hEE
        go_wp2_with (first
          | (go_at_call 42; (with_reducible refine CN.out.mono ?_); rintro e w2 ⟨B, m, c, rfl, V⟩; have V2 := Lib.hid V; clear V CN)
          | (go_at_call 38; (with_reducible refine (CP.out _ _ _ _ V2.out).mono ?_); rintro e w3 ⟨rfl, V⟩; have V3 := Lib.hid V; clear V V2 CP))
        refine leaves_cons (f := 43) (args := #[rp_ br]) (by simp) (by simp [go_sem]) ?_
        refine (CC.out _ _ _ _ V3.out hop).mono ?_
        rintro e u' w4 ⟨rfl, rfl, P⟩
        refine ⟨_, results_tmp2 rfl _ _ _, ?_⟩
        exact EF.out _ P
    | none =>
      have ez : z = ⟨(k : Int), (y.next F d').e, (y.next F d').d, (y.next F d').x, x'⟩ := by rw [HS.out.eqn, eachS_none _ hr]
      have CN := Lib.hid ((r_next_none gW HS.out.inn hd1 hr).mono fun (e : Ending) (w' : World) hh => show e = Ending.returned (.tuple #[.slice none 0 0, .bool false, .int .i64 (y.next F d').e]) ∧ In w0 w' (star (PL bd bl R F G (y.next F d').d (h + 1)) (star (RR br bd bl (y.next F d').x (fun _ => True)) (star (WR bw bd bl x') Fr))) from hh)
      have EF := Lib.hid (fun W (V : In w0 W (star (PL bd bl R F G (y.next F d').d h) (star (WR bw bd bl x') Fr))) => show EachP bw bd bl R F G z h w0 Fr (.returned (.tuple #[.int .i64 (k : Int), .int .i64 (y.next F d').e])) W from by
        unfold EachP
        rw [ez]
        exact ⟨rfl, V⟩)
      obtain ⟨E, hEE⟩ : ∃ E, E = (y.next F d').e := ⟨_, rfl⟩
      simp only [← hEE] at CN EF
      clear hr hd1 hle hnum hnx HS gW ez hEE
      go_wp2_with (go_at_call 42; (with_reducible refine CN.out.mono ?_); rintro e w2 ⟨rfl, V⟩; have V2 := Lib.hid V; clear V CN)
      refine leaves_cons (f := 43) (args := #[rp_ br]) (by simp) (by simp [go_sem]) ?_
      refine (CC.out _ _ _ _ V2.out hop).mono ?_
      rintro e u' w4 ⟨rfl, rfl, P⟩
      refine ⟨_, results_tmp2 rfl _ _ _, ?_⟩
      exact EF.out _ P
end
end Go.Proofs.YtkbapoeilcapfaaGreat

/- fanout: Copy; Widest. -/
namespace Go.Proofs.YtkbapoeilcapfaaGreat
open Go.RowKit Go.Maps
set_option linter.unusedVariables false
set_option linter.unusedSimpArgs false
set_option maxRecDepth 6000

section
variable {w0 w W : World} {bd bl br bw : Nat} {R : Int} {F : List Int} {G : Int} {d : Ds} {h : Int} {y : Rs} {x : Ws} {Q : World → Prop} {Fr X : Res} {r : List V}
theorem each_no (g : Good Fr) (H : In w0 w (star (PL bd bl R F G d h) Fr)) {n : Int} (hw : (Lit.int .i64 n).wf = true) (hE : rrE G d h n ≠ 0) (tv : Value) :
    Calls Tryz.prog 67 #[pv bd bl, .int .i64 n, tv] w fun e w' => e = .returned (.tuple #[.int .i64 0, .int .i64 (rrE G d h n)]) ∧ In w0 w' (star (PL bd bl R F G d h) Fr) := by
  have H1 := in_alloc (star_good (PL_good _ _ _ _ _ _ _) g) H (pbox bd bl)
  have CR : Calls Tryz.prog 41 #[pv bd bl, .int .i64 n] (w.alloc (pbox bd bl)) fun e w' => e = .returned (.tuple #[.pointer none, .int .i64 (rrE G d h n)]) ∧ In w0 w' (star (PL bd bl R F G d h) Fr) := by
    unfold rrE at hE ⊢
    cases hf : d.find n with
    | none =>
      rw [if_pos (by rfl)]
      exact reader_a g H1 hw hf
    | some l =>
      rw [hf, if_neg (by simp)] at hE
      rw [if_neg (by simp)]
      by_cases hG : G ≤ h
      · rw [if_pos hG]
        exact reader_b g H1 hw hf hG
      · rw [if_neg hG] at hE
        exact absurd rfl hE
  have CR := Lib.hid CR
  have hE1 : (rrE G d h n != 0) = true := by simpa using hE
  obtain ⟨E, hEE⟩ : ∃ E, E = rrE G d h n := ⟨_, rfl⟩
  rw [← hEE] at CR hE1 ⊢
  clear H H1 hE hEE hw
  go_enter_defers Tryz.func67, Tryz.ntmps67
  go_wp2_with (go_at_call 41; (with_reducible refine CR.out.mono ?_); rintro e w1 ⟨rfl, V⟩; have V1 := Lib.hid V; clear V)
  refine ⟨_, results_tmp2 rfl _ _ _, ?_⟩
  exact ⟨rfl, V1.out⟩
/-- What Copy does. -/
def copyS (R : Int) (F : List Int) (G : Int) (d : Ds) (h : Int) (x : Ws) (n : Int) : Et := if rrE G d h n ≠ 0 then ⟨0, rrE G d h n, d, rs0 n, x⟩ else eachS R F (leftN d (rs0 n) + 1) d (rs0 n) x 0
theorem copy_walk (g : Good Fr) (H : In w0 w (star (PL bd bl R F G d h) (star (WR bw bd bl x) Fr))) {n : Int} (hw : (Lit.int .i64 n).wf = true) (hf : n ≠ x.file) {N : Int} (hN : d.le N) (hx : x.n ≤ N) (hb : N + 6000000 ≤ 1000000000) (hxb : x.n ≤ 900000) (hM : leftN d (rs0 n) ≤ 90000) (h90 : N ≤ 900000) :
    Calls Tryz.prog 64 #[pv bd bl, .int .i64 n, wp_ bw] w (EachP bw bd bl R F G (copyS R F G d h x n) h w0 Fr) := by
  have H1 := in_alloc (star_good (PL_good _ _ _ _ _ _ _) (star_good (WR_good _ _ _ _) g)) H (pbox bd bl)
  have CE : Calls Tryz.prog 67 #[pv bd bl, .int .i64 n, .func (.func 38) #[wp_ bw] #[]] (w.alloc (pbox bd bl)) (EachP bw bd bl R F G (copyS R F G d h x n) h w0 Fr) := by
    unfold copyS
    by_cases hE : rrE G d h n = 0
    · rw [if_neg (by simpa using hE)]
      exact each_put g H1 hw hE hf hN hx hb hxb hM h90
    · rw [if_pos hE]
      exact (each_no (star_good (WR_good _ _ _ _) g) H1 hw hE _).mono fun e w' hh => hh
  have CE := Lib.hid (CE.mono fun (e : Ending) (w' : World) hh => show e = Ending.returned (.tuple #[.int .i64 (copyS R F G d h x n).n, .int .i64 (copyS R F G d h x n).e]) ∧ In w0 w' (star (PL bd bl R F G (copyS R F G d h x n).d h) (star (WR bw bd bl (copyS R F G d h x n).x) Fr)) from hh)
  obtain ⟨z, hz⟩ : ∃ z, z = copyS R F G d h x n := ⟨_, rfl⟩
  rw [← hz] at CE ⊢
  have hmf : ∀ (fn : Fn) (first cap : Array Value) (w : World), (Instr.makeFunc fn first cap).run Tryz.prog w = .ok (.func fn first cap) w := fun _ _ _ _ => rfl
  clear H H1 hw hf hN hx hb hxb hM h90 hz
  go_enter Tryz.func64, Tryz.ntmps64
  go_wp2_with (go_at_call 67; (with_reducible refine CE.out.mono ?_); rintro e w1 ⟨rfl, V⟩; have V1 := Lib.hid V; clear V)
  go_ret2
  exact ⟨by trivial, V1.out⟩
end
end Go.Proofs.YtkbapoeilcapfaaGreat

/- fanout: Widest. -/
namespace Go.Proofs.YtkbapoeilcapfaaGreat
open Go.RowKit Go.Maps
set_option linter.unusedVariables false
set_option linter.unusedSimpArgs false
set_option maxRecDepth 6000

section
variable {w0 w W : World} {bd bl : Nat} {R : Int} {F : List Int} {G : Int} {d : Ds} {h : Int} {Fr : Res}
def sizeI (d : Ds) (n : Int) : Int := (d.find n).elim 0 fun l => (l.length : Int)
def widS (d : Ds) (xs : List Int) : Int := xs.foldl (fun m x => max m (sizeI d x)) 0
theorem widS_snoc (d : Ds) (xs : List Int) (k : Nat) (x : Int) (h : xs[k]? = some x) : widS d (xs.take (k + 1)) = max (widS d (xs.take k)) (sizeI d x) := by
  obtain ⟨hl, e⟩ := List.getElem?_eq_some_iff.1 h
  unfold widS
  rw [List.take_succ_eq_append_getElem hl, e, List.foldl_append]
  rfl
set_option maxHeartbeats 1000000 in
theorem widest_walk (g : Good Fr) (H : In w0 w (star (PL bd bl R F G d h) Fr)) {A : Option Addr} {n c : Nat} {xs : List Int} (HL : ∀ W, In w0 W Fr → RdI W A n xs) :
    Calls Tryz.prog 32 #[pv bd bl, .slice A n c] w fun e w' => e = .returned (.int .i64 (widS d xs)) ∧ In w0 w' (star (PL bd bl R F G d h) Fr) := by
  have V := Lib.hid (H.pushB (star_good (PL_good _ _ _ _ _ _ _) g) (pbox bd bl))
  have gB : Good (star (blkR w.heap.size (pbox bd bl)) Fr) := star_good (blkR_good _ _) g
  have HR := Lib.hid (fun W (V : In w0 W Fr) (k : Nat) (hk : k < n) => int_stays (P := fun W => In w0 W Fr) V HL hk)
  have hn64 := (HL _ H.right).2.1
  have hlen := Lib.hid (HL _ H.right).1
  clear H HL
  go_enter Tryz.func32, Tryz.ntmps32
  go_wp2
  go_loopw [12, 5] (fun i m wr => ∃ (k : Nat) (M : Int), k ≤ n ∧ i = .int .i64 (k : Int) ∧ m = .int .i64 M ∧ Hid (M = widS d (xs.take k)) ∧ Hid (In w0 wr (star (PL bd bl R F G d h) (star (blkR w.heap.size (pbox bd bl)) Fr)))) (fun i _ _ => n - (intOf i).toNat)
  case atStart => exact ⟨0, 0, by omega, rfl, rfl, Lib.hid rfl, V⟩
  case round =>
    clear V
    obtain ⟨k, M, hk, rfl, rfl, HM, HS⟩ := hrel
    by_cases hlt : k < n
    · obtain ⟨ad, x, rfl, hx, hw, hst⟩ := HR.out _ HS.out.right.right k hlt
      have hcell := hst _ HS.out.right.right
      obtain ⟨k0, k1, k2⟩ := bx_cells HS.out
      have CS := s_size gB HS.out hw
      obtain ⟨Z, hZ⟩ : ∃ Z, Z = (d.find x).elim 0 fun l => (l.length : Int) := ⟨_, rfl⟩
      obtain ⟨E, hE⟩ : ∃ E, E = (if (d.find x).isSome then (0 : Int) else 4) := ⟨_, rfl⟩
      rw [← hZ, ← hE] at CS
      have CS := Lib.hid CS
      have HN := Lib.hid (show max M Z = widS d (xs.take (k + 1)) by rw [widS_snoc d xs k x hx, HM.out, hZ]; rfl)
      clear hst hw hx hZ hE HM
      go_wp2_with (go_at_call 19; (with_reducible refine CS.out.mono ?_); rintro e w2 ⟨rfl, hw⟩; obtain rfl := hw.symm; clear hw CS)
      go_roundw
      case measure => simp [intOf]; omega
      case rel => exact ⟨k + 1, max M Z, by omega, by go_num, by first | rfl | trivial, HN, HS⟩
    · have hkn : k = n := by omega
      subst hkn
      have e1 : M = widS d xs := by rw [HM.out, List.take_of_length_le (by rw [hlen.out]; exact Nat.le_refl _)]
      have V2 := Lib.hid (And.intro e1 HS.out.drop)
      clear HS HM e1
      go_wp2
      go_ret
      exact ⟨by first | rfl | (rw [V2.out.1]; rfl), V2.out.2⟩
end
end Go.Proofs.YtkbapoeilcapfaaGreat

/- fanout: what each leaves as it was; Concat as plain data. -/
namespace Go.Proofs.YtkbapoeilcapfaaGreat
set_option linter.unusedVariables false
set_option linter.unusedSimpArgs false

section
variable {R : Int} {F : List Int} {G : Int} {h : Int}
theorem eachS_le : ∀ (f : Nat) {d : Ds} {y : Rs} {x : Ws} {n m : Int}, d.le m → (eachS R F f d y x n).d.le (m + 2 * f)
  | 0, d, y, x, n, m, k => k.mono (by simp)
  | f + 1, d, y, x, n, m, k => by
    cases hr : (y.next F d).row with
    | none => rw [eachS_none f hr]; exact (le_next k).mono (by push_cast; omega)
    | some r =>
      rw [eachS_some f hr]
      split
      · exact (eachS_le f (le_put (le_next k))).mono (by push_cast; omega)
      · exact (le_put (le_next k)).mono (by push_cast; omega)
theorem eachS_x : ∀ (f : Nat) {d : Ds} {y : Rs} {x : Ws} {n : Int}, (eachS R F f d y x n).x.file = x.file ∧ (eachS R F f d y x n).x.ended = x.ended ∧ (eachS R F f d y x n).x.n ≤ x.n + f
  | 0, d, y, x, n => ⟨rfl, rfl, by simp [eachS]⟩
  | f + 1, d, y, x, n => by
    cases hr : (y.next F d).row with
    | none => rw [eachS_none f hr]; exact ⟨rfl, rfl, by push_cast; omega⟩
    | some r =>
      have hp := put_n (R := R) (F := F) (d := (y.next F d).d) (x := x) (r := r)
      rw [eachS_some f hr]
      split
      · have := eachS_x f (d := x.putD R F (y.next F d).d r) (y := (y.next F d).x) (x := x.putX R F (y.next F d).d r) (n := n + 1)
        exact ⟨this.1.trans hp.2.1, this.2.1.trans hp.2.2, by have := this.2.2; have := hp.1; push_cast; omega⟩
      · exact ⟨hp.2.1, hp.2.2, by have := hp.1; push_cast; omega⟩
theorem eachS_find : ∀ (f : Nat) {d : Ds} {y : Rs} {x : Ws} {n m : Int}, m ≠ x.file → (eachS R F f d y x n).d.find m = d.find m
  | 0, d, y, x, n, m, hm => rfl
  | f + 1, d, y, x, n, m, hm => by
    cases hr : (y.next F d).row with
    | none => rw [eachS_none f hr]; exact next_find F d y m
    | some r =>
      have hp := put_n (R := R) (F := F) (d := (y.next F d).d) (x := x) (r := r)
      rw [eachS_some f hr]
      split
      · exact (eachS_find f (by rw [hp.2.1]; exact hm)).trans ((put_find hm).trans (next_find F d y m))
      · exact (put_find hm).trans (next_find F d y m)
theorem eachS_fs : ∀ (f : Nat) {d : Ds} {y : Rs} {x : Ws} {n : Int}, (eachS R F f d y x n).d.fs.length = d.fs.length
  | 0, d, y, x, n => rfl
  | f + 1, d, y, x, n => by
    cases hr : (y.next F d).row with
    | none => rw [eachS_none f hr]; exact congrArg List.length (next_fs F d y)
    | some r =>
      rw [eachS_some f hr]
      split
      · exact (eachS_fs f).trans (put_fs_len.trans (congrArg List.length (next_fs F d y)))
      · exact put_fs_len.trans (congrArg List.length (next_fs F d y))
theorem copyS_le {d : Ds} {x : Ws} {n m : Int} (k : d.le m) : (copyS R F G d h x n).d.le (m + 2 * (leftN d (rs0 n) + 1 : Nat)) := by
  unfold copyS
  split
  · exact k.mono (by omega)
  · exact eachS_le _ k
theorem copyS_x {d : Ds} {x : Ws} {n : Int} : (copyS R F G d h x n).x.file = x.file ∧ (copyS R F G d h x n).x.ended = x.ended ∧ (copyS R F G d h x n).x.n ≤ x.n + (leftN d (rs0 n) + 1 : Nat) := by
  unfold copyS
  split
  · exact ⟨rfl, rfl, by show x.n ≤ _; omega⟩
  · exact eachS_x _
theorem copyS_find {d : Ds} {x : Ws} {n m : Int} (hm : m ≠ x.file) : (copyS R F G d h x n).d.find m = d.find m := by
  unfold copyS
  split
  · rfl
  · exact eachS_find _ hm
theorem copyS_left {d : Ds} {x : Ws} {n m : Int} (hm : m ≠ x.file) : leftN (copyS R F G d h x n).d (rs0 m) = leftN d (rs0 m) := by
  unfold leftN
  rw [copyS_find hm]
/-- The files copied one by one, up to the first that is refused. -/
def catAll (R : Int) (F : List Int) (G : Int) (h : Int) : Ds → Ws → List Int → Wst
  | d, x, [] => ⟨0, d, x⟩
  | d, x, n :: t => if (copyS R F G d h x n).e = 0 then catAll R F G h (copyS R F G d h x n).d (copyS R F G d h x n).x t else ⟨(copyS R F G d h x n).e, (copyS R F G d h x n).d, (copyS R F G d h x n).x⟩
def concatS (R : Int) (F : List Int) (G : Int) (d : Ds) (h : Int) (xs : List Int) : Wt :=
  if wrE G d h ≠ 0 then ⟨0, wrE G d h, d⟩ else
  if (catAll R F G (h + 1) d.create (wrX d) xs).e ≠ 0 then ⟨0, (catAll R F G (h + 1) d.create (wrX d) xs).e, (catAll R F G (h + 1) d.create (wrX d) xs).x.dropD (catAll R F G (h + 1) d.create (wrX d) xs).d⟩
  else ⟨(catAll R F G (h + 1) d.create (wrX d) xs).x.doneN R F (catAll R F G (h + 1) d.create (wrX d) xs).d, (catAll R F G (h + 1) d.create (wrX d) xs).x.doneE R F (catAll R F G (h + 1) d.create (wrX d) xs).d, (catAll R F G (h + 1) d.create (wrX d) xs).x.doneD R F (catAll R F G (h + 1) d.create (wrX d) xs).d⟩
end
end Go.Proofs.YtkbapoeilcapfaaGreat

/- fanout: Concat. -/
namespace Go.Proofs.YtkbapoeilcapfaaGreat
open Go.RowKit Go.Maps
set_option linter.unusedVariables false
set_option linter.unusedSimpArgs false
set_option maxRecDepth 6000

section
variable {w0 w W : World} {bd bl bw bp : Nat} {R : Int} {F : List Int} {G : Int} {d : Ds} {h : Int} {Fr : Res} {A : Option Addr} {n c : Nat} {xs : List Int}
def ConcatP (bd bl : Nat) (R : Int) (F : List Int) (G : Int) (d : Ds) (h : Int) (xs : List Int) (w0 : World) (Fr : Res) (e : Ending) (w' : World) : Prop :=
  e = .returned (.tuple #[.int .i64 (concatS R F G d h xs).n, .int .i64 (concatS R F G d h xs).e]) ∧ In w0 w' (star (PL bd bl R F G (concatS R F G d h xs).d h) Fr)
theorem concat_a (g : Good Fr) (H : In w0 w (star (PL bd bl R F G d h) Fr)) (hm : d.made ≤ 1000000000) (hE : wrE G d h ≠ 0) :
    Calls Tryz.prog 33 #[pv bd bl, .slice A n c] w (ConcatP bd bl R F G d h xs w0 Fr) := by
  have es : concatS R F G d h xs = ⟨0, wrE G d h, d⟩ := if_pos hE
  have H1 : ∀ o, In w0 (w.alloc o) (star (PL bd bl R F G d h) Fr) := fun o => in_alloc (star_good (PL_good _ _ _ _ _ _ _) g) H o
  have CW : ∀ o, Calls Tryz.prog 37 #[pv bd bl] (w.alloc o) fun e w' => e = .returned (.tuple #[.pointer none, .int .i64 (wrE G d h)]) ∧ In w0 w' (star (PL bd bl R F G d h) Fr) := by
    intro o
    unfold wrE at hE ⊢
    by_cases hG : G ≤ h
    · rw [if_pos hG]
      exact writer_a g (H1 o) hG
    · rw [if_neg hG] at hE ⊢
      exact writer_b g (H1 o) hG hm hE
  have CW := Lib.hid fun o => (CW o).mono fun e w' hh => show e = .returned (.tuple #[.pointer none, .int .i64 (wrE G d h)]) ∧ ConcatP bd bl R F G d h xs w0 Fr (.returned (.tuple #[.int .i64 0, .int .i64 (wrE G d h)])) w' from by
    refine ⟨hh.1, ?_⟩
    unfold ConcatP
    rw [es]
    exact ⟨rfl, hh.2⟩
  have hE1 : (wrE G d h != 0) = true := by simpa using hE
  obtain ⟨E, hEE⟩ : ∃ E, E = wrE G d h := ⟨_, rfl⟩
  rw [← hEE] at CW hE1
  clear H H1 hE es hEE hm
  go_enter Tryz.func33, Tryz.ntmps33
  go_wp2_with (go_at_call 37; (with_reducible refine (CW.out _).mono ?_); rintro e w1 ⟨rfl, V⟩; have V1 := Lib.hid V; clear V)
  go_ret2
  exact V1.out
/-- A state of Concat's loop. -/
structure CSt (w0 wr : World) (bd bl bw bp : Nat) (R : Int) (F : List Int) (G : Int) (d0 : Ds) (h : Int) (xs : List Int) (Fr : Res) (k : Nat) (d : Ds) (x : Ws) (N : Int) : Prop where
  inn : In w0 wr (star (PL bd bl R F G d (h + 1)) (star (WR bw bd bl x) (star (blkR bp (pbox bd bl)) Fr)))
  eqn : catAll R F G (h + 1) d0.create (wrX d0) xs = catAll R F G (h + 1) d x (xs.drop k)
  le : d.le (N + 1 + 2002 * k)
  num : x.n ≤ 1001 * k
  file : x.file = d0.made + 1
  opn : x.ended = false
  left : ∀ m ∈ xs, leftN d (rs0 m) ≤ 1000
theorem CSt.cells {wr : World} {d0 : Ds} {k : Nat} {x : Ws} {N : Int} (C : CSt w0 wr bd bl bw bp R F G d0 h xs Fr k d x N) : wr.cell? ⟨bp, 0, none⟩ = some (dp bd) ∧ wr.cell? ⟨bp, 1, none⟩ = some (lp bl) ∧ wr.cell? ⟨bp, 2, none⟩ = some (.int .i64 0) := by
  have hb := C.inn.right.right.left.get fun S h => h.1
  exact ⟨cell_of_blk hb 0, cell_of_blk hb 1, cell_of_blk hb 2⟩
set_option maxHeartbeats 1000000 in
theorem concat_b (g : Good Fr) (H : In w0 w (star (PL bd bl R F G d h) Fr)) (HL : ∀ W, In w0 W Fr → RdI W A n xs) {N : Int} (hN : d.le N) (hb : N ≤ 500000) (hN0 : 0 ≤ N) (hn : n ≤ 40) (hE : wrE G d h = 0) (hfile : ∀ m ∈ xs, m ≠ d.made + 1) (hl : ∀ m ∈ xs, leftN d.create (rs0 m) ≤ 1000) :
    Calls Tryz.prog 33 #[pv bd bl, .slice A n c] w (ConcatP bd bl R F G d h xs w0 Fr) := by
  have hG : ¬ G ≤ h := by unfold wrE at hE; intro hG; rw [if_pos hG] at hE; cases hE
  have hC : d.createE = 0 := by unfold wrE at hE; rw [if_neg hG] at hE; exact hE
  have h0 := (PL_ok H).2.1
  have H1 := H.pushB (star_good (PL_good _ _ _ _ _ _ _) g) (pbox bd bl)
  have gB : Good (star (blkR w.heap.size (pbox bd bl)) Fr) := star_good (blkR_good _ _) g
  have CW := Lib.hid ((writer_c gB H1 hG (by have := hN.1; omega) hC).mono fun (e : Ending) (w' : World) hh => show ∃ bw, e = .returned (.tuple #[wp_ bw, .int .i64 0]) ∧ CSt w0 w' bd bl bw w.heap.size R F G d h xs Fr 0 d.create (wrX d) N from by
    obtain ⟨bw, h1, h2⟩ := hh
    exact ⟨bw, h1, h2, rfl, by simpa using le_create hN, by unfold wrX; simp, rfl, rfl, hl⟩)
  have HR := Lib.hid (fun W (V : In w0 W Fr) (k : Nat) (hk : k < n) => int_stays (P := fun W => In w0 W Fr) V HL hk)
  have es : concatS R F G d h xs = if (catAll R F G (h + 1) d.create (wrX d) xs).e ≠ 0 then ⟨0, (catAll R F G (h + 1) d.create (wrX d) xs).e, (catAll R F G (h + 1) d.create (wrX d) xs).x.dropD (catAll R F G (h + 1) d.create (wrX d) xs).d⟩
    else ⟨(catAll R F G (h + 1) d.create (wrX d) xs).x.doneN R F (catAll R F G (h + 1) d.create (wrX d) xs).d, (catAll R F G (h + 1) d.create (wrX d) xs).x.doneE R F (catAll R F G (h + 1) d.create (wrX d) xs).d, (catAll R F G (h + 1) d.create (wrX d) xs).x.doneD R F (catAll R F G (h + 1) d.create (wrX d) xs).d⟩ := by
    unfold concatS
    rw [if_neg (by rw [hE]; decide)]
  have ES := Lib.hid es
  have h0 := Lib.hid h0
  have hn64 := (HL _ H.right).2.1
  have hlen := Lib.hid (HL _ H.right).1
  have HF := Lib.hid hfile
  clear H H1 hE hG hC es HL hN hl hfile
  go_enter Tryz.func33, Tryz.ntmps33
  go_wp2_with (go_at_call 37; (with_reducible refine CW.out.mono ?_); rintro e w1 ⟨bw, rfl, V⟩; have V1 := Lib.hid V; clear V CW)
  go_loopw [22] (fun i wr => ∃ (k : Nat) (d' : Ds) (x : Ws), k ≤ n ∧ i = .int .i64 (k : Int) ∧ Hid (CSt w0 wr bd bl bw w.heap.size R F G d h xs Fr k d' x N)) (fun i _ => n - (intOf i).toNat)
  case atStart => exact ⟨0, _, _, by omega, rfl, V1⟩
  case round =>
    clear V1
    obtain ⟨k, d', x, hk, rfl, HS⟩ := hrel
    have hle := HS.out.le
    have hnum := HS.out.num
    obtain ⟨k0, k1, k2⟩ := HS.out.cells
    have hd1 : d'.deeds ≤ 1000000000 := by have := hle.2; omega
    by_cases hlt : k < n
    · obtain ⟨ad, m, rfl, hx, hw, hst⟩ := HR.out _ HS.out.inn.right.right.right k hlt
      have hcell := hst _ HS.out.inn.right.right.right
      have hmem : m ∈ xs := List.mem_of_getElem? hx
      have hmf : m ≠ x.file := by rw [HS.out.file]; exact HF.out m hmem
      have hlm := HS.out.left m hmem
      have CP := copy_walk (N := N + 1 + 2002 * k) gB HS.out.inn hw hmf hle (by omega) (by omega) (by omega) (by omega) (by omega)
      have hdrop : xs.drop k = m :: xs.drop (k + 1) := by
        obtain ⟨hl, e⟩ := List.getElem?_eq_some_iff.1 hx
        rw [List.drop_eq_getElem_cons hl, e]
      have hcx := copyS_x (R := R) (F := F) (G := G) (d := d') (h := h + 1) (x := x) (n := m)
      by_cases hpe : (copyS R F G d' (h + 1) x m).e = 0
      · have CP := Lib.hid (CP.mono fun (e : Ending) (w' : World) hh => show e = Ending.returned (.tuple #[.int .i64 (copyS R F G d' (h + 1) x m).n, .int .i64 0]) ∧ CSt w0 w' bd bl bw w.heap.size R F G d h xs Fr (k + 1) (copyS R F G d' (h + 1) x m).d (copyS R F G d' (h + 1) x m).x N from by
          obtain ⟨h1, h2⟩ := hh
          rw [hpe] at h1
          refine ⟨h1, h2, ?_, (copyS_le hle).mono (by push_cast; omega), by have := hcx.2.2; push_cast at this ⊢; omega, hcx.1.trans HS.out.file, hcx.2.1.trans HS.out.opn, fun m' hm' => ?_⟩
          · rw [HS.out.eqn, hdrop]
            conv => lhs; unfold catAll
            rw [if_pos hpe]
          · rw [copyS_left (by rw [HS.out.file]; exact HF.out m' hm')]
            exact HS.out.left m' hm')
        obtain ⟨Z, hZ⟩ : ∃ Z, Z = (copyS R F G d' (h + 1) x m).n := ⟨_, rfl⟩
        rw [← hZ] at CP
        clear hpe hst hdrop hx hle hnum hd1 hcx hmem hmf hlm hw hZ HS
        go_wp2_with (go_at_call 64; (with_reducible refine CP.out.mono ?_); rintro e w2 ⟨rfl, V⟩; have V2 := Lib.hid V; clear V CP)
        go_roundw
        case measure => simp [intOf]; omega
        case rel => exact ⟨k + 1, _, _, by omega, by go_num, V2⟩
      · have e1 : catAll R F G (h + 1) d.create (wrX d) xs = ⟨(copyS R F G d' (h + 1) x m).e, (copyS R F G d' (h + 1) x m).d, (copyS R F G d' (h + 1) x m).x⟩ := by
          rw [HS.out.eqn, hdrop]
          conv => lhs; unfold catAll
          rw [if_neg hpe]
        have hxo : (copyS R F G d' (h + 1) x m).x.ended = false := hcx.2.1.trans HS.out.opn
        have CP := Lib.hid (CP.mono fun (e : Ending) (w' : World) hh => show e = Ending.returned (.tuple #[.int .i64 (copyS R F G d' (h + 1) x m).n, .int .i64 (copyS R F G d' (h + 1) x m).e]) ∧ In w0 w' (star (PL bd bl R F G (copyS R F G d' (h + 1) x m).d (h + 1)) (star (WR bw bd bl (copyS R F G d' (h + 1) x m).x) (star (blkR w.heap.size (pbox bd bl)) Fr))) from hh)
        have CD := Lib.hid (fun W (V : In w0 W (star (PL bd bl R F G (copyS R F G d' (h + 1) x m).d (h + 1)) (star (WR bw bd bl (copyS R F G d' (h + 1) x m).x) (star (blkR w.heap.size (pbox bd bl)) Fr)))) => (w_drop gB V).mono fun (e : Ending) (w' : World) hh => show e = .returned (.tuple #[]) ∧ ConcatP bd bl R F G d h xs w0 Fr (.returned (.tuple #[.int .i64 0, .int .i64 (copyS R F G d' (h + 1) x m).e])) w' from by
          obtain ⟨h1, h2⟩ := hh
          refine ⟨h1, ?_⟩
          unfold ConcatP
          rw [ES.out, e1, if_pos hpe]
          have eh : (copyS R F G d' (h + 1) x m).x.endH (h + 1) = h := by unfold Ws.endH; rw [if_neg (by rw [hxo]; decide), giveH_up h0.out]
          rw [eh] at h2
          exact ⟨rfl, h2.drop.drop⟩)
        have hpe1 : ((copyS R F G d' (h + 1) x m).e != 0) = true := by simpa using hpe
        obtain ⟨z, hz⟩ : ∃ z, z = copyS R F G d' (h + 1) x m := ⟨_, rfl⟩
        rw [← hz] at hpe1
        simp only [← hz] at CP CD
        clear hpe hst hdrop hx e1 hxo hle hnum hd1 hcx hmem hmf hlm hw hz HS
        go_wp2_with (first
          | (go_at_call 64; (with_reducible refine CP.out.mono ?_); rintro e w2 ⟨rfl, V⟩; have V2 := Lib.hid V; clear V CP)
          | (go_at_call 47; (with_reducible refine (CD.out _ V2.out).mono ?_); rintro e w3 ⟨rfl, V⟩; have V3 := Lib.hid V; clear V CD))
        go_ret2
        exact V3.out
    · have hkn : k = n := by omega
      subst hkn
      have e1 : catAll R F G (h + 1) d.create (wrX d) xs = ⟨0, d', x⟩ := by
        rw [HS.out.eqn, List.drop_of_length_le (by rw [hlen.out]; exact Nat.le_refl _)]
        rfl
      have CD := Lib.hid ((w_done gB HS.out.inn hd1).mono fun (e : Ending) (w' : World) hh => show e = .returned (.tuple #[.int .i64 (x.doneN R F d'), .int .i64 (x.doneE R F d')]) ∧ ConcatP bd bl R F G d h xs w0 Fr (.returned (.tuple #[.int .i64 (x.doneN R F d'), .int .i64 (x.doneE R F d')])) w' from by
        obtain ⟨h1, h2⟩ := hh
        refine ⟨h1, ?_⟩
        unfold ConcatP
        rw [ES.out, e1, if_neg (show ¬ (0 : Int) ≠ 0 by decide)]
        have eh : x.endH (h + 1) = h := by unfold Ws.endH; rw [if_neg (by rw [HS.out.opn]; decide), giveH_up h0.out]
        rw [eh] at h2
        exact ⟨rfl, h2.drop.drop⟩)
      clear e1 hle hnum hd1 HS
      go_wp2_with (go_at_call 40; (with_reducible refine CD.out.mono ?_); rintro e w2 ⟨rfl, V⟩; have V2 := Lib.hid V; clear V CD)
      go_ret2
      exact V2.out
end
end Go.Proofs.YtkbapoeilcapfaaGreat

/- fanout: what Copy gives where nothing fails. -/
namespace Go.Proofs.YtkbapoeilcapfaaGreat
set_option linter.unusedVariables false
set_option linter.unusedSimpArgs false

section
variable {R : Int} {F : List Int} {G : Int} {h : Int}
theorem read_used (F : List Int) (d : Ds) (n i : Int) : (d.read F n i).used = d.used := by
  unfold Ds.read
  split
  · rfl
  · split <;> rfl
theorem next_used (F : List Int) (d : Ds) (y : Rs) : (y.next F d).d.used = d.used := by
  have hl : (y.loadD F d).used = d.used := by
    unfold Rs.loadD
    split
    · rfl
    · split
      · rfl
      · exact read_used _ _ _ _
  unfold Rs.next
  split
  · rfl
  · split
    · rfl
    · split
      · exact hl
      · exact hl
theorem eachS_copy : ∀ (L : List (List V)) (f : Nat) {d : Ds} {y : Rs} {x : Ws} {M : List (List V)} {k : Int}, SOk R d → Left d y L → Wrote d x M → y.file ≠ x.file → L.length < f → d.used + L.length < R → x.n + L.length ≤ 1000000 → (∀ r ∈ L, mayE r = 0) →
    (eachS R [] f d y x k).e = 0 ∧ (eachS R [] f d y x k).n = k + L.length ∧ Wrote (eachS R [] f d y x k).d (eachS R [] f d y x k).x (M ++ L) ∧ SOk R (eachS R [] f d y x k).d ∧ (eachS R [] f d y x k).d.used ≤ d.used + L.length
  | _, 0, d, y, x, M, k, K, hL, hW, hf, hl, hu, hn, hm => by omega
  | [], f + 1, d, y, x, M, k, K, hL, hW, hf, hl, hu, hn, hm => by
    have e := left_none K hL
    rw [eachS_none f (by rw [e]), e]
    exact ⟨rfl, by simp, by simpa using hW, K, by simp⟩
  | r :: t, f + 1, d, y, x, M, k, K, hL, hW, hf, hl, hu, hn, hm => by
    obtain ⟨e1, e2⟩ := left_some K hL
    have hxf : (y.next [] d).x.file ≠ x.file := by rw [next_file]; exact hf
    have W2 : Wrote (y.next [] d).d x M := hW.other (next_find _ _ _ _)
    have hu2 : (y.next [] d).d.used < R := by rw [next_used]; simp at hu; omega
    have hp := put_zero W2 (hm r (by simp)) hu2
    have W3 := put_wrote W2 hp (by simp at hn; omega)
    have hpn := put_n (R := R) (F := []) (d := (y.next [] d).d) (x := x) (r := r)
    have hpu := put_used (R := R) (F := []) (d := (y.next [] d).d) (x := x) (r := r)
    rw [next_used] at hpu
    rw [eachS_some f e1, if_pos hp]
    have ih := eachS_copy t f (k := k + 1) ((K.next).put (x := x) (r := r) W2.ok) (e2.other (put_find hxf)) W3 (by rw [hpn.2.1]; exact hxf) (by simp at hl; omega) (by simp at hu; omega) (by have := hpn.1; simp at hn; omega) (fun r' hr' => hm r' (by simp [hr']))
    rw [List.append_assoc] at ih
    exact ⟨ih.1, by rw [ih.2.1]; simp; omega, ih.2.2.1, ih.2.2.2.1, by have := ih.2.2.2.2; simp; omega⟩
end
end Go.Proofs.YtkbapoeilcapfaaGreat

/- fanout: Concat where nothing fails; where a file is gone. -/
namespace Go.Proofs.YtkbapoeilcapfaaGreat
set_option linter.unusedVariables false
set_option linter.unusedSimpArgs false

/-- The rows of a file. -/
def rowsD (d : Ds) (n : Int) : List (List V) := ((d.find n).getD []).flatMap pgRows
section
variable {R : Int} {F : List Int} {G : Int} {h : Int}
theorem has_rowsD {d : Ds} {n : Int} (hs : (d.find n).isSome = true) : Has d n (rowsD d n) := by
  obtain ⟨ps, hp⟩ := Option.isSome_iff_exists.1 hs
  exact ⟨ps, hp, by unfold rowsD; rw [hp]; rfl⟩
theorem left_rowsD {d : Ds} {n : Int} : leftN d (rs0 n) = (rowsD d n).length := by
  unfold leftN rowsD
  rw [left_len]
  simp
theorem copyS_ok {d : Ds} {x : Ws} {M : List (List V)} {n : Int} (K : SOk R d) (hW : Wrote d x M) (hG : ¬ G ≤ h) (hf : n ≠ x.file) (hs : (d.find n).isSome = true) (hm : ∀ r ∈ rowsD d n, mayE r = 0) (hu : d.used + (rowsD d n).length < R) (hn : x.n + (rowsD d n).length ≤ 1000000) :
    (copyS R [] G d h x n).e = 0 ∧ (copyS R [] G d h x n).n = (rowsD d n).length ∧ Wrote (copyS R [] G d h x n).d (copyS R [] G d h x n).x (M ++ rowsD d n) ∧ SOk R (copyS R [] G d h x n).d ∧ (copyS R [] G d h x n).d.used ≤ d.used + (rowsD d n).length := by
  have hE : rrE G d h n = 0 := by
    unfold rrE
    obtain ⟨ps, hp⟩ := Option.isSome_iff_exists.1 hs
    rw [hp, if_neg (by simp), if_neg hG]
  unfold copyS
  rw [if_neg (by simpa using hE)]
  have := eachS_copy (k := 0) (rowsD d n) (leftN d (rs0 n) + 1) K (Left.new (has_rowsD hs)) hW hf (by rw [left_rowsD]; omega) hu hn hm
  rw [Int.zero_add] at this
  exact this
theorem rowsD_copy {d : Ds} {x : Ws} {n m : Int} (hm : m ≠ x.file) : rowsD (copyS R F G d h x n).d m = rowsD d m := by
  unfold rowsD
  rw [copyS_find hm]
theorem catAll_ok : ∀ (xs : List Int) {d : Ds} {x : Ws} {M : List (List V)}, SOk R d → Wrote d x M → ¬ G ≤ h → (∀ n ∈ xs, n ≠ x.file ∧ (d.find n).isSome = true ∧ ∀ r ∈ rowsD d n, mayE r = 0) → d.used + (xs.flatMap (rowsD d)).length < R → x.n + (xs.flatMap (rowsD d)).length + xs.length ≤ 1000000 →
    (catAll R [] G h d x xs).e = 0 ∧ Wrote (catAll R [] G h d x xs).d (catAll R [] G h d x xs).x (M ++ xs.flatMap (rowsD d)) ∧ SOk R (catAll R [] G h d x xs).d
  | [], d, x, M, K, hW, hG, hx, hu, hn => ⟨rfl, by rw [List.flatMap_nil, List.append_nil]; exact hW, K⟩
  | n :: t, d, x, M, K, hW, hG, hx, hu, hn => by
    obtain ⟨h1, h2, h3⟩ := hx n (by simp)
    rw [List.flatMap_cons, List.length_append] at hu hn
    obtain ⟨c1, c2, c3, c4, c5⟩ := copyS_ok K hW hG h1 h2 h3 (by omega) (by omega)
    have hcx := copyS_x (R := R) (F := []) (G := G) (d := d) (h := h) (x := x) (n := n)
    have hr : ∀ m ∈ t, rowsD (copyS R [] G d h x n).d m = rowsD d m := fun m hm => rowsD_copy (hx m (by simp [hm])).1
    have hfm : t.flatMap (rowsD (copyS R [] G d h x n).d) = t.flatMap (rowsD d) := by rw [List.flatMap_def, List.flatMap_def, List.map_congr_left hr]
    unfold catAll
    rw [if_pos c1]
    have hxn := hcx.2.2
    rw [left_rowsD] at hxn
    push_cast at hxn
    rw [List.length_cons] at hn
    push_cast at hn hu
    have ih := catAll_ok t c4 c3 hG (fun m hm => ?_) (by rw [hfm]; omega) (by rw [hfm]; omega)
    · rw [hfm, List.append_assoc] at ih
      rw [List.flatMap_cons]
      exact ih
    · obtain ⟨q1, q2, q3⟩ := hx m (by simp [hm])
      refine ⟨by rw [hcx.1]; exact q1, by rw [copyS_find q1]; exact q2, ?_⟩
      rw [hr m hm]
      exact q3
theorem catAll_x : ∀ (xs : List Int) {d : Ds} {x : Ws}, (catAll R F G h d x xs).x.file = x.file ∧ (catAll R F G h d x xs).x.ended = x.ended ∧ (catAll R F G h d x xs).d.fs.length = d.fs.length ∧ ∀ m, m ≠ x.file → (catAll R F G h d x xs).d.find m = d.find m
  | [], d, x => ⟨rfl, rfl, rfl, fun _ _ => rfl⟩
  | n :: t, d, x => by
    have hcx := copyS_x (R := R) (F := F) (G := G) (d := d) (h := h) (x := x) (n := n)
    have hfs : (copyS R F G d h x n).d.fs.length = d.fs.length := by
      unfold copyS
      split
      · rfl
      · exact eachS_fs _
    unfold catAll
    split
    · have ih := catAll_x t (d := (copyS R F G d h x n).d) (x := (copyS R F G d h x n).x)
      exact ⟨ih.1.trans hcx.1, ih.2.1.trans hcx.2.1, ih.2.2.1.trans hfs, fun m hm => (ih.2.2.2 m (by rw [hcx.1]; exact hm)).trans (copyS_find hm)⟩
    · exact ⟨hcx.1, hcx.2.1, hfs, fun m hm => copyS_find hm⟩
/-- A file that is not there stops it. -/
theorem catAll_gone : ∀ (xs : List Int) {d : Ds} {x : Ws} {M : List (List V)}, SOk R d → Wrote d x M → ¬ G ≤ h → (∀ n ∈ xs, n ≠ x.file ∧ ∀ r ∈ rowsD d n, mayE r = 0) → (∃ n ∈ xs, d.find n = none) → d.used + (xs.flatMap (rowsD d)).length < R → x.n + (xs.flatMap (rowsD d)).length + xs.length ≤ 1000000 →
    (catAll R [] G h d x xs).e = 4
  | [], d, x, M, K, hW, hG, hx, hg, hu, hn => by obtain ⟨n, h, _⟩ := hg; simp at h
  | n :: t, d, x, M, K, hW, hG, hx, hg, hu, hn => by
    obtain ⟨h1, h3⟩ := hx n (by simp)
    cases hf : d.find n with
    | none =>
      have e4 : (copyS R [] G d h x n).e = 4 := by
        have hE : rrE G d h n = 4 := by unfold rrE; rw [hf]; rfl
        unfold copyS
        rw [hE, if_pos (by decide)]
      unfold catAll
      rw [if_neg (by rw [e4]; decide)]
      exact e4
    | some ps =>
      rw [List.flatMap_cons, List.length_append] at hu hn
      rw [List.length_cons] at hn
      push_cast at hn hu
      obtain ⟨c1, c2, c3, c4, c5⟩ := copyS_ok K hW hG h1 (by rw [hf]; rfl) h3 (by omega) (by omega)
      have hcx := copyS_x (R := R) (F := []) (G := G) (d := d) (h := h) (x := x) (n := n)
      have hr : ∀ m ∈ t, rowsD (copyS R [] G d h x n).d m = rowsD d m := fun m hm => rowsD_copy (hx m (by simp [hm])).1
      have hfm : t.flatMap (rowsD (copyS R [] G d h x n).d) = t.flatMap (rowsD d) := by rw [List.flatMap_def, List.flatMap_def, List.map_congr_left hr]
      have hxn := hcx.2.2
      rw [left_rowsD] at hxn
      push_cast at hxn
      unfold catAll
      rw [if_pos c1]
      refine catAll_gone t c4 c3 hG (fun m hm => ?_) ?_ (by rw [hfm]; omega) (by rw [hfm]; omega)
      · obtain ⟨q1, q3⟩ := hx m (by simp [hm])
        refine ⟨by rw [hcx.1]; exact q1, ?_⟩
        rw [hr m hm]
        exact q3
      · obtain ⟨m, hm, hmn⟩ := hg
        rcases List.mem_cons.1 hm with e | e
        · rw [e, hf] at hmn; cases hmn
        · exact ⟨m, e, by rw [copyS_find (hx m (by simp [e])).1]; exact hmn⟩
end
end Go.Proofs.YtkbapoeilcapfaaGreat

/- fanout: a fan of writers as a thing apart. -/
namespace Go.Proofs.YtkbapoeilcapfaaGreat
open Go.RowKit Go.Maps
set_option linter.unusedVariables false
set_option linter.unusedSimpArgs false
set_option maxRecDepth 6000

/-- A writer at its block. -/
structure Wb where
  b : Nat
  x : Ws
abbrev fanObj (bd bl : Nat) (seed level : Int) (cv : Value) (wv : Value) : Obj := .cells #[dp bd, lp bl, .int .i64 0, .int .u64 seed, .int .i64 level, cv, wv] 129 (0, 0)
abbrev wbVs (ws : List Wb) : List Value := ws.map fun p => wp_ p.b
abbrev WBs (bd bl : Nat) (ws : List Wb) : Res := each (fun p : Wb => WR p.b bd bl p.x) ws
/-- The fan's block and its row of writers. -/
abbrev FB (bf bd bl : Nat) (seed level : Int) (cv : Value) (A : Option Addr) (c : Nat) (ws : List Wb) (X : Res) : Res :=
  star (blkR bf (fanObj bd bl seed level cv (.slice A ws.length c))) (star (rowR 88 1 (.slice A ws.length c) ws.length (wbVs ws)) X)
abbrev FN (bf bd bl : Nat) (seed level : Int) (cv : Value) (R : Int) (F : List Int) (G : Int) (d : Ds) (h : Int) (A : Option Addr) (c : Nat) (ws : List Wb) (X : Res) : Res :=
  star (PL bd bl R F G d h) (star (WBs bd bl ws) (FB bf bd bl seed level cv A c ws X))
section
variable {w0 w W : World} {bf bd bl : Nat} {seed level : Int} {cv : Value} {R : Int} {F : List Int} {G : Int} {d : Ds} {h : Int} {A : Option Addr} {c : Nat} {ws : List Wb} {X : Res}
theorem WBs_good : Good (WBs bd bl ws) := each_good (fun _ => WR_good _ _ _ _) _
theorem FB_good (g : Good X) : Good (FB bf bd bl seed level cv A c ws X) := star_good (blkR_good _ _) (star_good (rowR_good _ _ _ _ _) g)
theorem FN_good (g : Good X) : Good (FN bf bd bl seed level cv R F G d h A c ws X) := star_good (PL_good _ _ _ _ _ _ _) (star_good WBs_good (FB_good g))
theorem FN_cells (V : In w0 W (FN bf bd bl seed level cv R F G d h A c ws X)) : W.cell? ⟨bf, 0, none⟩ = some (dp bd) ∧ W.cell? ⟨bf, 1, none⟩ = some (lp bl) ∧ W.cell? ⟨bf, 2, none⟩ = some (.int .i64 0) ∧ W.cell? ⟨bf, 3, none⟩ = some (.int .u64 seed) ∧ W.cell? ⟨bf, 4, none⟩ = some (.int .i64 level) ∧ W.cell? ⟨bf, 5, none⟩ = some cv ∧ W.cell? ⟨bf, 6, none⟩ = some (.slice A ws.length c) := by
  have hb := V.right.right.left.get fun S h => h.1
  exact ⟨cell_of_blk hb 0, cell_of_blk hb 1, cell_of_blk hb 2, cell_of_blk hb 3, cell_of_blk hb 4, cell_of_blk hb 5, cell_of_blk hb 6⟩
end
end Go.Proofs.YtkbapoeilcapfaaGreat

/- fanout: drop. -/
namespace Go.Proofs.YtkbapoeilcapfaaGreat
open Go.RowKit Go.Maps
set_option linter.unusedVariables false
set_option linter.unusedSimpArgs false
set_option maxRecDepth 6000

def dropsD : Ds → List Wb → Ds
  | d, [] => d
  | d, p :: t => dropsD (p.x.dropD d) t
def dropsH : Int → List Wb → Int
  | h, [] => h
  | h, p :: t => dropsH (p.x.endH h) t
def dropsX (ws : List Wb) : List Wb := ws.map fun p => ⟨p.b, p.x.dropX⟩
section
variable {w0 w W : World} {bf bd bl : Nat} {seed level : Int} {cv : Value} {R : Int} {F : List Int} {G : Int} {d : Ds} {h : Int} {A : Option Addr} {c : Nat} {ws l1 l2 : List Wb} {p : Wb} {x : Ws} {X : Res}
/-- One writer of the fan apart. -/
theorem F_out (V : In w0 W (FN bf bd bl seed level cv R F G d h A c (l1 ++ p :: l2) X)) : In w0 W (star (PL bd bl R F G d h) (star (WR p.b bd bl p.x) (star (WBs bd bl (l1 ++ l2)) (FB bf bd bl seed level cv A c (l1 ++ p :: l2) X)))) :=
  V.imp fun S h => star_mono h (fun _ => id) (fun S h => star_assoc (star_mono h (fun _ h => each_out h) (fun _ => id)))
theorem F_in (V : In w0 W (star (PL bd bl R F G d h) (star (WR p.b bd bl x) (star (WBs bd bl (l1 ++ l2)) (FB bf bd bl seed level cv A c (l1 ++ p :: l2) X))))) : In w0 W (FN bf bd bl seed level cv R F G d h A c (l1 ++ ⟨p.b, x⟩ :: l2) X) := by
  have e : (l1 ++ (⟨p.b, x⟩ : Wb) :: l2).length = (l1 ++ p :: l2).length := by simp
  have e1 : wbVs (l1 ++ ⟨p.b, x⟩ :: l2) = wbVs (l1 ++ p :: l2) := by simp
  unfold FN FB
  rw [e, e1]
  exact V.imp fun S h => star_mono h (fun _ => id) (fun S h => star_mono (star_assoc' h) (fun _ h => each_in (R := fun p : Wb => WR p.b bd bl p.x) (a := ⟨p.b, x⟩) h) (fun _ => id))
theorem F_row (V : In w0 W (FN bf bd bl seed level cv R F G d h A c (l1 ++ p :: l2) X)) : ∃ a, A = some a ∧ W.cell? (a.add l1.length) = some (wp_ p.b) := by
  have h1 := V.right.right.right.left.get fun S h => h.1
  obtain ⟨a, e1, k1⟩ := (Rd1.of_own h1).2.at_ (show l1.length < (l1 ++ p :: l2).length by simp)
  exact ⟨a, e1, by rw [k1]; simp⟩
/-- A state of drop's loop. -/
structure FSt (w0 wr : World) (bf bd bl : Nat) (seed level : Int) (cv : Value) (R : Int) (F : List Int) (G : Int) (d0 : Ds) (h0 : Int) (A : Option Addr) (c : Nat) (ws : List Wb) (X : Res) (k : Nat) : Prop where
  ex : ∃ d h, In w0 wr (FN bf bd bl seed level cv R F G d h A c (dropsX (ws.take k) ++ ws.drop k) X) ∧ dropsD d0 ws = dropsD d (ws.drop k) ∧ dropsH h0 ws = dropsH h (ws.drop k)
set_option maxHeartbeats 1000000 in
theorem fan_drop (g : Good X) (V : In w0 w (FN bf bd bl seed level cv R F G d h A c ws X)) (hn : ws.length ≤ 1000) :
    Calls Tryz.prog 69 #[.pointer (some ⟨bf, 0, none⟩)] w fun e w' => e = .returned (.tuple #[]) ∧ In w0 w' (FN bf bd bl seed level cv R F G (dropsD d ws) (dropsH h ws) A c (dropsX ws) X) := by
  obtain ⟨c0, c1, c2, c3, c4, c5, c6⟩ := FN_cells V
  have HS := Lib.hid (show FSt w0 w bf bd bl seed level cv R F G d h A c ws X 0 from ⟨d, h, V, rfl, rfl⟩)
  have CD := Lib.hid (fun wr k (hk : k < ws.length) (S : FSt w0 wr bf bd bl seed level cv R F G d h A c ws X k) => show ∃ a b, A = some a ∧ wr.cell? (a.add k) = some (wp_ b) ∧ Calls Tryz.prog 47 #[wp_ b] wr fun e w' => e = .returned (.tuple #[]) ∧ FSt w0 w' bf bd bl seed level cv R F G d h A c ws X (k + 1) from by
    obtain ⟨d', h', V', e1, e2⟩ := S.ex
    have hl : (dropsX (ws.take k)).length = k := by unfold dropsX; rw [List.length_map, List.length_take]; omega
    have hd : ws.drop k = ws[k] :: ws.drop (k + 1) := List.drop_eq_getElem_cons hk
    rw [hd] at V' e1 e2
    obtain ⟨a, ea, ca⟩ := F_row V'
    rw [hl] at ca
    refine ⟨a, _, ea, ca, (w_drop (star_good WBs_good (FB_good g)) (F_out V')).mono fun e w' hh => ?_⟩
    unfold DropP at hh
    refine ⟨hh.1, _, _, ?_, e1, e2⟩
    have V2 := F_in hh.2
    have e3 : dropsX (ws.take (k + 1)) = dropsX (ws.take k) ++ [⟨ws[k].b, ws[k].x.dropX⟩] := by
      unfold dropsX
      rw [List.take_succ_eq_append_getElem hk, List.map_append]
      rfl
    rw [e3, List.append_assoc]
    exact V2)
  have EF := Lib.hid (fun wr (S : FSt w0 wr bf bd bl seed level cv R F G d h A c ws X ws.length) => show In w0 wr (FN bf bd bl seed level cv R F G (dropsD d ws) (dropsH h ws) A c (dropsX ws) X) from by
    obtain ⟨d', h', V', e1, e2⟩ := S.ex
    rw [List.drop_length] at V' e1 e2
    rw [List.take_length, List.append_nil] at V'
    rw [e1, e2]
    exact V')
  obtain ⟨n, hnn⟩ : ∃ n, n = ws.length := ⟨_, rfl⟩
  rw [← hnn] at c6 hn
  simp only [← hnn] at CD EF
  clear V hnn c0 c1 c2 c3 c4 c5
  go_enter Tryz.func69, Tryz.ntmps69
  go_wp2
  go_loopw [9] (fun i wr => ∃ k : Nat, k ≤ n ∧ i = .int .i64 (k : Int) ∧ Hid (FSt w0 wr bf bd bl seed level cv R F G d h A c ws X k)) (fun i _ => n - (intOf i).toNat)
  case atStart => exact ⟨0, by omega, rfl, HS⟩
  case round =>
    clear HS
    obtain ⟨k, hk, rfl, HS⟩ := hrel
    by_cases hlt : k < n
    · obtain ⟨a, b, rfl, hcell, C1⟩ := CD.out _ k hlt HS.out
      have C1 := Lib.hid C1
      clear HS
      go_wp2_with (go_at_call 47; (with_reducible refine C1.out.mono ?_); rintro e w2 ⟨rfl, V⟩; have V2 := Lib.hid V; clear V)
      go_roundw
      case measure => simp [intOf]; omega
      case rel => exact ⟨k + 1, by omega, by go_num, V2⟩
    · obtain rfl : n = k := by omega
      have V2 := Lib.hid (EF.out _ HS.out)
      clear HS
      go_wp2
      go_end0
      exact ⟨by trivial, V2.out⟩
end
end Go.Proofs.YtkbapoeilcapfaaGreat

/- fanout: open. -/
namespace Go.Proofs.YtkbapoeilcapfaaGreat
open Go.RowKit Go.Maps
set_option linter.unusedVariables false
set_option linter.unusedSimpArgs false
set_option maxRecDepth 6000

section
variable {w0 w W : World} {bf bd bl bw : Nat} {seed level : Int} {cv : Value} {R : Int} {F : List Int} {G : Int} {d : Ds} {h : Int} {A : Option Addr} {c : Nat} {ws l1 l2 : List Wb} {p : Wb} {x : Ws} {X : Res}
/-- A new writer laid beside the fan, its row ahead. -/
theorem F_new (V : In w0 W (star (PL bd bl R F G d.create (h + 1)) (star (WR bw bd bl (wrX d)) (star (WBs bd bl ws) (FB bf bd bl seed level cv A c ws X))))) :
    In w0 W (star (rwR (.slice A ws.length c) ws.length (wbVs ws)) (star (blkR bf (fanObj bd bl seed level cv (.slice A ws.length c))) (star (PL bd bl R F G d.create (h + 1)) (star (WR bw bd bl (wrX d)) (star (WBs bd bl ws) X))))) :=
  V.ac (by dsimp only [FB, rwR]; ac_rfl)
theorem F_grown {v : Value} (V : In w0 W (star (blkR bf (fanObj bd bl seed level cv v)) (star (rwR v (ws.length + 1) (wbVs ws ++ [wp_ bw])) (star (PL bd bl R F G d.create (h + 1)) (star (WR bw bd bl (wrX d)) (star (WBs bd bl ws) X)))))) :
    ∃ A' c', In w0 W (FN bf bd bl seed level cv R F G d.create (h + 1) A' c' (ws ++ [⟨bw, wrX d⟩]) X) := by
  obtain ⟨A', c', rfl⟩ := own_slice (V.right.left.get fun S h => h.1)
  refine ⟨A', c', ?_⟩
  have e1 : (ws ++ [(⟨bw, wrX d⟩ : Wb)]).length = ws.length + 1 := by simp
  have e2 : wbVs (ws ++ [⟨bw, wrX d⟩]) = wbVs ws ++ [wp_ bw] := by simp
  have V2 : In w0 W (star (star (WR bw bd bl (wrX d)) (WBs bd bl ws)) (star (PL bd bl R F G d.create (h + 1)) (star (blkR bf (fanObj bd bl seed level cv (.slice A' (ws.length + 1) c'))) (star (rwR (.slice A' (ws.length + 1) c') (ws.length + 1) (wbVs ws ++ [wp_ bw])) X)))) := V.ac (by ac_rfl)
  have V3 := V2.imp fun S h => star_mono h (fun S h => each_in (R := fun p : Wb => WR p.b bd bl p.x) (a := ⟨bw, wrX d⟩) (l1 := ws) (l2 := []) (by rw [List.append_nil]; exact h)) (fun _ => id)
  unfold FN FB
  rw [e1, e2]
  refine V3.ac ?_
  dsimp only [rwR, WBs]
  ac_rfl
structure Op_ where
  e : Int
  d : Ds
  h : Int
  xs : List Ws
def openS (G : Int) : Nat → Ds → Int → List Ws → Op_
  | 0, d, h, xs => ⟨0, d, h, xs⟩
  | k + 1, d, h, xs => if wrE G d h ≠ 0 then ⟨wrE G d h, d, h, xs⟩ else openS G k d.create (h + 1) (xs ++ [wrX d])
/-- A state of open's loop. -/
structure OSt (w0 wr : World) (bf bd bl : Nat) (seed level : Int) (cv : Value) (R : Int) (F : List Int) (G : Int) (z : Op_) (X : Res) (m k : Nat) (N : Int) : Prop where
  ex : ∃ d h A c ws, In w0 wr (FN bf bd bl seed level cv R F G d h A c ws X) ∧ z = openS G (m - k) d h (ws.map (·.x)) ∧ ws.length = k ∧ d.made ≤ N + k
def OpenP (bf bd bl : Nat) (seed level : Int) (cv : Value) (R : Int) (F : List Int) (G : Int) (z : Op_) (w0 : World) (X : Res) (e : Ending) (w' : World) : Prop :=
  e = .returned (.int .i64 z.e) ∧ ∃ A c ws, In w0 w' (FN bf bd bl seed level cv R F G z.d z.h A c ws X) ∧ ws.map (·.x) = z.xs
theorem openS_step {k : Nat} {xs : List Ws} : openS G (k + 1) d h xs = if wrE G d h ≠ 0 then ⟨wrE G d h, d, h, xs⟩ else openS G k d.create (h + 1) (xs ++ [wrX d]) := rfl
theorem open_call_yes {z : Op_} {m k : Nat} {N : Int} (g : Good X) (hE : wrE G d h = 0) (hm : d.made ≤ 1000000000) (V : In w0 W (FN bf bd bl seed level cv R F G d h A c ws X)) :
    Calls Tryz.prog 37 #[pv bd bl] W fun e w' => ∃ bw, e = .returned (.tuple #[wp_ bw, .int .i64 0]) ∧ (w'.cell? ⟨bf, 6, none⟩ = some (.slice A ws.length c) ∧ w'.frozen? ⟨bf, 6, none⟩ = false) ∧ In w0 w' (star (rwR (.slice A ws.length c) ws.length (wbVs ws)) (star (blkR bf (fanObj bd bl seed level cv (.slice A ws.length c))) (star (PL bd bl R F G d.create (h + 1)) (star (WR bw bd bl (wrX d)) (star (WBs bd bl ws) X))))) := by
  unfold wrE at hE
  by_cases hG : G ≤ h
  · rw [if_pos hG] at hE; cases hE
  · rw [if_neg hG] at hE
    refine (writer_c (star_good WBs_good (FB_good g)) V hG hm hE).mono fun e w' hh => ?_
    obtain ⟨bw, h1, h2⟩ := hh
    have h3 := F_new h2
    have hb := h3.right.left.get fun S h => h.1
    exact ⟨bw, h1, ⟨cell_of_blk hb 6, free_of_blk hb 6⟩, h3⟩
theorem open_call_no (g : Good X) (hE : wrE G d h ≠ 0) (hm : d.made ≤ 1000000000) (V : In w0 W (FN bf bd bl seed level cv R F G d h A c ws X)) :
    Calls Tryz.prog 37 #[pv bd bl] W fun e w' => e = .returned (.tuple #[.pointer none, .int .i64 (wrE G d h)]) ∧ In w0 w' (FN bf bd bl seed level cv R F G d h A c ws X) := by
  unfold wrE at hE ⊢
  by_cases hG : G ≤ h
  · rw [if_pos hG]
    exact writer_a (star_good WBs_good (FB_good g)) V hG
  · rw [if_neg hG] at hE ⊢
    exact writer_b (star_good WBs_good (FB_good g)) V hG hm hE
set_option maxHeartbeats 1000000 in
theorem fan_open (g : Good X) {m : Nat} (hm : m ≤ 64) {N : Int} (hN : d.made ≤ N) (hN2 : N ≤ 1000000) (V : In w0 w (FN bf bd bl seed level cv R F G d h none 0 [] X)) :
    Calls Tryz.prog 66 #[.pointer (some ⟨bf, 0, none⟩), .int .i64 (m : Int)] w (OpenP bf bd bl seed level cv R F G (openS G m d h []) w0 X) := by
  obtain ⟨z, hz⟩ : ∃ z, z = openS G m d h [] := ⟨_, rfl⟩
  rw [← hz]
  have HS := Lib.hid (show OSt w0 w bf bd bl seed level cv R F G z X m 0 N from ⟨d, h, none, 0, [], V, hz, rfl, by simpa using hN⟩)
  clear V hz hN
  go_enter Tryz.func66, Tryz.ntmps66
  go_wp2
  go_loopw [8] (fun i wr => ∃ k : Nat, k ≤ m ∧ i = .int .i64 (k : Int) ∧ Hid (OSt w0 wr bf bd bl seed level cv R F G z X m k N)) (fun i _ => m - (intOf i).toNat)
  case atStart => exact ⟨0, by omega, rfl, HS⟩
  case round =>
    clear HS
    obtain ⟨k, hk, rfl, HS⟩ := hrel
    obtain ⟨d', h', A, c, ws, V, ez, hl, hmd⟩ := HS.out.ex
    obtain ⟨c0, c1, c2, c3, c4, c5, c6⟩ := FN_cells V
    have hmd2 : d'.made ≤ 1000000000 := by omega
    by_cases hlt : k < m
    · by_cases hE : wrE G d' h' = 0
      · have C1 := Lib.hid (open_call_yes (z := z) (m := m) (k := k) (N := N) g hE hmd2 V)
        have G1 := Lib.hid (fun bw w3 w4 v1 (V : In w0 w3 (star (rwR (.slice A ws.length c) ws.length (wbVs ws)) (star (blkR bf (fanObj bd bl seed level cv (.slice A ws.length c))) (star (PL bd bl R F G d'.create (h' + 1)) (star (WR bw bd bl (wrX d')) (star (WBs bd bl ws) X))))))
            (h1 : w4.ownsRow 0 88 1 v1 (ws.length + 1) (wbVs ws ++ [wp_ bw])) (ht : Turn (fun k => (Value.slice A ws.length c).ownBlock = some k) w3 w4) (hor : v1.ownBlock = (Value.slice A ws.length c).ownBlock ∨ ∃ b, v1.ownBlock = some b ∧ w3.heap.size ≤ b) =>
          show (∃ A c, v1 = .slice A (ws.length + 1) c) ∧ (w4.cell? ⟨bf, 6, none⟩ = some (.slice A ws.length c) ∧ w4.frozen? ⟨bf, 6, none⟩ = false) ∧ OSt w0 (w4.setCell ⟨bf, 6, none⟩ v1) bf bd bl seed level cv R F G z X m (k + 1) N from by
          have gz : Good (star (PL bd bl R F G d'.create (h' + 1)) (star (WR bw bd bl (wrX d')) (star (WBs bd bl ws) X))) := star_good (PL_good _ _ _ _ _ _ _) (star_good (WR_good _ _ _ _) (star_good WBs_good g))
          have V4 := (V.grow (star_good (blkR_good _ _) gz) h1 ht hor).swap
          have hb := V4.left.get fun S h => h.1
          have V5 : In w0 (w4.setCell ⟨bf, 6, none⟩ v1) (star (blkR bf (fanObj bd bl seed level cv v1)) (star (rwR v1 (ws.length + 1) (wbVs ws ++ [wp_ bw])) (star (PL bd bl R F G d'.create (h' + 1)) (star (WR bw bd bl (wrX d')) (star (WBs bd bl ws) X))))) :=
            V4.put (star_good (rowR_good _ _ _ _ _) gz) 6 v1
          obtain ⟨A', c', V'⟩ := F_grown V5
          refine ⟨own_slice h1, ⟨cell_of_blk hb 6, free_of_blk hb 6⟩, _, _, A', c', _, V', ?_, by simp [hl], ?_⟩
          · have e : m - k = (m - (k + 1)) + 1 := by omega
            rw [ez, e, openS_step, if_neg (by rw [hE]; decide)]
            simp
          · have := create_deeds d'; push_cast; omega)
        have HO := Lib.hid (V.right.right.right.left.get fun S h => h.1)
        obtain ⟨n, hn⟩ : ∃ n, n = ws.length := ⟨_, rfl⟩
        have hn64 : n ≤ 1000 := by omega
        simp only [← hn] at C1 G1
        clear V ez hl hmd hmd2 hE HS hn HO c3 c4 c5 c6
        go_wp2_with (first
          | (go_at_call 37; (with_reducible refine C1.out.mono ?_); rintro e w3 ⟨bw, rfl, ⟨a6, f6⟩, V⟩; have HO := Lib.hid (V.left.get fun S h => h.1); have V3 := Lib.hid V; clear V C1)
          | (at_builtin; refine wp_append1 (W := w3) 0 rfl (.tmp 25) (.tmp 27) 54 88 (.pointer none) 1 8 rfl Tryz.underlying54 info_pw rfl (by omega) (by omega) (.slice A n c) n _ [wp_ bw] rfl rfl (by simp) rfl (by simp [Value.oneCell']) HO.out (by omega) (by omega) ?_; intro v1 w4 h4 t4 hor; obtain ⟨⟨A1, cc1, rfl⟩, ⟨b6, g6⟩, D⟩ := G1.out _ _ _ _ V3.out h4 t4 hor; have D4 := Lib.hid D; clear h4 t4 hor V3 HO D G1))
        go_roundw
        case measure => simp [intOf]; omega
        case rel => exact ⟨k + 1, by omega, by go_num, D4⟩
      · have e : m - k = (m - (k + 1)) + 1 := by omega
        rw [e, openS_step, if_pos hE] at ez
        have C1 := Lib.hid ((open_call_no g hE hmd2 V).mono fun (e : Ending) (w' : World) hh => show e = Ending.returned (.tuple #[.pointer none, .int .i64 (wrE G d' h')]) ∧ OpenP bf bd bl seed level cv R F G z w0 X (.returned (.int .i64 (wrE G d' h'))) w' from by
          refine ⟨hh.1, ?_⟩
          unfold OpenP
          rw [ez]
          exact ⟨rfl, _, _, _, hh.2, rfl⟩)
        have hE1 : (wrE G d' h' != 0) = true := by simpa using hE
        obtain ⟨E, hEE⟩ : ∃ E, E = wrE G d' h' := ⟨_, rfl⟩
        simp only [← hEE] at C1 hE1
        clear V ez hl hmd hmd2 hE HS hEE e
        go_wp2_with (go_at_call 37; (with_reducible refine C1.out.mono ?_); rintro e w3 ⟨rfl, V⟩; have V3 := Lib.hid V; clear V C1)
        go_ret
        exact V3.out
    · obtain rfl : m = k := by omega
      have E0 := Lib.hid (show OpenP bf bd bl seed level cv R F G z w0 X (.returned (.int .i64 0)) wr from by
        unfold OpenP
        rw [ez, Nat.sub_self]
        exact ⟨rfl, _, _, _, V, rfl⟩)
      clear V ez hl hmd hmd2 HS
      go_wp2
      go_ret
      exact E0.out
end
end Go.Proofs.YtkbapoeilcapfaaGreat

/- fanout: a fan of writers as plain data. -/
namespace Go.Proofs.YtkbapoeilcapfaaGreat
set_option linter.unusedVariables false
set_option linter.unusedSimpArgs false

/-- What a fan is made with: the disk's room and faults, the hash's seed and level, the columns. -/
structure FP where
  R : Int
  F : List Int
  seed : Int
  level : Int
  cs : List Int
def partI (p : FP) (m : Nat) (r : List V) : Nat := (partN p.seed p.level m (pickR r p.cs)).toNat
structure Ft where
  e : Int
  d : Ds
  xs : List Ws
/-- A row put into its part. -/
def fput (p : FP) (d : Ds) (xs : List Ws) (r : List V) : Ft :=
  if rowE p.cs r ≠ 0 then ⟨rowE p.cs r, d, xs⟩ else
  match xs[partI p xs.length r]? with
  | none => ⟨0, d, xs⟩
  | some x => ⟨x.putE p.R p.F d r, x.putD p.R p.F d r, xs.set (partI p xs.length r) (x.putX p.R p.F d r)⟩
structure Eft where
  n : Int
  e : Int
  d : Ds
  y : Rs
  xs : List Ws
/-- Rows of a file put into their parts, up to the first that is refused. -/
def eachF (p : FP) : Nat → Ds → Rs → List Ws → Int → Eft
  | 0, d, y, xs, n => ⟨n, 0, d, y, xs⟩
  | f + 1, d, y, xs, n => match (y.next p.F d).row with
    | some r => if (fput p (y.next p.F d).d xs r).e = 0 then eachF p f (fput p (y.next p.F d).d xs r).d (y.next p.F d).x (fput p (y.next p.F d).d xs r).xs (n + 1)
      else ⟨n, (fput p (y.next p.F d).d xs r).e, (fput p (y.next p.F d).d xs r).d, (y.next p.F d).x, (fput p (y.next p.F d).d xs r).xs⟩
    | none => ⟨n, (y.next p.F d).e, (y.next p.F d).d, (y.next p.F d).x, xs⟩
/-- Writers dropped one by one. -/
def dropsDx : Ds → List Ws → Ds
  | d, [] => d
  | d, x :: t => dropsDx (x.dropD d) t
def dropsHx : Int → List Ws → Int
  | h, [] => h
  | h, x :: t => dropsHx (x.endH h) t
structure Dn where
  e : Int
  d : Ds
  h : Int
  xs : List Ws
  out : List Int
/-- Writers done one by one, up to the first that fails. -/
def dnAll (R : Int) (F : List Int) : Ds → Int → List Ws → List Ws → List Int → Dn
  | d, h, pre, [], out => ⟨0, d, h, pre, out⟩
  | d, h, pre, x :: t, out => if x.doneE R F d = 0 then dnAll R F (x.doneD R F d) (x.endH h) (pre ++ [x.doneX R F d]) t (out ++ [x.doneN R F d])
    else ⟨x.doneE R F d, x.doneD R F d, x.endH h, pre ++ x.doneX R F d :: t, out⟩
structure Sp where
  e : Int
  d : Ds
  out : List Int
/-- What done leaves. -/
def doneF (R : Int) (F : List Int) (d : Ds) (h : Int) (xs : List Ws) : Sp :=
  if (dnAll R F d h [] xs []).e ≠ 0 then ⟨(dnAll R F d h [] xs []).e, delAll (dropsDx (dnAll R F d h [] xs []).d (dnAll R F d h [] xs []).xs) (dnAll R F d h [] xs []).out, []⟩
  else ⟨0, (dnAll R F d h [] xs []).d, (dnAll R F d h [] xs []).out⟩
def doneH (R : Int) (F : List Int) (d : Ds) (h : Int) (xs : List Ws) : Int :=
  if (dnAll R F d h [] xs []).e ≠ 0 then dropsHx (dnAll R F d h [] xs []).h (dnAll R F d h [] xs []).xs else (dnAll R F d h [] xs []).h
/-- So many files made; their writers. -/
def crD : Nat → Ds → Ds
  | 0, d => d
  | k + 1, d => crD k d.create
def crX : Nat → Ds → List Ws
  | 0, _ => []
  | k + 1, d => wrX d :: crX k d.create
/-- Split. -/
def splitS (p : FP) (G : Int) (d : Ds) (h : Int) (file : Int) (n : Int) : Sp :=
  if mayB p.level n = false then ⟨1, d, []⟩ else if (d.find file).isNone then ⟨4, d, []⟩ else if G - h < n + 1 then ⟨60, d, []⟩ else
  if (eachF p (leftN (crD n.toNat d) (rs0 file) + 1) (crD n.toNat d) (rs0 file) (crX n.toNat d) 0).e ≠ 0 then
    ⟨(eachF p (leftN (crD n.toNat d) (rs0 file) + 1) (crD n.toNat d) (rs0 file) (crX n.toNat d) 0).e, dropsDx (eachF p (leftN (crD n.toNat d) (rs0 file) + 1) (crD n.toNat d) (rs0 file) (crX n.toNat d) 0).d (eachF p (leftN (crD n.toNat d) (rs0 file) + 1) (crD n.toNat d) (rs0 file) (crX n.toNat d) 0).xs, []⟩
  else doneF p.R p.F (eachF p (leftN (crD n.toNat d) (rs0 file) + 1) (crD n.toNat d) (rs0 file) (crX n.toNat d) 0).d (h + n) (eachF p (leftN (crD n.toNat d) (rs0 file) + 1) (crD n.toNat d) (rs0 file) (crX n.toNat d) 0).xs

section
variable {p : FP} {G : Int} {d : Ds} {h n N : Int} {y : Rs} {x : Ws} {xs : List Ws} {r : List V} {m k : Nat}
theorem dropsD_map : ∀ (ws : List Wb) (d : Ds), dropsD d ws = dropsDx d (ws.map (·.x))
  | [], d => rfl
  | q :: t, d => dropsD_map t _
theorem dropsH_map : ∀ (ws : List Wb) (h : Int), dropsH h ws = dropsHx h (ws.map (·.x))
  | [], h => rfl
  | q :: t, h => dropsH_map t _
theorem eachF_some (f : Nat) (h : (y.next p.F d).row = some r) : eachF p (f + 1) d y xs n = if (fput p (y.next p.F d).d xs r).e = 0 then eachF p f (fput p (y.next p.F d).d xs r).d (y.next p.F d).x (fput p (y.next p.F d).d xs r).xs (n + 1)
      else ⟨n, (fput p (y.next p.F d).d xs r).e, (fput p (y.next p.F d).d xs r).d, (y.next p.F d).x, (fput p (y.next p.F d).d xs r).xs⟩ := by
  conv => lhs; unfold eachF
  rw [h]
theorem eachF_none (f : Nat) (h : (y.next p.F d).row = none) : eachF p (f + 1) d y xs n = ⟨n, (y.next p.F d).e, (y.next p.F d).d, (y.next p.F d).x, xs⟩ := by
  conv => lhs; unfold eachF
  rw [h]
/-- What a fan keeps, whatever comes. -/
structure FK (R : Int) (d : Ds) (base : List Int) (xs : List Ws) : Prop where
  keys : d.fs.map (·.1) = base ++ xs.map (·.file)
  opn : ∀ x ∈ xs, x.ended = false
  nd : (base ++ xs.map (·.file)).Nodup
theorem keys_nodup {R : Int} (K : SOk R d) : (d.fs.map (·.1)).Nodup := by
  have h : (d.fs.map (·.1)).Pairwise (· < ·) := List.pairwise_map.2 K.dok.ord
  exact h.imp fun h e => by omega
theorem app_keys {R : Int} {F : List Int} {q : Pg} : (d.app R F n q).fs.map (·.1) = d.fs.map (·.1) := by
  unfold Ds.app
  split
  · exact addPg_ns _ _ _
  · split <;> rfl
theorem flush_keys {R : Int} {F : List Int} : (x.flushD R F d).fs.map (·.1) = d.fs.map (·.1) := by
  unfold Ws.flushD
  split
  · exact app_keys
  · rfl
theorem put_keys {R : Int} {F : List Int} : (x.putD R F d r).fs.map (·.1) = d.fs.map (·.1) := by
  unfold Ws.putD
  split
  · rfl
  · split
    · exact flush_keys
    · rfl
theorem del_keys : (d.del n).fs.map (·.1) = (d.fs.map (·.1)).filter (fun m => !(m == n)) := by
  rw [List.filter_map]
  unfold Ds.del
  cases hf : d.find n with
  | none =>
    have h := Ds.find_none hf
    dsimp only
    rw [List.filter_eq_self.2 (fun a ha => by have := h a ha; simpa using this)]
  | some l => rfl
theorem set_map_file {i : Nat} (hx : xs[i]? = some x) {x' : Ws} (hf : x'.file = x.file) : (xs.set i x').map (·.file) = xs.map (·.file) := by
  rw [List.map_set, hf]
  obtain ⟨hl, e⟩ := List.getElem?_eq_some_iff.1 hx
  refine List.ext_getElem? fun j => ?_
  rw [List.getElem?_set]
  split
  · next h =>
    subst h
    rw [if_pos (by simpa using hl)]
    simp [hx]
  · rfl
theorem fput_len : (fput p d xs r).xs.length = xs.length := by
  unfold fput
  split
  · rfl
  · split
    · rfl
    · simp
/-- A put leaves all files, and all writers open. -/
theorem FK.fput {base : List Int} (K : FK p.R d base xs) : FK p.R (fput p d xs r).d base (fput p d xs r).xs := by
  unfold Go.Proofs.YtkbapoeilcapfaaGreat.fput
  split
  · exact K
  · split
    · exact K
    · next x hx =>
      have hp := put_n (R := p.R) (F := p.F) (d := d) (x := x) (r := r)
      have e := set_map_file hx hp.2.1
      refine ⟨?_, ?_, ?_⟩
      · dsimp only
        rw [e, put_keys]
        exact K.keys
      · intro q hq
        rcases List.mem_or_eq_of_mem_set hq with hq | rfl
        · exact K.opn q hq
        · rw [hp.2.2]
          exact K.opn x (List.mem_of_getElem? hx)
      · dsimp only
        rw [e]
        exact K.nd
theorem FK.next {base : List Int} (K : FK p.R d base xs) : FK p.R (y.next p.F d).d base xs := ⟨by rw [next_fs]; exact K.keys, K.opn, K.nd⟩
theorem FK.eachF {base : List Int} : ∀ (f : Nat) {d : Ds} {y : Rs} {xs : List Ws} {n : Int}, FK p.R d base xs → FK p.R (eachF p f d y xs n).d base (eachF p f d y xs n).xs
  | 0, d, y, xs, n, K => K
  | f + 1, d, y, xs, n, K => by
    cases hr : (y.next p.F d).row with
    | none => rw [eachF_none f hr]; exact K.next
    | some r =>
      rw [eachF_some f hr]
      split
      · exact FK.eachF f K.next.fput
      · exact K.next.fput
/-- Writers dropped: their files are gone. -/
theorem drops_keys : ∀ (xs : List Ws) (d : Ds), (dropsDx d xs).fs.map (·.1) = (d.fs.map (·.1)).filter (fun m => !(xs.any fun x => !x.ended && m == x.file))
  | [], d => (List.filter_eq_self.2 (fun a _ => by simp)).symm
  | x :: t, d => by
    unfold dropsDx
    rw [drops_keys t]
    unfold Ws.dropD
    cases hx : x.ended with
    | true =>
      rw [if_pos rfl]
      refine List.filter_congr fun a _ => ?_
      simp [hx]
    | false =>
      rw [if_neg (by decide), del_keys, List.filter_filter]
      refine List.filter_congr fun a _ => ?_
      simp [hx, Bool.and_comm]
theorem drops_h : ∀ (xs : List Ws) (h : Int), (xs.countP fun x => !x.ended) ≤ h → dropsHx h xs = h - (xs.countP fun x => !x.ended)
  | [], h, _ => by simp [dropsHx]
  | x :: t, h, hh => by
    unfold dropsHx Ws.endH
    cases hx : x.ended with
    | true =>
      rw [List.countP_cons_of_neg (by simp [hx])] at hh ⊢
      rw [if_pos rfl, drops_h t h hh]
    | false =>
      rw [List.countP_cons_of_pos (by simp [hx])] at hh ⊢
      rw [if_neg (by decide), drops_h t _ (by unfold giveH; split <;> omega)]
      unfold giveH
      rw [if_pos (by omega)]
      push_cast
      omega
theorem delAll_keys : ∀ (l : List Int) (d : Ds), (delAll d l).fs.map (·.1) = (d.fs.map (·.1)).filter (fun m => !(l.contains m))
  | [], d => (List.filter_eq_self.2 (fun a _ => by simp)).symm
  | a :: t, d => by
    have := delAll_keys t (d.del a)
    unfold delAll at this ⊢
    rw [List.foldl_cons, this, del_keys, List.filter_filter]
    refine List.filter_congr fun b _ => ?_
    rw [List.contains_cons, Bool.not_or, Bool.and_comm]
end
end Go.Proofs.YtkbapoeilcapfaaGreat

/- fanout: what comes of a fan: its parts, or why not. -/
namespace Go.Proofs.YtkbapoeilcapfaaGreat
set_option linter.unusedVariables false
set_option linter.unusedSimpArgs false

/-- The rows of part i. -/
def partF (p : FP) (m i : Nat) (rows : List (List V)) : List (List V) := rows.filter fun r => partI p m r == i
/-- Why a fan fails. -/
def cod (e : Int) : Prop := e = 1 ∨ e = 2 ∨ e = 50
theorem cod_ne {e : Int} (h : cod e) : e ≠ 0 := by unfold cod at h; omega
section
variable {p : FP} {G : Int} {d : Ds} {h n N : Int} {y : Rs} {x : Ws} {xs : List Ws} {r : List V} {m k : Nat} {base : List Int} {pre L : List (List V)}
theorem pick_row (h : mayE r = 0) (hp : pickOk r p.cs = true) (hl : p.cs.length ≤ 32) : rowOk (pickR r p.cs) = true := by
  have hr := (mayE_zero h).1
  unfold rowOk at hr ⊢
  rw [Bool.and_eq_true] at hr ⊢
  refine ⟨by rw [pickR_len]; exact decide_eq_true hl, List.all_eq_true.2 fun v hv => ?_⟩
  obtain ⟨c, hc, rfl⟩ := List.mem_map.1 hv
  have hi := List.all_eq_true.1 hp c hc
  obtain ⟨h1, h2⟩ := of_decide_eq_true hi
  rw [List.getD_eq_getElem?_getD, List.getElem?_eq_getElem (by omega)]
  exact List.all_eq_true.1 hr.2 _ (List.getElem_mem _)
theorem rowE_one (h : mayE r = 0) : rowE p.cs r = 0 ∨ rowE p.cs r = 1 := by
  unfold rowE
  by_cases h1 : (pickOk r p.cs && decide (p.cs.length ≤ 32)) = true
  · rw [if_pos h1]
    rw [Bool.and_eq_true] at h1
    rw [if_pos (pick_row h h1.1 (of_decide_eq_true h1.2))]
    exact .inl rfl
  · rw [if_neg h1]
    exact .inr rfl
theorem flush_cod {R : Int} {F : List Int} (W : Wrote d x L) (h : x.flushE R F d ≠ 0) : cod (x.flushE R F d) := by
  obtain ⟨ps, h1, h2⟩ := W.has
  unfold Ws.flushE at h ⊢
  by_cases hr : x.wrong = 0 ∧ x.rows ≠ []
  · rw [if_pos hr] at h ⊢
    unfold Ds.appE at h ⊢
    rw [if_neg (by rw [mkP_len W.ok.fit]; decide), h1] at h ⊢
    dsimp only at h ⊢
    unfold cod
    split
    · exact .inr (.inl rfl)
    · next hn =>
      rw [if_neg hn] at h
      split
      · exact .inr (.inr rfl)
      · next hn2 => rw [if_neg hn2] at h; exact absurd rfl h
  · rw [if_neg hr] at h
    exact absurd W.wr h
theorem put_cod {R : Int} {F : List Int} (W : Wrote d x L) (hm : mayE r = 0) (h : x.putE R F d r ≠ 0) : cod (x.putE R F d r) := by
  unfold Ws.putE at h ⊢
  rw [stop_may W, if_neg (by rw [hm]; decide)] at h ⊢
  split
  · next hu => rw [if_pos hu] at h; exact flush_cod W h
  · next hu => rw [if_neg hu] at h; exact absurd rfl h
theorem done_cod {R : Int} {F : List Int} (W : Wrote d x L) (h : x.doneE R F d ≠ 0) : cod (x.doneE R F d) := by
  unfold Ws.doneE at h ⊢
  rw [if_neg (by rw [W.opn]; decide)] at h ⊢
  exact flush_cod W h
/-- A fan at work: what each of its writers has written. -/
structure FW (p : FP) (d : Ds) (base : List Int) (m : Nat) (xs : List Ws) (pre : List (List V)) : Prop where
  sok : SOk p.R d
  keys : d.fs.map (·.1) = base ++ xs.map (·.file)
  len : xs.length = m
  wr : ∀ i x, xs[i]? = some x → Wrote d x (partF p m i pre) ∧ Cnt d x (partF p m i pre)
  num : ∀ x ∈ xs, x.n ≤ pre.length
theorem FW.nd (K : FW p d base m xs pre) : (base ++ xs.map (·.file)).Nodup := by
  rw [← K.keys]
  exact keys_nodup K.sok
theorem FW.fk (K : FW p d base m xs pre) : FK p.R d base xs := ⟨K.keys, fun x hx => by
  obtain ⟨i, hi⟩ := List.mem_iff_getElem?.1 hx
  exact (K.wr i x hi).1.opn, K.nd⟩
theorem Cnt.other {d' : Ds} (c : Cnt d x L) (h : d'.find x.file = d.find x.file) : Cnt d' x L := ⟨by rw [h]; exact c.pages, c.rows⟩
theorem files_ne (hnd : (base ++ xs.map (·.file)).Nodup) {i j : Nat} {a b : Ws} (ha : xs[i]? = some a) (hb : xs[j]? = some b) (hij : i ≠ j) : a.file ≠ b.file := by
  intro e
  have h2 := (List.nodup_append.1 hnd).2.1
  refine hij ((List.getElem?_inj (l := xs.map (·.file)) (by rw [List.length_map]; exact (List.getElem?_eq_some_iff.1 ha).1) h2).1 ?_)
  rw [List.getElem?_map, List.getElem?_map, ha, hb, Option.map_some, Option.map_some, e]
theorem FW.next (K : FW p d base m xs pre) : FW p (y.next p.F d).d base m xs pre :=
  ⟨K.sok.next, by rw [next_fs]; exact K.keys, K.len, fun i x hx => ⟨(K.wr i x hx).1.other (next_find _ _ _ _), (K.wr i x hx).2.other (next_find _ _ _ _)⟩, K.num⟩
theorem partI_lt (h1 : 1 ≤ m) (h2 : m ≤ 64) : partI p m r < m := by
  have h := part_range p.seed p.level m (pickR r p.cs) (by omega) (by omega)
  unfold partI
  omega
theorem partF_snoc {i : Nat} : partF p m i (pre ++ [r]) = partF p m i pre ++ if partI p m r = i then [r] else [] := by
  unfold partF
  rw [List.filter_append]
  congr 1
  by_cases h : partI p m r = i
  · rw [if_pos h, List.filter_cons_of_pos (by simpa using h)]
    rfl
  · rw [if_neg h, List.filter_cons_of_neg (by simpa using h)]
    rfl
theorem fput_some (h1 : 1 ≤ m) (h2 : m ≤ 64) (hl : xs.length = m) (hE : rowE p.cs r = 0) : ∃ x, xs[partI p m r]? = some x ∧ fput p d xs r = ⟨x.putE p.R p.F d r, x.putD p.R p.F d r, xs.set (partI p m r) (x.putX p.R p.F d r)⟩ := by
  have hlt := partI_lt (p := p) (r := r) h1 h2
  subst hl
  refine ⟨_, List.getElem?_eq_getElem hlt, ?_⟩
  unfold fput
  rw [if_neg (by rw [hE]; decide), List.getElem?_eq_getElem hlt]
/-- A row put into its part, or why not. -/
theorem fput_law (K : FW p d base m xs pre) (h1 : 1 ≤ m) (h2 : m ≤ 64) (hm : mayE r = 0) (hn : pre.length < 1000000) :
    ((fput p d xs r).e = 0 ∧ rowE p.cs r = 0 ∧ FW p (fput p d xs r).d base m (fput p d xs r).xs (pre ++ [r]) ∧ (fput p d xs r).d.used ≤ d.used + 1) ∨ cod (fput p d xs r).e := by
  rcases rowE_one (p := p) hm with hE | hE
  · obtain ⟨x, hx, ef⟩ := fput_some (d := d) h1 h2 K.len hE
    obtain ⟨W, c⟩ := K.wr _ x hx
    rw [ef]
    by_cases h0 : x.putE p.R p.F d r = 0
    · refine .inl ⟨h0, hE, ?_, put_used⟩
      have hmem := List.mem_of_getElem? hx
      have hxn := K.num x hmem
      have hp := put_n (R := p.R) (F := p.F) (d := d) (x := x) (r := r)
      have ew := set_map_file hx hp.2.1
      refine ⟨K.sok.put W.ok, by dsimp only; rw [ew, put_keys]; exact K.keys, by simpa using K.len, ?_, ?_⟩
      · intro i a ha
        dsimp only at ha ⊢
        rw [partF_snoc]
        by_cases hi : partI p m r = i
        · subst hi
          rw [List.getElem?_set_self (List.getElem?_eq_some_iff.1 hx).1] at ha
          injection ha with ha
          subst ha
          rw [if_pos rfl]
          exact ⟨put_wrote W h0 (by omega), put_cnt W c h0⟩
        · rw [List.getElem?_set_ne hi] at ha
          rw [if_neg hi, List.append_nil]
          have hf := files_ne K.nd ha hx (fun e => hi e.symm)
          exact ⟨(K.wr i a ha).1.other (put_find hf), (K.wr i a ha).2.other (put_find hf)⟩
      · intro a ha
        rw [List.length_append]
        rcases List.mem_or_eq_of_mem_set ha with ha | rfl
        · have := K.num a ha; simp; omega
        · have := hp.1; simp; omega
    · exact .inr (put_cod W hm h0)
  · refine .inr ?_
    have : fput p d xs r = ⟨rowE p.cs r, d, xs⟩ := by unfold fput; rw [if_pos (by rw [hE]; decide)]
    rw [this, hE]
    exact .inl rfl
theorem fput_zero (K : FW p d base m xs pre) (h1 : 1 ≤ m) (h2 : m ≤ 64) (hm : mayE r = 0) (hF : p.F = []) (hu : d.used < p.R) : (fput p d xs r).e = rowE p.cs r := by
  rcases rowE_one (p := p) hm with hE | hE
  · obtain ⟨x, hx, ef⟩ := fput_some (d := d) h1 h2 K.len hE
    rw [ef, hE, hF]
    exact put_zero (K.wr _ x hx).1 hm hu
  · unfold fput
    rw [if_pos (by rw [hE]; decide)]
/-- At the end of a file there is no row, and nothing is wrong. -/
theorem left_end {R : Int} {F : List Int} (K : SOk R d) (h : Left d y []) : y.next F d = ⟨none, 0, d, y⟩ := by
  have h0 := left_none_f (F := F) K h
  obtain ⟨ps, h1, h2⟩ := h.has
  have hc : ¬ y.closed = true := by rw [h.opn]; decide
  have hr : y.rows = [] := by
    cases hr : y.rows with
    | nil => rfl
    | cons a b => rw [hr] at h2; cases h2
  rw [hr, List.nil_append] at h2
  have hl : ps.length ≤ y.page := by
    rcases Nat.lt_or_ge y.page ps.length with hl | hl
    · have hm := Ds.find_mem h1
      obtain ⟨rows, q1, q2, q3, q4⟩ := K.pg _ hm ps[y.page] (List.getElem_mem hl)
      rw [List.drop_eq_getElem_cons hl, List.flatMap_cons, q2, pgRows_mkP q4 q3] at h2
      cases rows with
      | nil => exact absurd rfl q1
      | cons a b => cases h2
    · exact hl
  have hb : y.loadB F d = false := by
    unfold Rs.loadB
    rw [h1]
    simp
    intro hh
    omega
  unfold Rs.next
  rw [if_neg hc, hr]
  dsimp only
  rw [if_neg (by rw [hb]; decide)]
  unfold Rs.loadE Rs.loadD
  rw [h1]
  dsimp only
  rw [if_pos (by omega), if_pos (by omega)]
theorem next_cod {R : Int} {F : List Int} (K : SOk R d) (h : Left d y L) (hn : (y.next F d).row = none) (hE : (y.next F d).e ≠ 0) : cod (y.next F d).e := by
  obtain ⟨ps, h1, h2⟩ := h.has
  have hc : ¬ y.closed = true := by rw [h.opn]; decide
  cases hr : y.rows with
  | cons a b =>
    have en : y.next F d = ⟨some a, 0, d, ⟨y.file, y.page, b, y.closed⟩⟩ := by unfold Rs.next; rw [if_neg hc, hr]
    rw [en] at hn
    cases hn
  | nil =>
    cases hb : y.loadB F d with
    | true =>
      have en : y.next F d = ⟨(y.loadX F d).rows.head?, 0, y.loadD F d, ⟨y.file, y.page + 1, (y.loadX F d).rows.tail, y.closed⟩⟩ := by unfold Rs.next; rw [if_neg hc, hr]; dsimp only; rw [if_pos hb]
      rw [en] at hE
      exact absurd rfl hE
    | false =>
      have en : y.next F d = ⟨none, y.loadE F d, y.loadD F d, y⟩ := by unfold Rs.next; rw [if_neg hc, hr]; dsimp only; rw [if_neg (by rw [hb]; decide)]
      rw [en] at hE ⊢
      dsimp only at hE ⊢
      unfold Rs.loadE at hE ⊢
      rw [h1] at hE ⊢
      dsimp only at hE ⊢
      split
      · next hl => rw [if_pos hl] at hE; exact absurd rfl hE
      · next hl =>
        rw [if_neg hl] at hE
        unfold Ds.readE at hE ⊢
        rw [h1] at hE ⊢
        dsimp only at hE ⊢
        rw [if_neg (by omega)] at hE ⊢
        unfold cod
        split
        · exact .inr (.inr rfl)
        · next hn2 => rw [if_neg hn2] at hE; exact absurd rfl hE
/-- A whole file parted, or why not. -/
theorem eachF_law : ∀ (L : List (List V)) (f : Nat) {d : Ds} {y : Rs} {xs : List Ws} {pre : List (List V)} {k : Int}, FW p d base m xs pre → Left d y L → y.file ∉ xs.map (·.file) → 1 ≤ m → m ≤ 64 → L.length < f → (∀ r ∈ L, mayE r = 0) → pre.length + L.length < 1000000 →
    ((eachF p f d y xs k).e = 0 ∧ FW p (eachF p f d y xs k).d base m (eachF p f d y xs k).xs (pre ++ L) ∧ firstE p.cs L = 0 ∧ (eachF p f d y xs k).d.used ≤ d.used + L.length) ∨ cod (eachF p f d y xs k).e
  | _, 0, d, y, xs, pre, k, K, hL, hf, h1, h2, hl, hm, hn => by omega
  | [], f + 1, d, y, xs, pre, k, K, hL, hf, h1, h2, hl, hm, hn => by
    have e := left_end (F := p.F) K.sok hL
    rw [eachF_none f (by rw [e]), e]
    exact .inl ⟨rfl, by rw [List.append_nil]; exact K, rfl, by simp⟩
  | r :: t, f + 1, d, y, xs, pre, k, K, hL, hf, h1, h2, hl, hm, hn => by
    rcases left_some_f (F := p.F) K.sok hL with ⟨e1, e2⟩ | ⟨e1, e2⟩
    · rw [eachF_some f e1]
      have hmr := hm r (by simp)
      have hu0 : (y.next p.F d).d.used = d.used := next_used p.F d y
      rcases fput_law (r := r) (K.next (y := y)) h1 h2 hmr (by simp at hn; omega) with ⟨a1, a2, a3, a4⟩ | a1
      · rw [if_pos a1]
        have ek : (fput p (y.next p.F d).d xs r).xs.map (·.file) = xs.map (·.file) := by
          have q := a3.keys
          have q0 := K.keys
          have q1 : (fput p (y.next p.F d).d xs r).d.fs.map (·.1) = d.fs.map (·.1) := by
            obtain ⟨x, hx, ef⟩ := fput_some (d := (y.next p.F d).d) h1 h2 K.len a2
            rw [ef]
            dsimp only
            rw [put_keys, next_fs]
          rw [q1, q0] at q
          exact (List.append_cancel_left q).symm
        have hfind : (fput p (y.next p.F d).d xs r).d.find (y.next p.F d).x.file = (y.next p.F d).d.find (y.next p.F d).x.file := by
          obtain ⟨x, hx, ef⟩ := fput_some (d := (y.next p.F d).d) h1 h2 K.len a2
          rw [ef]
          refine put_find ?_
          rw [next_file]
          intro e
          exact hf (by rw [e]; exact List.mem_map_of_mem (List.mem_of_getElem? hx))
        have ih := eachF_law t f (k := k + 1) a3 (e2.other hfind) (by rw [next_file, ek]; exact hf) h1 h2 (by simp at hl; omega) (fun r' hr' => hm r' (by simp [hr'])) (by simp at hn ⊢; omega)
        rw [List.append_assoc] at ih
        rcases ih with ⟨b1, b2, b3, b4⟩ | b1
        · refine .inl ⟨b1, b2, ?_, by simp; omega⟩
          unfold firstE
          rw [if_pos a2]
          exact b3
        · exact .inr b1
      · rw [if_neg (cod_ne a1)]
        exact .inr a1
    · rw [eachF_none f e1]
      exact .inr (next_cod K.sok hL e1 e2)
/-- Where nothing fails it is the document's answer. -/
theorem eachF_zero : ∀ (L : List (List V)) (f : Nat) {d : Ds} {y : Rs} {xs : List Ws} {pre : List (List V)} {k : Int}, FW p d base m xs pre → Left d y L → y.file ∉ xs.map (·.file) → 1 ≤ m → m ≤ 64 → L.length < f → (∀ r ∈ L, mayE r = 0) → pre.length + L.length < 1000000 → p.F = [] → d.used + L.length < p.R →
    (eachF p f d y xs k).e = firstE p.cs L
  | _, 0, d, y, xs, pre, k, K, hL, hf, h1, h2, hl, hm, hn, hF, hu => by omega
  | [], f + 1, d, y, xs, pre, k, K, hL, hf, h1, h2, hl, hm, hn, hF, hu => by
    have e := left_end (F := p.F) K.sok hL
    rw [eachF_none f (by rw [e]), e]
    rfl
  | r :: t, f + 1, d, y, xs, pre, k, K, hL, hf, h1, h2, hl, hm, hn, hF, hu => by
    obtain ⟨e1, e2⟩ := left_some K.sok hL
    rw [← hF] at e1 e2
    rw [eachF_some f e1]
    have hmr := hm r (by simp)
    have hu0 : (y.next p.F d).d.used = d.used := next_used p.F d y
    have hz := fput_zero (r := r) (K.next (y := y)) h1 h2 hmr hF (by simp at hu; omega)
    unfold firstE
    rcases fput_law (r := r) (K.next (y := y)) h1 h2 hmr (by simp at hn; omega) with ⟨a1, a2, a3, a4⟩ | a1
    · rw [if_pos a1, if_pos a2]
      have ek : (fput p (y.next p.F d).d xs r).xs.map (·.file) = xs.map (·.file) := by
        have q := a3.keys
        have q0 := K.keys
        have q1 : (fput p (y.next p.F d).d xs r).d.fs.map (·.1) = d.fs.map (·.1) := by
          obtain ⟨x, hx, ef⟩ := fput_some (d := (y.next p.F d).d) h1 h2 K.len a2
          rw [ef]
          dsimp only
          rw [put_keys, next_fs]
        rw [q1, q0] at q
        exact (List.append_cancel_left q).symm
      have hfind : (fput p (y.next p.F d).d xs r).d.find (y.next p.F d).x.file = (y.next p.F d).d.find (y.next p.F d).x.file := by
        obtain ⟨x, hx, ef⟩ := fput_some (d := (y.next p.F d).d) h1 h2 K.len a2
        rw [ef]
        refine put_find ?_
        rw [next_file]
        intro e
        exact hf (by rw [e]; exact List.mem_map_of_mem (List.mem_of_getElem? hx))
      exact eachF_zero t f (k := k + 1) a3 (e2.other hfind) (by rw [next_file, ek]; exact hf) h1 h2 (by simp at hl; omega) (fun r' hr' => hm r' (by simp [hr'])) (by simp at hn ⊢; omega) hF (by simp at hu; omega)
    · have h0 := cod_ne a1
      rw [if_neg h0, if_neg (by rw [← hz]; exact h0)]
      exact hz
end
end Go.Proofs.YtkbapoeilcapfaaGreat

/- fanout: what comes of Split. -/
namespace Go.Proofs.YtkbapoeilcapfaaGreat
set_option linter.unusedVariables false
set_option linter.unusedSimpArgs false

section
variable {p : FP} {R G : Int} {F : List Int} {d : Ds} {h n N file : Int} {y : Rs} {x : Ws} {xs : List Ws} {r : List V} {m k : Nat} {base : List Int} {pre L rows : List (List V)}
theorem openS_cr : ∀ (k : Nat) {d : Ds} {h : Int} {xs : List Ws}, d.fs.length + k ≤ 32767 → h + k ≤ G → openS G k d h xs = ⟨0, crD k d, h + k, xs ++ crX k d⟩
  | 0, d, h, xs, hl, hG => by simp [openS, crD, crX]
  | k + 1, d, h, xs, hl, hG => by
    push_cast at hG
    have hC : d.createE = 0 := by unfold Ds.createE; rw [if_neg (by omega)]
    have hE : wrE G d h = 0 := by unfold wrE; rw [if_neg (by omega)]; exact hC
    rw [openS_step, if_neg (by rw [hE]; decide), openS_cr k (by rw [create_fs_len hC]; omega) (by omega)]
    have e : h + 1 + (k : Int) = h + ((k + 1 : Nat) : Int) := by push_cast; omega
    rw [e, List.append_assoc]
    rfl
theorem crX_len : ∀ (k : Nat) (d : Ds), (crX k d).length = k
  | 0, d => rfl
  | k + 1, d => by unfold crX; rw [List.length_cons, crX_len k]
theorem crX_opn : ∀ (k : Nat) (d : Ds), ∀ x ∈ crX k d, x.ended = false ∧ x.n = 0
  | 0, d, x, hx => by simp [crX] at hx
  | k + 1, d, x, hx => by
    unfold crX at hx
    rcases List.mem_cons.1 hx with rfl | hx
    · exact ⟨rfl, rfl⟩
    · exact crX_opn k _ x hx
theorem crD_le : ∀ (k : Nat) {d : Ds} {N : Int}, d.le N → (crD k d).le (N + k)
  | 0, d, N, K => by simpa [crD] using K
  | k + 1, d, N, K => by
    have := crD_le k (le_create K)
    unfold crD
    exact this.mono (by push_cast; omega)
/-- New writers have written nothing. -/
theorem cr_law : ∀ (k : Nat) {d : Ds} {xs : List Ws}, SOk R d → d.fs.map (·.1) = base ++ xs.map (·.file) → (∀ x ∈ xs, Wrote d x [] ∧ Cnt d x []) → d.fs.length + k ≤ 32767 → d.made + k ≤ 1000000000 →
    SOk R (crD k d) ∧ (crD k d).fs.map (·.1) = base ++ (xs ++ crX k d).map (·.file) ∧ (∀ x ∈ xs ++ crX k d, Wrote (crD k d) x [] ∧ Cnt (crD k d) x []) ∧ (crD k d).used = d.used ∧ ∀ q ∈ d.fs.map (·.1), (crD k d).find q = d.find q
  | 0, d, xs, K, hk, hx, hl, hm => by
    simp only [crD, crX, List.append_nil]
    exact ⟨K, hk, hx, by trivial, fun q _ => by trivial⟩
  | k + 1, d, xs, K, hk, hx, hl, hm => by
    have hC : d.createE = 0 := by unfold Ds.createE; rw [if_neg (by omega)]
    have ec : d.create.fs = d.fs ++ [(d.made + 1, [])] := by unfold Ds.create; rw [if_pos hC]
    have em : d.create.made = d.made + 1 := by unfold Ds.create; rw [if_pos hC]
    have hnum : ∀ q ∈ d.fs.map (·.1), q ≠ d.made + 1 := by
      intro q hq
      obtain ⟨z, hz, rfl⟩ := List.mem_map.1 hq
      have := K.dok.num z hz
      omega
    have hfind : ∀ q ∈ d.fs.map (·.1), d.create.find q = d.find q := fun q hq => by rw [create_find K.dok hC, if_neg (hnum q hq)]
    have ih := cr_law k (d := d.create) (xs := xs ++ [wrX d]) K.create (by
        rw [ec, List.map_append, hk, List.map_append, List.append_assoc]
        rfl) (fun x hx' => by
        rcases List.mem_append.1 hx' with e | e
        · have hq : x.file ∈ d.fs.map (·.1) := by rw [hk]; exact List.mem_append_right _ (List.mem_map_of_mem e)
          exact ⟨(hx x e).1.other (hfind _ hq), (hx x e).2.other (hfind _ hq)⟩
        · rw [List.mem_singleton.1 e]
          refine ⟨wr_wrote K hC (by omega), ⟨[], ?_, rfl⟩, rfl⟩
          rw [create_find K.dok hC]
          exact if_pos rfl) (by rw [create_fs_len hC]; omega) (by rw [em]; push_cast at hm; omega)
    rw [List.append_assoc] at ih
    obtain ⟨i1, i2, i3, i4, i5⟩ := ih
    refine ⟨i1, i2, i3, i4.trans create_used, fun q hq => ?_⟩
    have hq2 : q ∈ d.create.fs.map (·.1) := by rw [ec, List.map_append]; exact List.mem_append_left _ hq
    exact (i5 q hq2).trans (hfind q hq)
theorem cr_fw (K : SOk p.R d) (hl : d.fs.length + m ≤ 32767) (hm : d.made + m ≤ 1000000000) : FW p (crD m d) (d.fs.map (·.1)) m (crX m d) [] ∧ (crD m d).used = d.used ∧ ∀ q ∈ d.fs.map (·.1), (crD m d).find q = d.find q := by
  obtain ⟨i1, i2, i3, i4, i5⟩ := cr_law (base := d.fs.map (·.1)) m (xs := []) K (by simp) (by simp) hl hm
  rw [List.nil_append] at i2 i3
  exact ⟨⟨i1, i2, crX_len _ _, fun i x hx => i3 x (List.mem_of_getElem? hx), fun x hx => by rw [(crX_opn m d x hx).2]; simp⟩, i4, i5⟩
theorem filter_base {base rest : List Int} {P : Int → Bool} (h1 : ∀ a ∈ base, P a = true) (h2 : ∀ a ∈ rest, P a = false) : (base ++ rest).filter P = base := by
  rw [List.filter_append, List.filter_eq_self.2 h1, List.filter_eq_nil_iff.2 (fun a ha => by rw [h2 a ha]; decide), List.append_nil]
theorem nd_not {base rest : List Int} (h : (base ++ rest).Nodup) {a : Int} (ha : a ∈ base) : a ∉ rest := fun hr => (List.nodup_append.1 h).2.2 a ha a hr rfl
/-- A fan dropped leaves what was there before. -/
theorem FK.drop (K : FK R d base xs) : (dropsDx d xs).fs.map (·.1) = base := by
  rw [drops_keys, K.keys]
  refine filter_base (fun a ha => ?_) (fun a ha => ?_)
  · have hn := nd_not K.nd ha
    rw [Bool.not_eq_true', List.any_eq_false]
    intro x hx hc
    rw [Bool.and_eq_true] at hc
    exact hn (by rw [of_decide_eq_true hc.2]; exact List.mem_map_of_mem hx)
  · obtain ⟨x, hx, rfl⟩ := List.mem_map.1 ha
    rw [Bool.not_eq_false', List.any_eq_true]
    exact ⟨x, hx, by rw [K.opn x hx]; simp⟩
theorem done_pages (W : Wrote d x L) (c : Cnt d x L) (hE : x.doneE R F d = 0) : x.doneN R F d = x.file ∧ (x.doneD R F d).fs.map (·.1) = d.fs.map (·.1) ∧ ∃ ps, (x.doneD R F d).find x.file = some ps ∧ ps.flatMap pgRows = L ∧ ps.length = (fillG L).length := by
  obtain ⟨d1, d2⟩ := done_has W hE
  have hF : x.flushE R F d = 0 := by
    unfold Ws.doneE at hE
    rw [W.opn, if_neg (by decide)] at hE
    exact hE
  have eD : x.doneD R F d = x.flushD R F d := by
    unfold Ws.doneD
    rw [W.opn, if_neg (by decide), if_pos hF]
  refine ⟨d1, by rw [eD, flush_keys], ?_⟩
  obtain ⟨ps, h1, h2⟩ := d2
  obtain ⟨qs, p1, p2⟩ := c.pages
  obtain ⟨ps', q1, q2⟩ := flush_pages W hF p1
  rw [eD] at h1 ⊢
  rw [h1] at q1
  injection q1 with q1
  subst q1
  refine ⟨ps, h1, h2, ?_⟩
  rw [q2, p2, c.rows]
  unfold fillG
  by_cases hr : L = []
  · rw [if_pos hr, hr]
    rfl
  · rw [if_neg hr, if_neg (fillF_ne L hr)]
    simp
/-- A file with its rows and as many pages as Fill's. -/
def HasP (d : Ds) (n : Int) (L : List (List V)) : Prop := ∃ ps, d.find n = some ps ∧ ps.flatMap pgRows = L ∧ ps.length = (fillG L).length
theorem HasP.has {L : List (List V)} (h : HasP d n L) : Has d n L := by
  obtain ⟨ps, h1, h2, _⟩ := h
  exact ⟨ps, h1, h2⟩
structure DW (p : FP) (m : Nat) (rows : List (List V)) (d : Ds) (base out : List Int) (t : List Ws) : Prop where
  sok : SOk p.R d
  keys : d.fs.map (·.1) = base ++ (out ++ t.map (·.file))
  outs : ∀ i q, out[i]? = some q → HasP d q (partF p m i rows)
  wr : ∀ i x, t[i]? = some x → Wrote d x (partF p m (out.length + i) rows) ∧ Cnt d x (partF p m (out.length + i) rows)
theorem dnAll_law : ∀ (t : List Ws) {d : Ds} {h : Int} {pre : List Ws} {out : List Int}, DW p m rows d base out t → (∀ x ∈ pre, x.ended = true) →
    ((dnAll p.R p.F d h pre t out).e = 0 ∧ SOk p.R (dnAll p.R p.F d h pre t out).d ∧ (dnAll p.R p.F d h pre t out).d.fs.map (·.1) = base ++ (dnAll p.R p.F d h pre t out).out ∧ (dnAll p.R p.F d h pre t out).out.length = out.length + t.length ∧
      (∀ i q, (dnAll p.R p.F d h pre t out).out[i]? = some q → HasP (dnAll p.R p.F d h pre t out).d q (partF p m i rows)) ∧ (dnAll p.R p.F d h pre t out).d.used ≤ d.used + t.length ∧ ∀ q ∈ base, (dnAll p.R p.F d h pre t out).d.find q = d.find q) ∨
    (cod (dnAll p.R p.F d h pre t out).e ∧ (delAll (dropsDx (dnAll p.R p.F d h pre t out).d (dnAll p.R p.F d h pre t out).xs) (dnAll p.R p.F d h pre t out).out).fs.map (·.1) = base ∧ (p.F = [] → p.R ≤ d.used + t.length))
  | [], d, h, pre, out, K, hp => by
    refine .inl ⟨rfl, K.sok, ?_, rfl, K.outs, by simp [dnAll], fun q _ => rfl⟩
    have := K.keys
    simpa [dnAll] using this
  | x :: t, d, h, pre, out, K, hp => by
    obtain ⟨W, c⟩ := K.wr 0 x rfl
    rw [Nat.add_zero] at W c
    have hnd : (base ++ (out ++ x.file :: t.map (·.file))).Nodup := by
      have := keys_nodup K.sok
      rw [K.keys] at this
      simpa using this
    by_cases hE : x.doneE p.R p.F d = 0
    · obtain ⟨a1, a2, a3⟩ := done_pages W c hE
      have hu := done_used hE
      have e : dnAll p.R p.F d h pre (x :: t) out = dnAll p.R p.F (x.doneD p.R p.F d) (x.endH h) (pre ++ [x.doneX p.R p.F d]) t (out ++ [x.doneN p.R p.F d]) := by
        conv => lhs; unfold dnAll
        rw [if_pos hE]
      rw [e]
      have hbase : ∀ q ∈ base, q ≠ x.file := fun q hq e => nd_not hnd hq (by rw [e]; simp)
      have hout : ∀ q ∈ out, q ≠ x.file := fun q hq e => by
        have h2 := (List.nodup_append.1 hnd).2.1
        exact nd_not h2 hq (by rw [e]; simp)
      have htf : ∀ a ∈ t, a.file ≠ x.file := fun a ha e => by
        have h2 := (List.nodup_append.1 (List.nodup_append.1 hnd).2.1).2.1
        exact (List.nodup_cons.1 h2).1 (by rw [← e]; exact List.mem_map_of_mem ha)
      have ih := dnAll_law t (d := x.doneD p.R p.F d) (h := x.endH h) (pre := pre ++ [x.doneX p.R p.F d]) (out := out ++ [x.doneN p.R p.F d]) ⟨K.sok.done W.ok, by
          rw [a2, K.keys, a1]; simp, fun i q hq => by
          rw [List.getElem?_append] at hq
          split at hq
          · obtain ⟨ps, f1, f2⟩ := K.outs i q hq
            exact ⟨ps, by rw [done_find (hout q (List.mem_of_getElem? hq))]; exact f1, f2⟩
          · next hi =>
            have hi0 : i - out.length = 0 := by
              rcases Nat.eq_zero_or_pos (i - out.length) with h0 | h0
              · exact h0
              · rw [List.getElem?_eq_none (by simp; omega)] at hq; cases hq
            rw [hi0] at hq
            have eq : x.doneN p.R p.F d = q := by simpa using hq
            have ei : i = out.length := by omega
            rw [← eq, a1, ei]
            exact a3, fun i a ha => by
          have h2 := K.wr (i + 1) a (by simpa using ha)
          have hl : (out ++ [x.doneN p.R p.F d]).length + i = out.length + (i + 1) := by simp; omega
          rw [hl]
          have hf := htf a (List.mem_of_getElem? ha)
          exact ⟨h2.1.other (done_find hf), h2.2.other (done_find hf)⟩⟩ (fun a ha => by
          rcases List.mem_append.1 ha with ha | ha
          · exact hp a ha
          · rw [List.mem_singleton.1 ha]
            unfold Ws.doneX
            rw [W.opn, if_neg (by decide)])
      rcases ih with ⟨b1, b2, b3, b4, b5, b6, b7⟩ | ⟨b1, b2, b3⟩
      · exact .inl ⟨b1, b2, b3, by rw [b4]; simp; omega, b5, by simp; omega, fun q hq => (b7 q hq).trans (done_find (hbase q hq))⟩
      · exact .inr ⟨b1, b2, fun hF => by have := b3 hF; simp; omega⟩
    · have e : dnAll p.R p.F d h pre (x :: t) out = ⟨x.doneE p.R p.F d, x.doneD p.R p.F d, x.endH h, pre ++ x.doneX p.R p.F d :: t, out⟩ := by
        conv => lhs; unfold dnAll
        rw [if_neg hE]
      rw [e]
      refine .inr ⟨done_cod W hE, ?_, fun hF => ?_⟩
      · dsimp only
        have hD : x.doneD p.R p.F d = (x.flushD p.R p.F d).del x.file := by
          unfold Ws.doneE at hE
          unfold Ws.doneD
          rw [W.opn] at hE ⊢
          rw [if_neg (by decide)] at hE ⊢
          rw [if_neg hE]
        have hX : (x.doneX p.R p.F d).ended = true := by unfold Ws.doneX; rw [W.opn, if_neg (by decide)]
        have hopn : ∀ a ∈ t, a.ended = false := fun a ha => by
          obtain ⟨i, hi⟩ := List.mem_iff_getElem?.1 ha
          exact (K.wr (i + 1) a (by simpa using hi)).1.opn
        rw [delAll_keys, drops_keys, hD, del_keys, flush_keys, K.keys, List.filter_filter, List.filter_filter]
        rw [List.map_cons]
        refine filter_base (fun a ha => ?_) (fun a ha => ?_)
        · have hn := nd_not hnd ha
          have n1 : a ∉ out := fun h => hn (List.mem_append_left _ h)
          have n2 : a ≠ x.file := fun h => hn (List.mem_append_right _ (by rw [h]; simp))
          have n3 : ∀ b ∈ t, a ≠ b.file := fun b hb h => hn (List.mem_append_right _ (List.mem_cons_of_mem _ (by rw [h]; exact List.mem_map_of_mem hb)))
          have c1 : out.contains a = false := by simpa using n1
          have c2 : ((pre ++ x.doneX p.R p.F d :: t).any fun x => !x.ended && a == x.file) = false := by
            rw [List.any_eq_false]
            intro b hb hc
            rw [Bool.and_eq_true] at hc
            rcases List.mem_append.1 hb with hb | hb
            · rw [hp b hb] at hc; exact absurd hc.1 (by decide)
            · rcases List.mem_cons.1 hb with rfl | hb
              · rw [hX] at hc; exact absurd hc.1 (by decide)
              · exact n3 b hb (of_decide_eq_true hc.2)
          rw [c1, c2]
          simpa using n2
        · rcases List.mem_append.1 ha with ha | ha
          · have c1 : out.contains a = true := by simpa using ha
            rw [c1]
            rfl
          · rcases List.mem_cons.1 ha with rfl | ha
            · simp
            · obtain ⟨b, hb, rfl⟩ := List.mem_map.1 ha
              have c2 : ((pre ++ x.doneX p.R p.F d :: t).any fun x => !x.ended && b.file == x.file) = true := by
                rw [List.any_eq_true]
                exact ⟨b, List.mem_append_right _ (List.mem_cons_of_mem _ hb), by rw [hopn b hb]; simp⟩
              rw [c2]
              simp
      · rcases Int.lt_or_le d.used p.R with hlt | hle
        · rw [hF] at hE
          exact absurd (done_zero W hlt) hE
        · rw [List.length_cons]; push_cast; omega
theorem dn_yes {out : List Int} {x : Ws} {pre t : List Ws} (hE : x.doneE R F d = 0) : dnAll R F d h pre (x :: t) out = dnAll R F (x.doneD R F d) (x.endH h) (pre ++ [x.doneX R F d]) t (out ++ [x.doneN R F d]) := by
  conv => lhs; unfold dnAll
  rw [if_pos hE]
theorem dn_no {out : List Int} {x : Ws} {pre t : List Ws} (hE : x.doneE R F d ≠ 0) : dnAll R F d h pre (x :: t) out = ⟨x.doneE R F d, x.doneD R F d, x.endH h, pre ++ x.doneX R F d :: t, out⟩ := by
  conv => lhs; unfold dnAll
  rw [if_neg hE]
theorem dn_h {R : Int} {F : List Int} : ∀ (t : List Ws) {d : Ds} {h : Int} {pre : List Ws} {out : List Int}, (∀ x ∈ pre, x.ended = true) → (∀ x ∈ t, x.ended = false) → (t.length : Int) ≤ h →
    (if (dnAll R F d h pre t out).e ≠ 0 then dropsHx (dnAll R F d h pre t out).h (dnAll R F d h pre t out).xs else (dnAll R F d h pre t out).h) = h - t.length
  | [], d, h, pre, out, hp, ht, hl => by simp [dnAll]
  | x :: t, d, h, pre, out, hp, ht, hl => by
    have hx := ht x (by simp)
    have hX : (x.doneX R F d).ended = true := by unfold Ws.doneX; rw [hx, if_neg (by decide)]
    rw [List.length_cons] at hl
    push_cast at hl
    have eh : x.endH h = h - 1 := by unfold Ws.endH giveH; rw [hx, if_neg (by decide), if_pos (by omega)]
    by_cases hE : x.doneE R F d = 0
    · have ih := dn_h (R := R) (F := F) t (d := x.doneD R F d) (h := x.endH h) (pre := pre ++ [x.doneX R F d]) (out := out ++ [x.doneN R F d]) (fun a ha => by
          rcases List.mem_append.1 ha with ha | ha
          · exact hp a ha
          · rw [List.mem_singleton.1 ha]; exact hX) (fun a ha => ht a (by simp [ha])) (by rw [eh]; omega)
      rw [dn_yes hE, ih, eh, List.length_cons]
      push_cast
      omega
    · rw [dn_no hE, if_pos hE]
      dsimp only
      have hc : ((pre ++ x.doneX R F d :: t).countP fun x => !x.ended) = t.length := by
        rw [List.countP_append, List.countP_cons_of_neg (by simp [hX]), List.countP_eq_zero.2 (fun a ha => by simp [hp a ha]), List.countP_eq_length.2 (fun a ha => by simp [ht a (by simp [ha])])]
        omega
      rw [drops_h _ _ (by rw [hc, eh]; omega), hc, eh, List.length_cons]
      push_cast
      omega
theorem doneH_eq {R : Int} {F : List Int} (ht : ∀ x ∈ xs, x.ended = false) (hl : (xs.length : Int) ≤ h) : doneH R F d h xs = h - xs.length := by
  unfold doneH
  exact dn_h xs (by simp) ht hl
theorem drops_h_all (ht : ∀ x ∈ xs, x.ended = false) (hl : (xs.length : Int) ≤ h) : dropsHx h xs = h - xs.length := by
  have hc : (xs.countP fun x => !x.ended) = xs.length := List.countP_eq_length.2 fun a ha => by simp [ht a ha]
  rw [drops_h _ _ (by rw [hc]; exact hl), hc]
theorem drops_le : ∀ (xs : List Ws) {d : Ds}, d.le N → (dropsDx d xs).le N
  | [], d, K => K
  | x :: t, d, K => drops_le t (le_drop K)
theorem delAll_le : ∀ (l : List Int) {d : Ds}, d.le N → (delAll d l).le N
  | [], d, K => K
  | a :: t, d, K => delAll_le t (le_del K a)
theorem dnAll_le {R : Int} {F : List Int} : ∀ (t : List Ws) {d : Ds} {h : Int} {pre : List Ws} {out : List Int} {N : Int}, d.le N → (dnAll R F d h pre t out).d.le (N + t.length)
  | [], d, h, pre, out, N, K => by simpa [dnAll] using K
  | x :: t, d, h, pre, out, N, K => by
    unfold dnAll
    split
    · exact (dnAll_le t (le_done K)).mono (by simp; omega)
    · exact (le_done K).mono (by simp; omega)
theorem fput_le (K : d.le N) : (fput p d xs r).d.le (N + 1) := by
  unfold fput
  split
  · exact K.mono (by omega)
  · split
    · exact K.mono (by omega)
    · exact le_put K
theorem eachF_len : ∀ (f : Nat) {d : Ds} {y : Rs} {xs : List Ws} {n : Int}, (eachF p f d y xs n).xs.length = xs.length
  | 0, d, y, xs, n => rfl
  | f + 1, d, y, xs, n => by
    cases hr : (y.next p.F d).row with
    | none => rw [eachF_none f hr]
    | some r =>
      rw [eachF_some f hr]
      split
      · exact (eachF_len f).trans fput_len
      · exact fput_len
theorem eachF_le : ∀ (f : Nat) {d : Ds} {y : Rs} {xs : List Ws} {n N : Int}, d.le N → (eachF p f d y xs n).d.le (N + 2 * f)
  | 0, d, y, xs, n, N, K => K.mono (by simp)
  | f + 1, d, y, xs, n, N, K => by
    cases hr : (y.next p.F d).row with
    | none => rw [eachF_none f hr]; exact (le_next K).mono (by push_cast; omega)
    | some r =>
      rw [eachF_some f hr]
      split
      · exact (eachF_le f (fput_le (le_next K))).mono (by push_cast; omega)
      · exact (fput_le (le_next K)).mono (by push_cast; omega)
end
end Go.Proofs.YtkbapoeilcapfaaGreat

/- fanout: what comes of Split, told whole. -/
namespace Go.Proofs.YtkbapoeilcapfaaGreat
set_option linter.unusedVariables false
set_option linter.unusedSimpArgs false

section
variable {p : FP} {G : Int} {d : Ds} {h n N file : Int} {m : Nat} {rows : List (List V)}
theorem mayB_iff {level n : Int} : mayB level n = true ↔ (0 ≤ level ∧ level ≤ 8 ∧ 1 ≤ n ∧ n ≤ 64) := by
  unfold mayB
  exact decide_eq_true_iff
theorem has_left {L : List (List V)} (hh : Has d file L) : leftN d (rs0 file) = L.length := by
  obtain ⟨ps, h1, h2⟩ := hh
  unfold leftN
  rw [h1, left_len, ← h2]
  simp
theorem has_key {L : List (List V)} (hh : Has d file L) : file ∈ d.fs.map (·.1) := by
  obtain ⟨ps, h1, h2⟩ := hh
  exact List.mem_map_of_mem (f := (·.1)) (Ds.find_mem h1)
/-- A file parted. -/
structure SplitOk (p : FP) (m : Nat) (d : Ds) (z : Sp) (rows : List (List V)) : Prop where
  e : z.e = 0
  sok : SOk p.R z.d
  len : z.out.length = m
  keys : z.d.fs.map (·.1) = d.fs.map (·.1) ++ z.out
  outs : ∀ i q, z.out[i]? = some q → HasP z.d q (partF p m i rows)
  used : z.d.used ≤ d.used + rows.length + m
  find : ∀ q ∈ d.fs.map (·.1), z.d.find q = d.find q
  first : firstE p.cs rows = 0
theorem split_go (hb : mayB p.level n = true) (hm : n = (m : Int)) (hh : Has d file rows) (hG : n + 1 ≤ G - h) (Z : Eft) (hZ : Z = eachF p (leftN (crD m d) (rs0 file) + 1) (crD m d) (rs0 file) (crX m d) 0) :
    splitS p G d h file n = if Z.e ≠ 0 then ⟨Z.e, dropsDx Z.d Z.xs, []⟩ else doneF p.R p.F Z.d (h + n) Z.xs := by
  obtain ⟨ps, h1, h2⟩ := hh
  unfold splitS
  rw [if_neg (by rw [hb]; decide), h1, if_neg (by simp), if_neg (by omega), hm, Int.toNat_natCast, ← hZ]
theorem split_law (K : SOk p.R d) (hh : Has d file rows) (hm : ∀ r ∈ rows, mayE r = 0) (hd : d.fs.length ≤ 32000) (hmade : d.made ≤ 1000000) (hlen : rows.length ≤ 9000) :
    (∃ m : Nat, n = m ∧ mayB p.level n = true ∧ n + 1 ≤ G - h ∧ SplitOk p m d (splitS p G d h file n) rows) ∨
    ((splitS p G d h file n).e ≠ 0 ∧ (splitS p G d h file n).out = [] ∧ (splitS p G d h file n).d.fs.map (·.1) = d.fs.map (·.1) ∧ (mayB p.level n = false → (splitS p G d h file n).e = 1) ∧ (mayB p.level n = true → G - h < n + 1 → (splitS p G d h file n).e = 60) ∧ (mayB p.level n = true → n + 1 ≤ G - h → cod (splitS p G d h file n).e)) := by
  cases hb : mayB p.level n with
  | false =>
    have es : splitS p G d h file n = ⟨1, d, []⟩ := by unfold splitS; rw [if_pos hb]
    rw [es]
    exact .inr ⟨show (1 : Int) ≠ 0 by decide, rfl, rfl, fun _ => rfl, fun h => (by cases h), fun h => (by cases h)⟩
  | true =>
    by_cases hG : G - h < n + 1
    · have es : splitS p G d h file n = ⟨60, d, []⟩ := by
        obtain ⟨ps, h1, h2⟩ := hh
        unfold splitS
        rw [if_neg (by rw [hb]; decide), h1, if_neg (by simp), if_pos hG]
      rw [es]
      exact .inr ⟨show (60 : Int) ≠ 0 by decide, rfl, rfl, fun h => (by cases h), fun _ _ => rfl, fun _ h => (by omega)⟩
    · obtain ⟨b1, b2, b3, b4⟩ := mayB_iff.1 hb
      obtain ⟨m, hnm⟩ : ∃ m : Nat, n = m := ⟨n.toNat, by omega⟩
      obtain ⟨Z, hZ⟩ : ∃ Z, Z = eachF p (leftN (crD m d) (rs0 file) + 1) (crD m d) (rs0 file) (crX m d) 0 := ⟨_, rfl⟩
      have es := split_go (G := G) (h := h) hb hnm hh (by omega) Z hZ
      obtain ⟨FW0, hus, hfnd⟩ := cr_fw (p := p) (m := m) K (by omega) (by omega)
      have hmem := has_key hh
      have hh2 : Has (crD m d) file rows := by
        obtain ⟨ps, h1, h2⟩ := hh
        exact ⟨ps, by rw [hfnd file hmem]; exact h1, h2⟩
      have hno : file ∉ (crX m d).map (·.file) := nd_not FW0.nd hmem
      have ZK : FK p.R Z.d (d.fs.map (·.1)) Z.xs := by rw [hZ]; exact FK.eachF _ FW0.fk
      have law := eachF_law rows (leftN (crD m d) (rs0 file) + 1) (k := 0) FW0 (Left.new hh2) hno (by omega) (by omega) (by rw [has_left hh2]; omega) hm (by simp; omega)
      have hfe : ∀ q ∈ d.fs.map (·.1), Z.d.find q = d.find q := by
        intro q hq
        have hqn : q ∉ (crX m d).map (·.file) := nd_not FW0.nd hq
        rw [hZ]
        have key : ∀ (f : Nat) {d' : Ds} {y : Rs} {xs : List Ws} {k : Int}, q ∉ xs.map (·.file) → (eachF p f d' y xs k).d.find q = d'.find q := by
          intro f
          induction f with
          | zero => intro d' y xs k _; rfl
          | succ f ih =>
            intro d' y xs k hq
            have hput : ∀ r, (fput p (y.next p.F d').d xs r).d.find q = d'.find q ∧ (fput p (y.next p.F d').d xs r).xs.map (·.file) = xs.map (·.file) := by
              intro r
              unfold fput
              split
              · exact ⟨next_find _ _ _ _, rfl⟩
              · split
                · exact ⟨next_find _ _ _ _, rfl⟩
                · next x hx =>
                  refine ⟨?_, set_map_file hx (put_n (R := p.R) (F := p.F) (d := (y.next p.F d').d) (x := x) (r := r)).2.1⟩
                  dsimp only
                  rw [put_find (fun e => hq (by rw [e]; exact List.mem_map_of_mem (List.mem_of_getElem? hx))), next_find]
            cases hr : (y.next p.F d').row with
            | none => rw [eachF_none f hr]; exact next_find _ _ _ _
            | some r =>
              rw [eachF_some f hr]
              split
              · exact (ih (by rw [(hput r).2]; exact hq)).trans (hput r).1
              · exact (hput r).1
        exact (key _ hqn).trans (hfnd q hq)
      rw [← hZ, List.nil_append] at law
      rcases law with ⟨z0, zw, zf, zu⟩ | zc
      · rw [if_neg (by simpa using z0)] at es
        have D := dnAll_law (base := d.fs.map (·.1)) (rows := rows) (m := m) Z.xs (h := h + n) (pre := []) (out := []) ⟨zw.sok, by rw [List.nil_append]; exact zw.keys, fun i q hq => by simp at hq, fun i x hx => by rw [List.length_nil, Nat.zero_add]; exact zw.wr i x hx⟩ (by simp)
        rcases D with ⟨q1, q2, q3, q4, q5, q6, q7⟩ | ⟨q1, q2, q3⟩
        · refine .inl ⟨m, hnm, rfl, by omega, ?_⟩
          rw [es]
          unfold doneF
          rw [if_neg (by simpa using q1)]
          exact ⟨rfl, q2, by rw [q4, zw.len]; simp, q3, q5, by have := zw.len; dsimp only; omega, fun q hq => (q7 q hq).trans (hfe q hq), zf⟩
        · refine .inr ?_
          rw [es]
          unfold doneF
          have hne := cod_ne q1
          rw [if_pos hne]
          exact ⟨hne, rfl, q2, fun h => (by cases h), fun _ h => absurd h hG, fun _ _ => q1⟩
      · have hne := cod_ne zc
        rw [if_pos hne] at es
        refine .inr ?_
        rw [es]
        exact ⟨hne, rfl, ZK.drop, fun h => (by cases h), fun _ h => absurd h hG, fun _ _ => zc⟩
/-- Where nothing fails, Split's answer is the document's. -/
theorem split_zero (K : SOk p.R d) (hh : Has d file rows) (hm : ∀ r ∈ rows, mayE r = 0) (hd : d.fs.length ≤ 32000) (hmade : d.made ≤ 1000000) (hlen : rows.length ≤ 9000) (hb : mayB p.level n = true) (hG : n + 1 ≤ G - h) (hF : p.F = []) (hu : d.used + rows.length + n < p.R) :
    (splitS p G d h file n).e = firstE p.cs rows := by
  obtain ⟨b1, b2, b3, b4⟩ := mayB_iff.1 hb
  obtain ⟨m, hnm⟩ : ∃ m : Nat, n = m := ⟨n.toNat, by omega⟩
  obtain ⟨Z, hZ⟩ : ∃ Z, Z = eachF p (leftN (crD m d) (rs0 file) + 1) (crD m d) (rs0 file) (crX m d) 0 := ⟨_, rfl⟩
  have es := split_go (G := G) (h := h) hb hnm hh (by omega) Z hZ
  obtain ⟨FW0, hus, hfnd⟩ := cr_fw (p := p) (m := m) K (by omega) (by omega)
  have hmem := has_key hh
  have hh2 : Has (crD m d) file rows := by
    obtain ⟨ps, h1, h2⟩ := hh
    exact ⟨ps, by rw [hfnd file hmem]; exact h1, h2⟩
  have hno : file ∉ (crX m d).map (·.file) := nd_not FW0.nd hmem
  have law := eachF_law rows (leftN (crD m d) (rs0 file) + 1) (k := 0) FW0 (Left.new hh2) hno (by omega) (by omega) (by rw [has_left hh2]; omega) hm (by simp; omega)
  have zero := eachF_zero rows (leftN (crD m d) (rs0 file) + 1) (k := 0) FW0 (Left.new hh2) hno (by omega) (by omega) (by rw [has_left hh2]; omega) hm (by simp; omega) hF (by rw [hus]; omega)
  rw [← hZ] at law zero
  rw [List.nil_append] at law
  rw [es]
  by_cases h0 : Z.e = 0
  · rw [if_neg (by simpa using h0), ← zero, h0]
    rcases law with ⟨z0, zw, zf, zu⟩ | zc
    · have D := dnAll_law (base := d.fs.map (·.1)) (rows := rows) (m := m) Z.xs (h := h + n) (pre := []) (out := []) ⟨zw.sok, by rw [List.nil_append]; exact zw.keys, fun i q hq => by simp at hq, fun i x hx => by rw [List.length_nil, Nat.zero_add]; exact zw.wr i x hx⟩ (by simp)
      rcases D with ⟨q1, q2, q3, q4, q5, q6, q7⟩ | ⟨q1, q2, q3⟩
      · unfold doneF
        rw [if_neg (by simpa using q1)]
      · have := q3 hF
        have := zw.len
        omega
    · exact absurd h0 (cod_ne zc)
  · rw [if_pos h0]
    exact zero
theorem splitS_le (K : SOk p.R d) (hd : d.fs.length ≤ 32000) (hmade : d.made ≤ 1000000) (hN : d.le N) (hh : Has d file rows) (h0 : 0 ≤ N) : (splitS p G d h file n).d.le (N + 2 * n.toNat + 2 * ((rows.length + 1 : Nat) : Int)) := by
  by_cases hb : mayB p.level n = true
  · by_cases hG : G - h < n + 1
    · have es : splitS p G d h file n = ⟨60, d, []⟩ := by
        obtain ⟨ps, h1, h2⟩ := hh
        unfold splitS
        rw [if_neg (by rw [hb]; decide), h1, if_neg (by simp), if_pos hG]
      rw [es]
      exact hN.mono (by omega)
    · obtain ⟨b1, b2, b3, b4⟩ := mayB_iff.1 hb
      obtain ⟨m, hnm⟩ : ∃ m : Nat, n = m := ⟨n.toNat, by omega⟩
      obtain ⟨Z, hZ⟩ : ∃ Z, Z = eachF p (leftN (crD m d) (rs0 file) + 1) (crD m d) (rs0 file) (crX m d) 0 := ⟨_, rfl⟩
      have es := split_go (G := G) (h := h) hb hnm hh (by omega) Z hZ
      obtain ⟨FW0, hus, hfnd⟩ := cr_fw (p := p) (m := m) K (by omega) (by omega)
      have hmem := has_key hh
      have hh2 : Has (crD m d) file rows := by
        obtain ⟨ps, h1, h2⟩ := hh
        exact ⟨ps, by rw [hfnd file hmem]; exact h1, h2⟩
      have Zle : Z.d.le (N + m + 2 * ((rows.length + 1 : Nat) : Int)) := by
        rw [hZ, has_left hh2]
        exact eachF_le _ (crD_le m hN)
      have Zl : Z.xs.length = m := by rw [hZ, eachF_len, crX_len]
      have hn : (n.toNat : Int) = m := by omega
      rw [es, hn]
      split
      · exact (drops_le _ Zle).mono (by omega)
      · have hdn := dnAll_le (R := p.R) (F := p.F) Z.xs (h := h + n) (pre := []) (out := []) Zle
        rw [Zl] at hdn
        unfold doneF
        split
        · exact (delAll_le _ (drops_le _ hdn)).mono (by omega)
        · exact hdn.mono (by omega)
  · have es : splitS p G d h file n = ⟨1, d, []⟩ := by unfold splitS; rw [if_pos (by simpa using hb)]
    rw [es]
    exact hN.mono (by omega)
end
end Go.Proofs.YtkbapoeilcapfaaGreat
