/- SpillTurns: two files that are written in turn, and read in turn, are apart. -/
import Derived.Test.YtkbapoeilcapfaaMG
import Derived.Test.YtkbapoeilcapfaaMC
import Derived.ChangeArms
/- spill as plain data: what a writer has written, what is left to a reader. -/
namespace Go.Proofs.Ytkbapoeilcapfaa
set_option linter.unusedVariables false
set_option linter.unusedSimpArgs false

theorem addPg_find (fs : List (Int × List Pg)) (n : Int) (p : Pg) (m : Int) : ((addPg fs n p).find? fun x => x.1 == m).map (·.2) = ((fs.find? fun x => x.1 == m).map (·.2)).map fun l => if m = n then l ++ [p] else l := by
  induction fs with
  | nil => rfl
  | cons x t ih =>
    unfold addPg at ih ⊢
    rw [List.map_cons]
    have e1 : (if x.1 = n then (x.1, x.2 ++ [p]) else x).1 = x.1 := by split <;> rfl
    by_cases h : x.1 = m
    · rw [List.find?_cons_of_pos (by rw [e1]; simpa using h), List.find?_cons_of_pos (by simpa using h)]
      simp only [Option.map_some]
      by_cases h2 : x.1 = n
      · rw [if_pos h2, if_pos (by omega)]
      · rw [if_neg h2, if_neg (by omega)]
    · rw [List.find?_cons_of_neg (by rw [e1]; simpa using h), List.find?_cons_of_neg (by simpa using h)]
      exact ih
theorem filter_find (fs : List (Int × List Pg)) (n m : Int) : ((fs.filter fun x => !(x.1 == n)).find? fun x => x.1 == m).map (·.2) = if m = n then none else (fs.find? fun x => x.1 == m).map (·.2) := by
  induction fs with
  | nil => simp
  | cons x t ih =>
    by_cases h : x.1 = n
    · rw [List.filter_cons_of_neg (by simpa using h), ih]
      split
      · rfl
      · next hm => rw [List.find?_cons_of_neg (by simp; omega)]
    · rw [List.filter_cons_of_pos (by simpa using h)]
      by_cases h2 : x.1 = m
      · rw [List.find?_cons_of_pos (by simpa using h2), List.find?_cons_of_pos (by simpa using h2), if_neg (by omega)]
      · rw [List.find?_cons_of_neg (by simpa using h2), List.find?_cons_of_neg (by simpa using h2), ih]
section
variable {R : Int} {F : List Int} {G : Int} {d : Ds} {h n m : Int} {x y : Ws} {r : List V} {L M : List (List V)} {p : Pg}
theorem app_find (m : Int) : (d.app R F n p).find m = if d.appE R F n p = 0 then (d.find m).map (fun l => if m = n then l ++ [p] else l) else d.find m := by
  unfold Ds.app
  split
  · exact addPg_find _ _ _ _
  · split <;> rfl
theorem app_find_other (hm : m ≠ n) : (d.app R F n p).find m = d.find m := by
  rw [app_find]
  split
  · cases d.find m with
    | none => rfl
    | some l => simp [hm]
  · rfl
theorem del_find (m : Int) : (d.del n).find m = if m = n then none else d.find m := by
  unfold Ds.del
  cases hf : d.find n with
  | none =>
    by_cases hm : m = n
    · rw [if_pos hm, hm]; exact hf
    · rw [if_neg hm]
  | some l => exact filter_find _ _ _
theorem create_find (K : DOk R d) (hE : d.createE = 0) (m : Int) : d.create.find m = if m = d.made + 1 then some [] else d.find m := by
  unfold Ds.create
  rw [if_pos hE]
  unfold Ds.find
  dsimp only
  rw [List.find?_append]
  by_cases hm : m = d.made + 1
  · rw [if_pos hm]
    have : (d.fs.find? fun x => x.1 == m) = none := by
      rw [List.find?_eq_none]
      intro z hz
      have := K.num z hz
      simp
      omega
    rw [this]
    simp [hm]
  · rw [if_neg hm]
    cases hf : d.fs.find? fun x => x.1 == m with
    | some z => rfl
    | none => simp; omega
theorem app_fs_len : (d.app R F n p).fs.length = d.fs.length := by
  unfold Ds.app
  split
  · exact addPg_len _ _ _
  · split <;> rfl
theorem app_used : d.used ≤ (d.app R F n p).used ∧ (d.app R F n p).used ≤ d.used + 1 := by
  unfold Ds.app
  split
  · exact ⟨by dsimp only; omega, by dsimp only; omega⟩
  · split
    · exact ⟨Int.le_refl _, by unfold Ds.deed_; dsimp only; omega⟩
    · exact ⟨Int.le_refl _, by omega⟩
theorem create_fs_len (hE : d.createE = 0) : d.create.fs.length = d.fs.length + 1 := by
  unfold Ds.create
  rw [if_pos hE]
  simp
theorem create_used : d.create.used = d.used := by
  unfold Ds.create
  split <;> rfl
/-- The rows of a file. -/
def Has (d : Ds) (n : Int) (L : List (List V)) : Prop := ∃ ps, d.find n = some ps ∧ ps.flatMap pgRows = L
/-- What a writer has written so far, its page in memory with it. -/
structure Wrote (d : Ds) (x : Ws) (L : List (List V)) : Prop where
  opn : x.ended = false
  wr : x.wrong = 0
  ok : WOk x
  has : ∃ ps, d.find x.file = some ps ∧ ps.flatMap pgRows ++ x.rows = L
theorem Wrote.other (W : Wrote d y M) {d' : Ds} (h : d'.find y.file = d.find y.file) : Wrote d' y M := ⟨W.opn, W.wr, W.ok, by rw [h]; exact W.has⟩
theorem flush_find (hm : m ≠ x.file) : (x.flushD R F d).find m = d.find m := by
  unfold Ws.flushD
  split
  · exact app_find_other hm
  · rfl
theorem put_find (hm : m ≠ x.file) : (x.putD R F d r).find m = d.find m := by
  unfold Ws.putD
  split
  · rfl
  · split
    · exact flush_find hm
    · rfl
theorem flush_fs_len : (x.flushD R F d).fs.length = d.fs.length := by
  unfold Ws.flushD
  split
  · exact app_fs_len
  · rfl
theorem put_fs_len : (x.putD R F d r).fs.length = d.fs.length := by
  unfold Ws.putD
  split
  · rfl
  · split
    · exact flush_fs_len
    · rfl
theorem flush_used : (x.flushD R F d).used ≤ d.used + 1 := by
  unfold Ws.flushD
  split
  · exact app_used.2
  · omega
theorem put_used : (x.putD R F d r).used ≤ d.used + 1 := by
  unfold Ws.putD
  split
  · omega
  · split
    · exact flush_used
    · omega
/-- A flush that goes well keeps all rows. -/
theorem flush_has (W : Wrote d x L) (hE : x.flushE R F d = 0) : Has (x.flushD R F d) x.file L := by
  obtain ⟨ps, h1, h2⟩ := W.has
  unfold Ws.flushE at hE
  unfold Ws.flushD
  by_cases hr : x.wrong = 0 ∧ x.rows ≠ []
  · rw [if_pos hr] at hE ⊢
    refine ⟨ps ++ [mkP x.rows], ?_, ?_⟩
    · rw [app_find, if_pos hE, h1]
      simp
    · rw [List.flatMap_append, ← h2]
      simp [pgRows_mkP W.ok.ok W.ok.fit]
  · rw [if_neg hr]
    have : x.rows = [] := by
      by_cases e : x.rows = []
      · exact e
      · exact absurd ⟨W.wr, e⟩ hr
    refine ⟨ps, h1, ?_⟩
    rw [← h2, this, List.append_nil]
theorem flush_zero (W : Wrote d x L) (hu : d.used < R) : x.flushE R [] d = 0 := by
  obtain ⟨ps, h1, h2⟩ := W.has
  unfold Ws.flushE
  split
  · unfold Ds.appE
    rw [if_neg (by rw [mkP_len W.ok.fit]; decide), h1]
    dsimp only
    rw [if_neg (by omega)]
    rfl
  · exact W.wr
theorem stop_may (W : Wrote d x L) : x.stop r = mayE r := by unfold Ws.stop; rw [W.opn, if_neg (by decide), W.wr, if_neg (by decide)]
theorem put_zero (W : Wrote d x L) (hm : mayE r = 0) (hu : d.used < R) : x.putE R [] d r = 0 := by
  unfold Ws.putE
  rw [stop_may W, if_neg (by rw [hm]; decide)]
  split
  · exact flush_zero W hu
  · rfl
theorem put_wrote (W : Wrote d x L) (hE : x.putE R F d r = 0) (hn : x.n < 1000000) : Wrote (x.putD R F d r) (x.putX R F d r) (L ++ [r]) := by
  have hm : mayE r = 0 := by
    unfold Ws.putE at hE
    rw [stop_may W] at hE
    by_cases h : mayE r ≠ 0
    · rw [if_pos h] at hE; exact hE
    · simpa using h
  have hok := W.ok.putX (R := R) (F := F) (d := d) (r := r) hn
  have hp := put_n (R := R) (F := F) (d := d) (x := x) (r := r)
  refine ⟨by rw [hp.2.2]; exact W.opn, ?_, hok, ?_⟩
  · unfold Ws.putX
    rw [stop_may W, if_neg (by rw [hm]; decide)]
    split
    · next hu =>
      unfold Ws.putE at hE
      rw [stop_may W, if_neg (by rw [hm]; decide), if_pos hu] at hE
      rw [if_neg (by rw [hE]; decide)]
    · exact W.wr
  · rw [hp.2.1]
    unfold Ws.putD Ws.putX
    rw [stop_may W]
    simp only [if_neg (show ¬ mayE r ≠ 0 by rw [hm]; decide)]
    by_cases hu : 256 < usedN (x.rows ++ [r])
    · unfold Ws.putE at hE
      rw [stop_may W, if_neg (by rw [hm]; decide), if_pos hu] at hE
      simp only [if_pos hu, if_neg (show ¬ x.flushE R F d ≠ 0 by rw [hE]; decide)]
      obtain ⟨ps, h1, h2⟩ := flush_has W hE
      exact ⟨ps, h1, by rw [h2]⟩
    · simp only [if_neg hu]
      obtain ⟨ps, h1, h2⟩ := W.has
      exact ⟨ps, h1, by rw [← h2, List.append_assoc]⟩
theorem done_has (W : Wrote d x L) (hE : x.doneE R F d = 0) : x.doneN R F d = x.file ∧ Has (x.doneD R F d) x.file L := by
  have hn : x.doneN R F d = x.file := if_pos hE
  refine ⟨hn, ?_⟩
  have ho : ¬ x.ended = true := by rw [W.opn]; decide
  unfold Ws.doneE at hE
  rw [if_neg ho] at hE
  unfold Ws.doneD
  rw [if_neg ho, if_pos hE]
  exact flush_has W hE
theorem done_zero (W : Wrote d x L) (hu : d.used < R) : x.doneE R [] d = 0 := by
  unfold Ws.doneE
  rw [if_neg (by rw [W.opn]; decide)]
  exact flush_zero W hu
theorem done_find (hm : m ≠ x.file) : (x.doneD R F d).find m = d.find m := by
  unfold Ws.doneD
  split
  · rfl
  · split
    · exact flush_find hm
    · rw [del_find, if_neg hm]
      exact flush_find hm
theorem done_fs_len (hE : x.doneE R F d = 0) : (x.doneD R F d).fs.length = d.fs.length := by
  unfold Ws.doneE at hE
  unfold Ws.doneD
  split
  · rfl
  · next ho =>
    rw [if_neg ho] at hE
    rw [if_pos hE]
    exact flush_fs_len
theorem done_used (hE : x.doneE R F d = 0) : (x.doneD R F d).used ≤ d.used + 1 := by
  unfold Ws.doneE at hE
  unfold Ws.doneD
  split
  · omega
  · next ho =>
    rw [if_neg ho] at hE
    rw [if_pos hE]
    exact flush_used
/-- A new writer. -/
theorem wr_wrote (K : SOk R d) (hE : d.createE = 0) (hm : d.made ≤ 1000000000) : Wrote d.create (wrX d) [] :=
  ⟨rfl, rfl, WOk.new K hm, [], by
    rw [create_find K.dok hE]
    exact if_pos rfl, rfl⟩
end
/-- The rows that are left to a reader. -/
structure Left (d : Ds) (y : Rs) (L : List (List V)) : Prop where
  opn : y.closed = false
  has : ∃ ps, d.find y.file = some ps ∧ y.rows ++ (ps.drop y.page).flatMap pgRows = L
theorem Left.other {d d' : Ds} {y : Rs} {L : List (List V)} (h : Left d y L) (hf : d'.find y.file = d.find y.file) : Left d' y L := ⟨h.opn, by rw [hf]; exact h.has⟩
theorem Left.new {d : Ds} {n : Int} {L : List (List V)} (h : Has d n L) : Left d (rs0 n) L := by
  obtain ⟨ps, h1, h2⟩ := h
  exact ⟨rfl, ps, h1, by simpa using h2⟩
section
variable {R : Int} {d : Ds} {y : Rs} {r : List V} {t : List (List V)}
theorem readE_nil {n : Int} {i : Nat} {l : List Pg} (hf : d.find n = some l) (hi : i < l.length) : d.readE [] n i = 0 := by
  unfold Ds.readE
  rw [hf]
  dsimp only
  rw [if_neg (by omega)]
  rfl
theorem left_some (K : SOk R d) (h : Left d y (r :: t)) : (y.next [] d).row = some r ∧ Left (y.next [] d).d (y.next [] d).x t := by
  obtain ⟨ps, h1, h2⟩ := h.has
  have hc : ¬ y.closed = true := by rw [h.opn]; decide
  cases hr : y.rows with
  | cons a b =>
    have en : y.next [] d = ⟨some a, 0, d, ⟨y.file, y.page, b, y.closed⟩⟩ := by unfold Rs.next; rw [if_neg hc, hr]
    rw [hr] at h2
    injection h2 with e1 e2
    rw [en]
    exact ⟨by rw [e1], h.opn, ps, h1, e2⟩
  | nil =>
    rw [hr, List.nil_append] at h2
    have hl : y.page < ps.length := by
      rcases Nat.lt_or_ge y.page ps.length with hl | hl
      · exact hl
      · rw [List.drop_of_length_le hl] at h2; cases h2
    have hb : y.loadB [] d = true := by
      unfold Rs.loadB
      rw [h1]
      simp [readE_nil h1 hl]
      omega
    have en : y.next [] d = ⟨(y.loadX [] d).rows.head?, 0, y.loadD [] d, ⟨y.file, y.page + 1, (y.loadX [] d).rows.tail, y.closed⟩⟩ := by unfold Rs.next; rw [if_neg hc, hr]; dsimp only; rw [if_pos hb]
    obtain ⟨ps', p, g1, g2, g3, _⟩ := load_at hb
    rw [h1] at g1
    injection g1 with g1
    subst g1
    have ex : (y.loadX [] d).rows = pgRows p := by unfold Rs.loadX; rw [if_pos hb, g3]
    have hm := Ds.find_mem h1
    obtain ⟨rows, q1, q2, q3, q4⟩ := K.pg _ hm p (List.mem_of_getElem? g2)
    have q5 : pgRows p = rows := by rw [q2, pgRows_mkP q4 q3]
    rw [drop_at g2, List.flatMap_cons, q5] at h2
    rw [en, ex, q5]
    cases rows with
    | nil => exact absurd rfl q1
    | cons a b =>
      injection h2 with e1 e2
      refine ⟨by rw [List.head?_cons, e1], h.opn, ps, ?_, e2⟩
      show (y.loadD [] d).find y.file = some ps
      have : (y.loadD [] d).find y.file = d.find y.file := by unfold Ds.find; rw [load_fs]
      rw [this]
      exact h1
theorem left_none (K : SOk R d) (h : Left d y []) : y.next [] d = ⟨none, 0, d, y⟩ := by
  obtain ⟨ps, h1, h2⟩ := h.has
  have hc : ¬ y.closed = true := by rw [h.opn]; decide
  have hr : y.rows = [] := by
    cases hr : y.rows with
    | nil => rfl
    | cons a b => rw [hr] at h2; cases h2
  rw [hr, List.nil_append] at h2
  have hl : ps.length ≤ y.page := by
    rcases Nat.lt_or_ge y.page ps.length with hl | hl
    · have hm := Ds.find_mem h1
      obtain ⟨rows, q1, q2, q3, q4⟩ := K.pg _ hm ps[y.page] (List.getElem_mem hl)
      rw [List.drop_eq_getElem_cons hl, List.flatMap_cons, q2, pgRows_mkP q4 q3] at h2
      cases rows with
      | nil => exact absurd rfl q1
      | cons a b => cases h2
    · exact hl
  have hb : y.loadB [] d = false := by
    unfold Rs.loadB
    rw [h1]
    simp
    omega
  unfold Rs.next
  rw [if_neg hc, hr]
  dsimp only
  rw [if_neg (by rw [hb]; decide)]
  unfold Rs.loadE Rs.loadD
  rw [h1]
  dsimp only
  rw [if_pos (by omega), if_pos (by omega)]
end
end Go.Proofs.Ytkbapoeilcapfaa

/- SpillTurns: plain data. -/
namespace Go.Proofs.Ytkbapoeilcapfaa
set_option linter.unusedVariables false
set_option linter.unusedSimpArgs false

/-- Two writers at work. -/
structure TSt (k : Nat) (d : Ds) (a b : Ws) (X Y : List (List V)) : Prop where
  sok : SOk 16384 d
  wa : Wrote d a X
  wb : Wrote d b Y
  fa : a.file = 1
  fb : b.file = 2
  le : d.le (k + 2)
  used : d.used ≤ k
  fs : d.fs.length = 2
  na : a.n ≤ k
  nb : b.n ≤ k
  lx : X.length ≤ k
  ly : Y.length ≤ k
theorem TSt.skip {k : Nat} {d : Ds} {a b : Ws} {X Y : List (List V)} (h : TSt k d a b X Y) : TSt (k + 1) d a b X Y :=
  ⟨h.sok, h.wa, h.wb, h.fa, h.fb, h.le.mono (by omega), by have := h.used; omega, h.fs, by have := h.na; omega, by have := h.nb; omega, by have := h.lx; omega, by have := h.ly; omega⟩
theorem TSt.putA {k : Nat} {d : Ds} {a b : Ws} {X Y : List (List V)} {r : List V} (h : TSt k d a b X Y) (hk : k < 200) (hm : mayE r = 0) :
    a.putE 16384 [] d r = 0 ∧ TSt (k + 1) (a.putD 16384 [] d r) (a.putX 16384 [] d r) b (X ++ [r]) Y := by
  have hu := h.used
  have e0 := put_zero (R := 16384) h.wa hm (by omega)
  have hp := put_n (R := 16384) (F := []) (d := d) (x := a) (r := r)
  have hu2 := put_used (R := 16384) (F := []) (d := d) (x := a) (r := r)
  refine ⟨e0, h.sok.put h.wa.ok, put_wrote h.wa e0 (by have := h.na; omega), h.wb.other (put_find (by rw [h.fa, h.fb]; decide)), by rw [hp.2.1]; exact h.fa, h.fb, (le_put h.le).mono (by omega), by omega, by rw [put_fs_len]; exact h.fs, by have := h.na; have := hp.1; omega, by have := h.nb; omega, by have := h.lx; simp; omega, by have := h.ly; omega⟩
theorem TSt.putB {k : Nat} {d : Ds} {a b : Ws} {X Y : List (List V)} {r : List V} (h : TSt k d a b X Y) (hk : k < 200) (hm : mayE r = 0) :
    b.putE 16384 [] d r = 0 ∧ TSt (k + 1) (b.putD 16384 [] d r) a (b.putX 16384 [] d r) X (Y ++ [r]) := by
  have hu := h.used
  have e0 := put_zero (R := 16384) h.wb hm (by omega)
  have hp := put_n (R := 16384) (F := []) (d := d) (x := b) (r := r)
  have hu2 := put_used (R := 16384) (F := []) (d := d) (x := b) (r := r)
  refine ⟨e0, h.sok.put h.wb.ok, h.wa.other (put_find (by rw [h.fa, h.fb]; decide)), put_wrote h.wb e0 (by have := h.nb; omega), h.fa, by rw [hp.2.1]; exact h.fb, (le_put h.le).mono (by omega), by omega, by rw [put_fs_len]; exact h.fs, by have := h.na; omega, by have := h.nb; have := hp.1; omega, by have := h.lx; omega, by have := h.ly; simp; omega⟩
def t_d2 : Ds := ⟨2, 0, 0, 0, 0, 0, [(1, []), (2, [])]⟩
def t_b : Ws := ⟨2, 0, 0, false, []⟩
theorem t_wr1 : wrE 4 Ds.new 0 = 0 ∧ Ds.new.createE = 0 ∧ Ds.new.create = e1 ∧ wrX Ds.new = x0 := ⟨by decide, by decide, by decide, rfl⟩
theorem t_wr2 : e1.createE = 0 ∧ e1.create = t_d2 ∧ wrX e1 = t_b := ⟨by decide, by decide, rfl⟩
theorem TSt.start : TSt 0 t_d2 x0 t_b [] [] := by
  have k0 : SOk 16384 Ds.new := SOk.new (by decide) (by decide)
  have k1 : SOk 16384 e1 := by have := k0.create; rwa [t_wr1.2.2.1] at this
  have k2 : SOk 16384 t_d2 := by have := k1.create; rwa [t_wr2.2.1] at this
  exact ⟨k2, ⟨rfl, rfl, WOk.none (by decide) (by decide), [], rfl, rfl⟩, ⟨rfl, rfl, WOk.none (by decide) (by decide), [], rfl, rfl⟩, rfl, rfl, ⟨by decide, by decide⟩, by decide, rfl, by decide, by decide, by simp, by simp⟩
/-- Both are done. -/
structure TDn (k : Nat) (d d1 d2 : Ds) (a b : Ws) (X Y : List (List V)) : Prop where
  ea : a.doneE 16384 [] d = 0
  na : a.doneN 16384 [] d = 1
  da : a.doneD 16384 [] d = d1
  eb : b.doneE 16384 [] d1 = 0
  nb : b.doneN 16384 [] d1 = 2
  db : b.doneD 16384 [] d1 = d2
  ha : a.endH 2 = 1
  hb : b.endH 1 = 0
  le0 : d.deeds ≤ 1000
  le1 : d1.deeds ≤ 1000
  sok : SOk 16384 d2
  hx : Has d2 1 X
  hy : Has d2 2 Y
  le : d2.le (k + 4)
  fs : d2.fs.length = 2
theorem TSt.done {k : Nat} {d : Ds} {a b : Ws} {X Y : List (List V)} (h : TSt k d a b X Y) (hk : k ≤ 200) : ∃ d1 d2, TDn k d d1 d2 a b X Y := by
  have hu := h.used
  have ea := done_zero (R := 16384) h.wa (by omega)
  have ua := done_used ea
  obtain ⟨na, ha⟩ := done_has h.wa ea
  have wb1 := h.wb.other (d' := a.doneD 16384 [] d) (done_find (by rw [h.fa, h.fb]; decide))
  have k1 := SOk.done (F := []) h.sok h.wa.ok
  have eb := done_zero (R := 16384) wb1 (by omega)
  obtain ⟨nb, hb⟩ := done_has wb1 eb
  have l1 := le_done (R := 16384) (F := []) (x := a) h.le
  have l2 := le_done (R := 16384) (F := []) (x := b) l1
  have oa : ¬ a.ended = true := by rw [h.wa.opn]; decide
  have ob : ¬ b.ended = true := by rw [h.wb.opn]; decide
  refine ⟨_, _, ea, by rw [na, h.fa], rfl, eb, by rw [nb, h.fb], rfl, ?_, ?_, by have := h.le.2; omega, by have := l1.2; omega, SOk.done k1 wb1.ok, ?_, by rw [h.fb] at hb; exact hb, l2.mono (by omega), by rw [done_fs_len eb, done_fs_len ea]; exact h.fs⟩
  · unfold Ws.endH; rw [if_neg oa]; rfl
  · unfold Ws.endH; rw [if_neg ob]; rfl
  · rw [h.fa] at ha
    obtain ⟨ps, g1, g2⟩ := ha
    exact ⟨ps, by rw [done_find (by rw [h.fb]; decide)]; exact g1, g2⟩
/-- Two readers at work. -/
structure RSt (N : Int) (d : Ds) (y z : Rs) (X Y : List (List V)) : Prop where
  sok : SOk 16384 d
  ly : Left d y X
  lz : Left d z Y
  le : d.le N
  fs : d.fs.length = 2
theorem RSt.one {N : Int} {d : Ds} {y z : Rs} {r : List V} {X Y : List (List V)} (h : RSt N d y z (r :: X) Y) : (y.next [] d).row = some r ∧ RSt (N + 1) (y.next [] d).d (y.next [] d).x z X Y := by
  obtain ⟨h1, h2⟩ := left_some h.sok h.ly
  exact ⟨h1, h.sok.next, h2, h.lz.other (next_find _ _ _ _), le_next h.le, by rw [next_fs]; exact h.fs⟩
theorem RSt.none {N : Int} {d : Ds} {y z : Rs} {Y : List (List V)} (h : RSt N d y z [] Y) : y.next [] d = ⟨none, 0, d, y⟩ := left_none h.sok h.ly
theorem RSt.swap {N : Int} {d : Ds} {y z : Rs} {X Y : List (List V)} (h : RSt N d y z X Y) : RSt N d z y Y X := ⟨h.sok, h.lz, h.ly, h.le, h.fs⟩
end Go.Proofs.Ytkbapoeilcapfaa

/- SpillTurns: things beside each other; the walk's parts. -/
namespace Go.Proofs.Ytkbapoeilcapfaa
open Go.RowKit Go.Maps
set_option linter.unusedVariables false
set_option linter.unusedSimpArgs false
set_option maxRecDepth 6000

section
variable {w : World} {S : Nat → Prop} {A B C D E X : Res}
theorem pull3 (h : star A (star B (star C X)) w S) : star C (star A (star B X)) w S := star_swap (star_mono h (fun _ => id) (fun _ => star_swap))
theorem push3 (h : star C (star A (star B X)) w S) : star A (star B (star C X)) w S := star_mono (star_swap h) (fun _ => id) (fun _ => star_swap)
theorem pull4 (h : star A (star B (star C (star D X))) w S) : star D (star A (star B (star C X))) w S := star_swap (star_mono h (fun _ => id) (fun _ => pull3))
theorem push4 (h : star D (star A (star B (star C X))) w S) : star A (star B (star C (star D X))) w S := star_mono (star_swap h) (fun _ => id) (fun _ => push3)
theorem pull5 (h : star A (star B (star C (star D (star E X)))) w S) : star E (star A (star B (star C (star D X)))) w S := star_swap (star_mono h (fun _ => id) (fun _ => pull4))
theorem push5 (h : star E (star A (star B (star C (star D X)))) w S) : star A (star B (star C (star D (star E X)))) w S := star_mono (star_swap h) (fun _ => id) (fun _ => push4)
theorem swap2 (h : star A (star B (star C X)) w S) : star A (star C (star B X)) w S := star_mono h (fun _ => id) (fun _ => star_swap)
theorem nil_in {e : TypeId} (h : X w S) : star (rowR e 1 (.slice none 0 0) 0 []) X w S := ⟨fun _ => False, S, ⟨⟨rfl, .inl ⟨rfl, rfl⟩⟩, by funext k; simp [Value.ownBlock]⟩, h, fun _ h => h.elim, fun k => by simp⟩
end
section
variable {w0 w W : World} {bd bl ba bb bp r1 r2 : Nat} {d : Ds} {a b : Ws} {y z : Rs} {Q1 Q2 : World → Prop} {vx vy : Value} {nx ny : Nat} {hx hy : List Value} {h : Int}
abbrev P4 (bd bl : Nat) (d : Ds) (h : Int) : Res := PL bd bl 16384 [] 4 d h
abbrev TF (bp bd bl : Nat) : Res := star (blkR bp (pbox bd bl)) emp
theorem TF_good (bp bd bl : Nat) : Good (TF bp bd bl) := star_good (blkR_good _ _) emp_good
abbrev hdR (v : Value) (n : Nat) (hs : List Value) : Res := rowR 22 1 v n hs
/-- The two lists of rows, the place's variable. -/
abbrev LT (bp bd bl : Nat) (vx : Value) (nx : Nat) (hx : List Value) (vy : Value) (ny : Nat) (hy : List Value) : Res := star (hdR vx nx hx) (star (hdR vy ny hy) (TF bp bd bl))
theorem LT_good (bp bd bl : Nat) (vx : Value) (nx : Nat) (hx : List Value) (vy : Value) (ny : Nat) (hy : List Value) : Good (LT bp bd bl vx nx hx vy ny hy) := star_good (rowR_good _ _ _ _ _) (star_good (rowR_good _ _ _ _ _) (TF_good _ _ _))
abbrev W2 (bd bl ba bb : Nat) (d : Ds) (h : Int) (a b : Ws) (X : Res) : Res := star (P4 bd bl d h) (star (WR ba bd bl a) (star (WR bb bd bl b) X))
abbrev R2 (bd bl r1 r2 : Nat) (d : Ds) (h : Int) (y z : Rs) (Q1 Q2 : World → Prop) (X : Res) : Res := star (P4 bd bl d h) (star (RR r1 bd bl y Q1) (star (RR r2 bd bl z Q2) X))
theorem LT_cells (V : In w0 W (LT bp bd bl vx nx hx vy ny hy)) : PB bp bd bl W := by
  have h := V.right.right.left.get fun S h => h.1
  exact ⟨cell_of_blk h 0, cell_of_blk h 1, cell_of_blk h 2⟩
theorem RR_q {br : Nat} {Q : World → Prop} {A X : Res} (V : In w0 W (star A (star (RR br bd bl y Q) X))) : Q W := (RR_rd V).right.left.get fun S h => rd_get h
/-- Row k of the rows that came in. -/
theorem row_in {A : Option Addr} {n : Nat} {hds : List Value} {rows : List (List V)} (HL : RdL w A n hds rows) {k : Nat} (hk : k < n) : ∃ ad B m cc r, A = some ad ∧ rows[k]? = some r ∧ hds[k]? = some (Value.slice B m cc) ∧ r.length = m ∧ ∀ W, Below w.heap.size w W → W.cell? (ad.add k) = some (.slice B m cc) ∧ RdV W B m r := by
  obtain ⟨ad, B, m, cc, r, e1, e2, e3, e4, e5, e6⟩ := HL.at_ hk
  refine ⟨ad, B, m, cc, r, e1, e3, e4, e6.len, fun W hW => ⟨(hW.cell (by rw [add_block]; exact e2)).trans e5, e6.below hW⟩⟩
/-- Row j of a list of rows. -/
theorem list_at {vb : Option Addr} {cp : Nat} {A X : Res} {rows : List (List V)} (hn : nx = rows.length) (V : In w0 W (star A (star (hdR (.slice vb nx cp) nx hx) X))) (HA : RdAcc W hx rows) {j : Nat} (hj : j < nx) : ∃ ad B m cc r, vb = some ad ∧ rows[j]? = some r ∧ rows.drop j = r :: rows.drop (j + 1) ∧ hx[j]? = some (Value.slice B m cc) ∧ W.cell? (ad.add j) = some (.slice B m cc) ∧ RdV W B m r := by
  have ho := V.right.left.get fun S h => h.1
  obtain ⟨ad, e1, e2⟩ := (Rd1.of_own ho).2.at_ hj
  have hl : j < rows.length := by omega
  obtain ⟨B, m, cc, g1, g2⟩ := HA.2 j _ (List.getElem?_eq_getElem hl)
  exact ⟨ad, B, m, cc, _, e1, List.getElem?_eq_getElem hl, List.drop_eq_getElem_cons hl, g1, e2.trans g1, g2⟩
end
end Go.Proofs.Ytkbapoeilcapfaa

/- What comes in to the laws of spill: lists of rows, lists of bools. -/
namespace Go.Proofs.Ytkbapoeilcapfaa
open Go.RowKit Go.ChangeShapes Go.WideShapes Go.Deep
set_option linter.unusedVariables false
set_option linter.unusedSimpArgs false

section
variable {H : Type} {enc : TypeId × Value → H} {W : World} {base : Nat} {spare : Nat → Bool} {held : Bool}
theorem open_rows_ {fuel : Nat} {cs : List Value} {x : DataW H × List MemPlace} (h : DataW.trod enc Try.prog W base spare held fuel 34 cs = some x) : ∃ A len cap, ∃ x : List Value × List (List V), cs = [.slice A len cap] ∧ RdL W A len x.1 x.2 := by
  rcases open_slice Try.underlying34 h with ⟨hcs, _⟩ | ⟨a, l, c, m, n, D, Pl, hcs, hb, hl, hm, hmm, hx, hi⟩
  · exact ⟨none, 0, 0, ([], []), hcs, ⟨rfl, by omega, fun h => absurd h (by omega)⟩, rfl, by simp⟩
  · have hC : Try.prog.cellsOf 22 = 1 := by kernel_rfl
    have hlm : l ≤ m := by rw [hmm]; split <;> omega
    have hex : ∀ i, ∃ y : (Option Addr × Nat × Nat) × List V, i < l → W.cell? (a.add i) = some (.slice y.1.1 y.1.2.1 y.1.2.2) ∧ RdV W y.1.1 y.1.2.1 y.2 := fun i => by
      by_cases hil : i < l
      · obtain ⟨cs', hc, ht'⟩ := hi i (by omega)
        rw [hC, Nat.mul_one] at hc
        obtain ⟨B, m', c', r, rfl, hr⟩ := rd_row ht'
        obtain ⟨_, _, hat⟩ := World.cells?_some hc
        have h0 := hat 0 (by omega)
        exact ⟨((B, m', c'), r), fun _ => ⟨by simpa [Addr.add] using h0, hr⟩⟩
      · exact ⟨((none, 0, 0), []), fun h => absurd h hil⟩
    obtain ⟨f, hf⟩ := Classical.axiomOfChoice hex
    refine ⟨_, l, c, ((List.range l).map fun i => Value.slice (f i).1.1 (f i).1.2.1 (f i).1.2.2, (List.range l).map fun i => (f i).2), hcs, ⟨by simp, by simp only [maxLen] at hm; omega, fun hn => ⟨a, rfl, ?_, fun j u hu => ?_⟩⟩, by simp, fun i r hr => ?_⟩
    · have := World.block_lt_of_cell? W _ (hf 0 hn).1
      rwa [add_block] at this
    · rw [List.getElem?_map] at hu
      by_cases hil : j < l
      · rw [List.getElem?_range hil] at hu
        rw [(hf j hil).1]
        simpa using hu
      · rw [List.getElem?_eq_none (by simpa using hil)] at hu
        cases hu
    · dsimp only at hr ⊢
      rw [List.getElem?_map] at hr
      by_cases hil : i < l
      · rw [List.getElem?_range hil] at hr
        obtain rfl : (f i).2 = r := by simpa using hr
        exact ⟨_, _, _, by rw [List.getElem?_map, List.getElem?_range hil]; rfl, (hf i hil).2⟩
      · rw [List.getElem?_eq_none (by simpa using hil)] at hr
        cases hr
theorem open_SSValue {A : Option Addr} {len cap : Nat} {d : DataW H} {ps : List MemPlace} (h : DataW.Trod enc Try.prog W base spare held 34 (.slice A len cap) d ps) : ∃ x : List Value × List (List V), RdL W A len x.1 x.2 := by
  obtain ⟨fuel, hf⟩ := h
  obtain ⟨B, l, c, x, e, hr⟩ := open_rows_ hf
  obtain ⟨rfl, rfl, rfl⟩ := slice_cells e
  exact ⟨x, hr⟩
theorem rd_bools {fuel : Nat} {cs : List Value} {x : DataW H × List MemPlace} (h : DataW.trod enc Try.prog W base spare held fuel 45 cs = some x) : ∃ A len cap, ∃ ts : List Bool, cs = [.slice A len cap] ∧ Rd1 W A len (ts.map Value.bool) := by
  rcases open_slice Try.underlying45 h with ⟨hcs, _⟩ | ⟨a, l, c, m, n, D, Pl, hcs, hb, hl, hm, hmm, hx, hi⟩
  · exact ⟨none, 0, 0, [], hcs, rfl, by omega, fun h => absurd h (by omega)⟩
  · have hC : Try.prog.cellsOf 4 = 1 := by kernel_rfl
    have hlm : l ≤ m := by rw [hmm]; split <;> omega
    have hex : ∀ i, ∃ y : Bool, i < l → W.cell? (a.add i) = some (.bool y) := fun i => by
      by_cases hil : i < l
      · obtain ⟨cs', hc, ht'⟩ := hi i (by omega)
        rw [hC, Nat.mul_one] at hc
        obtain ⟨b, rfl, _⟩ := DataW.trod_bool Try.underlying4 ht'
        obtain ⟨_, _, hat⟩ := World.cells?_some hc
        have h0 := hat 0 (by omega)
        exact ⟨b, fun _ => by simpa [Addr.add] using h0⟩
      · exact ⟨false, fun h => absurd h hil⟩
    obtain ⟨f, hf⟩ := Classical.axiomOfChoice hex
    refine ⟨_, l, c, (List.range l).map f, hcs, by simp, by simp only [maxLen] at hm; omega, fun hn => ⟨a, rfl, ?_, fun j u hu => ?_⟩⟩
    · have := World.block_lt_of_cell? W _ (hf 0 hn)
      rwa [add_block] at this
    · rw [List.getElem?_map, List.getElem?_map] at hu
      by_cases hil : j < l
      · rw [List.getElem?_range hil] at hu
        rw [hf j hil]
        simpa using hu
      · rw [List.getElem?_eq_none (by simpa using hil)] at hu
        cases hu
theorem open_SBool {A : Option Addr} {len cap : Nat} {d : DataW H} {ps : List MemPlace} (h : DataW.Trod enc Try.prog W base spare held 45 (.slice A len cap) d ps) : ∃ ts : List Bool, Rd1 W A len (ts.map Value.bool) := by
  obtain ⟨fuel, hf⟩ := h
  obtain ⟨B, l, c, ts, e, hr⟩ := rd_bools hf
  obtain ⟨rfl, rfl, rfl⟩ := slice_cells e
  exact ⟨ts, hr⟩
end
end Go.Proofs.Ytkbapoeilcapfaa

/- SpillTurns: the walk. -/
namespace Go.Proofs.Ytkbapoeilcapfaa
open Go.RowKit Go.Maps
set_option linter.unusedVariables false
set_option linter.unusedSimpArgs false
set_option maxRecDepth 6000

section
variable {w0 w W : World} {bd bl ba bb bp r1 r2 : Nat} {d : Ds} {a b : Ws}
theorem make4 (w : World) : Calls Try.prog 17 #[.int .i64 16384, .slice none 0 0, .int .i64 4] w fun e w' => ∃ bd bl, e = .returned (.tuple #[pv bd bl, .bool true]) ∧ In w w' (star (P4 bd bl Ds.new 0) emp) :=
  make_yes (R := 16384) (G := 4) (F := []) emp_good (In.emp w) (fun W _ => RdI.nil W) (by decide) (by decide) (by decide) (by decide)
theorem T_start (V : In w0 w (star (P4 bd bl Ds.new 0) emp)) : In w0 (w.alloc (pbox bd bl)) (star (P4 bd bl Ds.new 0) (TF w.heap.size bd bl)) := V.pushB (star_good (PL_good _ _ _ _ _ _ _) emp_good) _
theorem T_lives (V : In w0 W (star (P4 bd bl Ds.new 0) (TF bp bd bl))) : Calls Try.prog 13 #[] W fun e w' => e = .returned (.bool true) ∧ PB bp bd bl w' ∧ In w0 w' (star (P4 bd bl Ds.new 0) (TF bp bd bl)) :=
  (slives W).mono fun e w' hh => by
    have V2 := V.below (star_good (PL_good _ _ _ _ _ _ _) (TF_good _ _ _)) hh.2
    have h := V2.right.left.get fun S h => h.1
    exact ⟨hh.1, ⟨cell_of_blk h 0, cell_of_blk h 1, cell_of_blk h 2⟩, V2⟩
theorem T_wa (V : In w0 W (star (P4 bd bl Ds.new 0) (TF bp bd bl))) :
    Calls Try.prog 18 #[pv bd bl] W fun e w' => ∃ ba, e = .returned (.tuple #[wp_ ba, .int .i64 0]) ∧ PB bp bd bl w' ∧ In w0 w' (star (P4 bd bl e1 1) (star (WR ba bd bl x0) (TF bp bd bl))) := by
  have h := writer_c (TF_good _ _ _) V (by decide) (by decide) t_wr1.2.1
  rw [t_wr1.2.2.1, t_wr1.2.2.2] at h
  refine h.mono fun e w' hh => ?_
  obtain ⟨ba, h1, h2⟩ := hh
  have h := h2.right.right.left.get fun S h => h.1
  exact ⟨ba, h1, ⟨cell_of_blk h 0, cell_of_blk h 1, cell_of_blk h 2⟩, h2⟩
theorem T_wb (V : In w0 W (star (P4 bd bl e1 1) (star (WR ba bd bl x0) (TF bp bd bl)))) :
    Calls Try.prog 18 #[pv bd bl] W fun e w' => ∃ bb, e = .returned (.tuple #[wp_ bb, .int .i64 0]) ∧ In w0 w' (W2 bd bl ba bb t_d2 2 x0 t_b (LT bp bd bl (.slice none 0 0) 0 [] (.slice none 0 0) 0 [])) := by
  have h := writer_c (star_good (WR_good _ _ _ _) (TF_good _ _ _)) V (by decide) (by decide) t_wr2.1
  rw [t_wr2.2.1, t_wr2.2.2] at h
  refine h.mono fun e w' hh => ?_
  obtain ⟨bb, h1, h2⟩ := hh
  exact ⟨bb, h1, h2.imp fun S h => star_mono (swap2 h) (fun _ => id) (fun _ h => star_mono h (fun _ => id) (fun _ h => star_mono h (fun _ => id) (fun _ h => nil_in (nil_in h))))⟩
/-- A state of the first loop. -/
structure T1 (w wr : World) (bd bl ba bb bp : Nat) (k : Nat) (d : Ds) (a b : Ws) (vx : Value) (nx : Nat) (hx : List Value) (X : List (List V)) (vy : Value) (ny : Nat) (hy : List Value) (Y : List (List V)) : Prop where
  inn : In w wr (W2 bd bl ba bb d 2 a b (LT bp bd bl vx nx hx vy ny hy))
  st : TSt k d a b X Y
  ex : nx = X.length
  ey : ny = Y.length
  ax : ∀ W, Below w.heap.size w W → RdAcc W hx X
  ay : ∀ W, Below w.heap.size w W → RdAcc W hy Y
section
variable {k : Nat} {vx vy : Value} {nx ny : Nat} {hx hy : List Value} {X Y : List (List V)} {B : Option Addr} {m cc : Nat} {r : List V} {wr : World}
theorem W2_good {h : Int} {X : Res} (g : Good X) : Good (W2 bd bl ba bb d h a b X) := star_good (PL_good _ _ _ _ _ _ _) (star_good (WR_good _ _ _ _) (star_good (WR_good _ _ _ _) g))
theorem T1.may (S : T1 w wr bd bl ba bb bp k d a b vx nx hx X vy ny hy Y) (hr : RdV wr B m r) :
    Calls Try.prog 19 #[.slice B m cc] wr fun e w' => e = .returned (.int .i64 (mayE r)) ∧ T1 w w' bd bl ba bb bp k d a b vx nx hx X vy ny hy Y :=
  (may_walk hr).mono fun e w' hh => ⟨hh.1, S.inn.below (W2_good (LT_good _ _ _ _ _ _ _ _ _)) hh.2, S.st, S.ex, S.ey, S.ax, S.ay⟩
theorem T1.skip (S : T1 w wr bd bl ba bb bp k d a b vx nx hx X vy ny hy Y) : T1 w wr bd bl ba bb bp (k + 1) d a b vx nx hx X vy ny hy Y := ⟨S.inn, S.st.skip, S.ex, S.ey, S.ax, S.ay⟩
theorem T1.putA (S : T1 w wr bd bl ba bb bp k d a b vx nx hx X vy ny hy Y) (hk : k < 200) (hm : mayE r = 0) (HR : ∀ W, Below w.heap.size w W → RdV W B m r) :
    Calls Try.prog 15 #[wp_ ba, .slice B m cc] wr fun e w' => e = .returned (.int .i64 0) ∧ w'.ownsRow 0 22 1 vx nx hx ∧ In w w' (star (hdR vx nx hx) (star (P4 bd bl (a.putD 16384 [] d r) 2) (star (WR ba bd bl (a.putX 16384 [] d r)) (star (WR bb bd bl b) (star (hdR vy ny hy) (TF bp bd bl)))))) ∧
      ∀ W v1, In w W (star (hdR v1 (nx + 1) (hx ++ [.slice B m cc])) (star (P4 bd bl (a.putD 16384 [] d r) 2) (star (WR ba bd bl (a.putX 16384 [] d r)) (star (WR bb bd bl b) (star (hdR vy ny hy) (TF bp bd bl)))))) → T1 w W bd bl ba bb bp (k + 1) (a.putD 16384 [] d r) (a.putX 16384 [] d r) b v1 (nx + 1) (hx ++ [.slice B m cc]) (X ++ [r]) vy ny hy Y := by
  obtain ⟨e0, st⟩ := S.st.putA hk hm
  have h := w_put (cc := cc) (star_good (WR_good _ _ _ _) (LT_good _ _ _ _ _ _ _ _ _)) S.inn (fun W hW => HR W hW.bel) (by have := S.st.le.2; omega) (by have := S.st.na; omega)
  refine h.mono fun e w' hh => ?_
  unfold PutP at hh
  rw [e0] at hh
  have V := hh.2.imp fun S h => pull4 h
  exact ⟨hh.1, V.left.get fun S h => h.1, V, fun W v1 hV => ⟨hV.imp fun S h => push4 h, st, by rw [S.ex]; simp, S.ey, fun W hW => (S.ax W hW).snoc (HR W hW), S.ay⟩⟩
theorem T1.putB (S : T1 w wr bd bl ba bb bp k d a b vx nx hx X vy ny hy Y) (hk : k < 200) (hm : mayE r = 0) (HR : ∀ W, Below w.heap.size w W → RdV W B m r) :
    Calls Try.prog 15 #[wp_ bb, .slice B m cc] wr fun e w' => e = .returned (.int .i64 0) ∧ w'.ownsRow 0 22 1 vy ny hy ∧ In w w' (star (hdR vy ny hy) (star (P4 bd bl (b.putD 16384 [] d r) 2) (star (WR ba bd bl a) (star (WR bb bd bl (b.putX 16384 [] d r)) (star (hdR vx nx hx) (TF bp bd bl)))))) ∧
      ∀ W v1, In w W (star (hdR v1 (ny + 1) (hy ++ [.slice B m cc])) (star (P4 bd bl (b.putD 16384 [] d r) 2) (star (WR ba bd bl a) (star (WR bb bd bl (b.putX 16384 [] d r)) (star (hdR vx nx hx) (TF bp bd bl)))))) → T1 w W bd bl ba bb bp (k + 1) (b.putD 16384 [] d r) a (b.putX 16384 [] d r) vx nx hx X v1 (ny + 1) (hy ++ [.slice B m cc]) (Y ++ [r]) := by
  obtain ⟨e0, st⟩ := S.st.putB hk hm
  have h := w_put (cc := cc) (star_good (WR_good _ _ _ _) (LT_good _ _ _ _ _ _ _ _ _)) (S.inn.imp fun S h => swap2 h) (fun W hW => HR W hW.bel) (by have := S.st.le.2; omega) (by have := S.st.nb; omega)
  refine h.mono fun e w' hh => ?_
  unfold PutP at hh
  rw [e0] at hh
  have V := (hh.2.imp fun S h => swap2 h).imp fun S h => pull5 h
  exact ⟨hh.1, V.left.get fun S h => h.1, V, fun W v1 hV => ⟨hV.imp fun S h => push5 h, st, S.ex, by rw [S.ey]; simp, S.ax, fun W hW => (S.ay W hW).snoc (HR W hW)⟩⟩
/-- Both writers are done. -/
theorem T1.doneA {d1 d2 : Ds} (S : T1 w wr bd bl ba bb bp k d a b vx nx hx X vy ny hy Y) (D : TDn k d d1 d2 a b X Y) :
    Calls Try.prog 8 #[wp_ ba] wr fun e w' => e = .returned (.tuple #[.int .i64 1, .int .i64 0]) ∧ In w w' (W2 bd bl ba bb d1 1 (a.doneX 16384 [] d) b (LT bp bd bl vx nx hx vy ny hy)) := by
  refine (w_done (star_good (WR_good _ _ _ _) (LT_good _ _ _ _ _ _ _ _ _)) S.inn (by have := D.le0; omega)).mono fun e w' hh => ?_
  unfold DoneP at hh
  rw [D.ea, D.na, D.da, D.ha] at hh
  exact hh
theorem doneB {d1 d2 : Ds} {a' : Ws} (D : TDn k d d1 d2 a b X Y) (V : In w wr (W2 bd bl ba bb d1 1 a' b (LT bp bd bl vx nx hx vy ny hy))) :
    Calls Try.prog 8 #[wp_ bb] wr fun e w' => e = .returned (.tuple #[.int .i64 2, .int .i64 0]) ∧ PB bp bd bl w' ∧ In w w' (star (P4 bd bl d2 0) (LT bp bd bl vx nx hx vy ny hy)) := by
  refine (w_done (star_good (WR_good _ _ _ _) (LT_good _ _ _ _ _ _ _ _ _)) (V.imp fun S h => swap2 h) (by have := D.le1; omega)).mono fun e w' hh => ?_
  unfold DoneP at hh
  rw [D.eb, D.nb, D.db, D.hb] at hh
  have V2 := hh.2.drop.drop
  exact ⟨hh.1, LT_cells V2.right, V2⟩
theorem readA {d1 d2 : Ds} (D : TDn k d d1 d2 a b X Y) (V : In w wr (star (P4 bd bl d2 0) (LT bp bd bl vx nx hx vy ny hy))) :
    Calls Try.prog 5 #[pv bd bl, .int .i64 1] wr fun e w' => ∃ r1, e = .returned (.tuple #[rp_ r1, .int .i64 0]) ∧ PB bp bd bl w' ∧ In w w' (star (P4 bd bl d2 1) (star (RR r1 bd bl (rs0 1) (fun _ => True)) (LT bp bd bl vx nx hx vy ny hy))) := by
  obtain ⟨ps, g1, _⟩ := D.hx
  refine (reader_c (LT_good _ _ _ _ _ _ _ _ _) V (by decide) g1 (by decide)).mono fun e w' hh => ?_
  obtain ⟨r1, h1, h2⟩ := hh
  exact ⟨r1, h1, LT_cells h2.right.right, h2⟩
/-- A state of the second loop. -/
structure T2 (w wr : World) (bd bl r1 r2 bp : Nat) (j n : Nat) (d : Ds) (y z : Rs) (Q1 Q2 : World → Prop) (vx : Value) (nx : Nat) (hx : List Value) (X : List (List V)) (vy : Value) (ny : Nat) (hy : List Value) (Y : List (List V)) (N : Int) (p q : Nat) : Prop where
  inn : In w wr (R2 bd bl r1 r2 d 2 y z Q1 Q2 (LT bp bd bl vx nx hx vy ny hy))
  st : RSt N d y z (X.drop p) (Y.drop q)
  le : N ≤ 1000 + 2 * j
theorem readB {d1 d2 : Ds} {n : Nat} (D : TDn k d d1 d2 a b X Y) (hk : k ≤ 200) (V : In w wr (star (P4 bd bl d2 1) (star (RR r1 bd bl (rs0 1) (fun _ => True)) (LT bp bd bl vx nx hx vy ny hy)))) :
    Calls Try.prog 5 #[pv bd bl, .int .i64 2] wr fun e w' => ∃ r2, e = .returned (.tuple #[rp_ r2, .int .i64 0]) ∧ T2 w w' bd bl r1 r2 bp 0 n d2 (rs0 1) (rs0 2) (fun _ => True) (fun _ => True) vx nx hx X vy ny hy Y (k + 4) 0 0 := by
  obtain ⟨ps, g1, _⟩ := D.hy
  refine (reader_c (star_good (RR_good _ _ _ _ _) (LT_good _ _ _ _ _ _ _ _ _)) V (by decide) g1 (by decide)).mono fun e w' hh => ?_
  obtain ⟨r2, h1, h2⟩ := hh
  exact ⟨r2, h1, h2.imp fun S h => swap2 h, ⟨D.sok, Left.new D.hx, Left.new D.hy, D.le, D.fs⟩, by omega⟩
/-- A row of one of the two lists. -/
theorem lx_at {vb : Option Addr} {cp : Nat} (ex : nx = X.length) (ax : ∀ W, Below w.heap.size w W → RdAcc W hx X) {j : Nat} (hj : j < nx) (V : In w W (LT bp bd bl (.slice vb nx cp) nx hx vy ny hy)) :
    ∃ ad B m cc r, vb = some ad ∧ X[j]? = some r ∧ X.drop j = r :: X.drop (j + 1) ∧ ∀ W, In w W (LT bp bd bl (.slice vb nx cp) nx hx vy ny hy) → W.cell? (ad.add j) = some (.slice B m cc) ∧ RdV W B m r := by
  obtain ⟨ad, B, m, cc, r, e1, e2, e3, e4, e5, e6⟩ := list_at (A := emp) ex ((V.imp fun S h => star_emp h).comm) (ax W V.bel) hj
  refine ⟨ad, B, m, cc, r, e1, e2, e3, fun W' hW => ?_⟩
  obtain ⟨ad', B', m', cc', r', g1, g2, g3, g4, g5, g6⟩ := list_at (A := emp) ex ((hW.imp fun S h => star_emp h).comm) (ax W' hW.bel) hj
  rw [e1] at g1
  injection g1 with g1
  subst g1
  rw [e4] at g4
  injection g4 with g4
  injection g4 with q1 q2 q3
  rw [e2] at g2
  injection g2 with g2
  subst q1 q2 q3 g2
  exact ⟨g5, g6⟩
theorem ly_at {vb : Option Addr} {cp : Nat} (ey : ny = Y.length) (ay : ∀ W, Below w.heap.size w W → RdAcc W hy Y) {j : Nat} (hj : j < ny) (V : In w W (LT bp bd bl vx nx hx (.slice vb ny cp) ny hy)) :
    ∃ ad B m cc r, vb = some ad ∧ Y[j]? = some r ∧ Y.drop j = r :: Y.drop (j + 1) ∧ ∀ W, In w W (LT bp bd bl vx nx hx (.slice vb ny cp) ny hy) → W.cell? (ad.add j) = some (.slice B m cc) ∧ RdV W B m r := by
  obtain ⟨ad, B, m, cc, r, e1, e2, e3, e4, e5, e6⟩ := list_at (A := hdR vx nx hx) ey V (ay W V.bel) hj
  refine ⟨ad, B, m, cc, r, e1, e2, e3, fun W' hW => ?_⟩
  obtain ⟨ad', B', m', cc', r', g1, g2, g3, g4, g5, g6⟩ := list_at (A := hdR vx nx hx) ey hW (ay W' hW.bel) hj
  rw [e1] at g1
  injection g1 with g1
  subst g1
  rw [e4] at g4
  injection g4 with g4
  injection g4 with q1 q2 q3
  rw [e2] at g2
  injection g2 with g2
  subst q1 q2 q3 g2
  exact ⟨g5, g6⟩
variable {j n p q : Nat} {y z : Rs} {Q1 Q2 : World → Prop} {N : Int}
theorem T2.one (S : T2 w wr bd bl r1 r2 bp j n d y z Q1 Q2 vx nx hx X vy ny hy Y N p q) (hN : N ≤ 10000) (hp : X.drop p = r :: X.drop (p + 1)) :
    Calls Try.prog 9 #[rp_ r1] wr fun e w' => ∃ B m c, e = .returned (.tuple #[.slice B m c, .bool true, .int .i64 0]) ∧ In w w' (R2 bd bl r1 r2 (y.next [] d).d 2 (y.next [] d).x z (fun W => RdV W B m r) Q2 (LT bp bd bl vx nx hx vy ny hy)) ∧ RSt (N + 1) (y.next [] d).d (y.next [] d).x z (X.drop (p + 1)) (Y.drop q) := by
  have st := S.st
  rw [hp] at st
  obtain ⟨h1, h2⟩ := st.one
  refine (r_next_some (star_good (RR_good _ _ _ _ _) (LT_good _ _ _ _ _ _ _ _ _)) S.inn (by have := st.le.2; omega) h1).mono fun e w' hh => ?_
  obtain ⟨B, m, c, h3, h4⟩ := hh
  exact ⟨B, m, c, h3, RR_imp h4 (fun w q => q.2), h2⟩
theorem T2.none (S : T2 w wr bd bl r1 r2 bp j n d y z Q1 Q2 vx nx hx X vy ny hy Y N p q) (hN : N ≤ 10000) (hp : X.drop p = []) :
    Calls Try.prog 9 #[rp_ r1] wr fun e w' => e = .returned (.tuple #[.slice none 0 0, .bool false, .int .i64 0]) ∧ In w w' (R2 bd bl r1 r2 d 2 y z Q1 Q2 (LT bp bd bl vx nx hx vy ny hy)) := by
  have st := S.st
  rw [hp] at st
  have h1 := st.none
  refine (r_next_none (star_good (RR_good _ _ _ _ _) (LT_good _ _ _ _ _ _ _ _ _)) S.inn (by have := st.le.2; omega) (by rw [h1])).mono fun e w' hh => ?_
  unfold NoneP at hh
  rw [h1] at hh
  exact hh
theorem N2.one (V : In w wr (R2 bd bl r1 r2 d 2 y z Q1 Q2 (LT bp bd bl vx nx hx vy ny hy))) (st : RSt N d y z (X.drop p) (Y.drop q)) (hN : N ≤ 10000) (hp : Y.drop q = r :: Y.drop (q + 1)) :
    Calls Try.prog 9 #[rp_ r2] wr fun e w' => ∃ B m c, e = .returned (.tuple #[.slice B m c, .bool true, .int .i64 0]) ∧ In w w' (R2 bd bl r1 r2 (z.next [] d).d 2 y (z.next [] d).x Q1 (fun W => RdV W B m r) (LT bp bd bl vx nx hx vy ny hy)) ∧ RSt (N + 1) (z.next [] d).d y (z.next [] d).x (X.drop p) (Y.drop (q + 1)) := by
  have st := st.swap
  rw [hp] at st
  obtain ⟨h1, h2⟩ := st.one
  refine (r_next_some (star_good (RR_good _ _ _ _ _) (LT_good _ _ _ _ _ _ _ _ _)) (V.imp fun S h => swap2 h) (by have := st.le.2; omega) h1).mono fun e w' hh => ?_
  obtain ⟨B, m, c, h3, h4⟩ := hh
  exact ⟨B, m, c, h3, (RR_imp h4 (fun w q => q.2)).imp fun S h => swap2 h, h2.swap⟩
theorem N2.none (V : In w wr (R2 bd bl r1 r2 d 2 y z Q1 Q2 (LT bp bd bl vx nx hx vy ny hy))) (st : RSt N d y z (X.drop p) (Y.drop q)) (hN : N ≤ 10000) (hp : Y.drop q = []) :
    Calls Try.prog 9 #[rp_ r2] wr fun e w' => e = .returned (.tuple #[.slice none 0 0, .bool false, .int .i64 0]) ∧ In w w' (R2 bd bl r1 r2 d 2 y z Q1 Q2 (LT bp bd bl vx nx hx vy ny hy)) := by
  have st := st.swap
  rw [hp] at st
  have h1 := st.none
  refine (r_next_none (star_good (RR_good _ _ _ _ _) (LT_good _ _ _ _ _ _ _ _ _)) (V.imp fun S h => swap2 h) (by have := st.le.2; omega) (by rw [h1])).mono fun e w' hh => ?_
  unfold NoneP at hh
  rw [h1] at hh
  exact ⟨hh.1, hh.2.imp fun S h => swap2 h⟩
theorem R2_good {h : Int} : Good (R2 bd bl r1 r2 d h y z Q1 Q2 (LT bp bd bl vx nx hx vy ny hy)) := star_good (PL_good _ _ _ _ _ _ _) (star_good (RR_good _ _ _ _ _) (star_good (RR_good _ _ _ _ _) (LT_good _ _ _ _ _ _ _ _ _)))
/-- Two rows that are the same. -/
theorem T_same {B1 B2 : Option Addr} {m1 m2 c1 c2 : Nat} (V : In w wr (R2 bd bl r1 r2 d 2 y z Q1 Q2 (LT bp bd bl vx nx hx vy ny hy))) (h1 : RdV wr B1 m1 r) (h2 : RdV wr B2 m2 r) :
    Calls Try.prog 20 #[.slice B1 m1 c1, .slice B2 m2 c2] wr fun e w' => e = .returned (.bool true) ∧ In w w' (R2 bd bl r1 r2 d 2 y z Q1 Q2 (LT bp bd bl vx nx hx vy ny hy)) := by
  obtain rfl : m1 = m2 := h1.len.symm.trans h2.len
  exact (same_same (c := c1) (c2 := c2) r h1 h2).mono fun e w' hh => ⟨hh.1, V.below R2_good hh.2⟩
theorem T2.closeA (S : T2 w wr bd bl r1 r2 bp j n d y z Q1 Q2 vx nx hx X vy ny hy Y N p q) :
    Calls Try.prog 12 #[rp_ r1] wr fun e w' => e = .returned (.tuple #[]) ∧ In w w' (R2 bd bl r1 r2 d 1 y.closeX z Q1 Q2 (LT bp bd bl vx nx hx vy ny hy)) := by
  refine (r_close (star_good (RR_good _ _ _ _ _) (LT_good _ _ _ _ _ _ _ _ _)) S.inn).mono fun e w' hh => ?_
  unfold CloseP at hh
  have eh : y.closeH 2 = 1 := by unfold Rs.closeH; rw [if_neg (by rw [S.st.ly.opn]; decide)]; rfl
  rw [eh] at hh
  exact hh
theorem closeB (hz : z.closed = false) (V : In w wr (R2 bd bl r1 r2 d 1 y z Q1 Q2 (LT bp bd bl vx nx hx vy ny hy))) :
    Calls Try.prog 12 #[rp_ r2] wr fun e w' => e = .returned (.tuple #[]) ∧ PB bp bd bl w' ∧ In w w' (star (P4 bd bl d 0) (LT bp bd bl vx nx hx vy ny hy)) := by
  refine (r_close (star_good (RR_good _ _ _ _ _) (LT_good _ _ _ _ _ _ _ _ _)) (V.imp fun S h => swap2 h)).mono fun e w' hh => ?_
  unfold CloseP at hh
  have eh : z.closeH 1 = 0 := by unfold Rs.closeH; rw [if_neg (by rw [hz]; decide)]; rfl
  rw [eh] at hh
  have V2 := hh.2.drop.drop
  exact ⟨hh.1, LT_cells V2.right, V2⟩
theorem T_clean (hf : d.fs.length = 2) (V : In w wr (star (P4 bd bl d 0) (LT bp bd bl vx nx hx vy ny hy))) :
    Calls Try.prog 21 #[pv bd bl, .int .i64 2] wr fun e w' => e = .returned (.bool true) ∧ Below w.heap.size w w' :=
  (clean_walk (LT_good _ _ _ _ _ _ _ _ _) V 2).mono fun e w' hh => by
    rw [hf] at hh
    exact ⟨hh.1, hh.2.bel⟩
end
end
set_option maxHeartbeats 4000000 in
theorem turns_big {w : World} (A : Option Addr) (n c : Nat) (B : Option Addr) (m cc : Nat) (hn : n ≤ 9223372036854775807) (hm : m ≤ 9223372036854775807) (h : 200 < n ∨ m < n) :
    Calls Try.prog 4 #[.slice A n c, .slice B m cc] w fun e w' => e = .returned (.bool true) ∧ Below w.heap.size w w' := by
  have C := Lib.hid slives
  by_cases h1 : 200 < n
  · have h2 : (200 : Int) < n := by omega
    clear h h1
    go_enter Try.func4, Try.ntmps4
    go_wp2_with (go_at_call 13; (with_reducible refine (C.out _).mono ?_); rintro e w1 ⟨rfl, b⟩; have b1 := Lib.hid b; clear b)
    go_ret
    exact ⟨by trivial, b1.out⟩
  · have h2 : ¬ (200 : Int) < n := by omega
    have h3 : m < n := by omega
    clear h h1
    go_enter Try.func4, Try.ntmps4
    go_wp2_with (go_at_call 13; (with_reducible refine (C.out _).mono ?_); rintro e w1 ⟨rfl, b⟩; have b1 := Lib.hid b; clear b)
    go_ret
    exact ⟨by trivial, b1.out⟩
set_option maxHeartbeats 8000000 in
theorem turns_main {w : World} (A : Option Addr) (n c : Nat) (hds : List Value) (rows : List (List V)) (HL : RdL w A n hds rows) (B : Option Addr) (m cc : Nat) (ts : List Bool) (HT : Rd1 w B m (ts.map Value.bool)) (hn : n ≤ 200) (hnm : n ≤ m) :
    Calls Try.prog 4 #[.slice A n c, .slice B m cc] w fun e w' => e = .returned (.bool true) ∧ Below w.heap.size w w' := by
  have hm64 := HT.2.1
  have C0 := Lib.hid (make4 w)
  have hd1 : ¬ (200 : Int) < n := by omega
  have hd2 : ¬ m < n := by omega
  have HLh := Lib.hid HL
  have HTh := Lib.hid HT
  have T0 := Lib.hid TSt.start
  clear HL HT
  go_enter Try.func4, Try.ntmps4
  go_wp2_with (first
    | (go_at_call 17; (with_reducible refine C0.out.mono ?_); rintro e w1 ⟨bd, bl, rfl, V⟩; have V1 := Lib.hid (T_start V); clear V C0)
    | (go_at_call 13; (with_reducible refine (T_lives V1.out).mono ?_); rintro e w2 ⟨rfl, ⟨k0, k1, k2⟩, V⟩; have V2 := Lib.hid V; clear V V1)
    | (go_at_call 18; (with_reducible refine (T_wa V2.out).mono ?_); rintro e w3 ⟨ba, rfl, ⟨l0, l1, l2⟩, V⟩; have V3 := Lib.hid V; clear V V2)
    | (go_at_call 18; (with_reducible refine (T_wb V3.out).mono ?_); rintro e w4 ⟨bb, rfl, V⟩; have V4 := Lib.hid V; clear V V3))
  go_loopw [11, 12, 13] (fun ux uy i wr => ∃ (k : Nat) (d : Ds) (a b : Ws) (vx : Option Addr) (nx cx : Nat) (hx : List Value) (X : List (List V)) (vy : Option Addr) (ny cy : Nat) (hy : List Value) (Y : List (List V)), k ≤ n ∧ ux = .slice vx nx cx ∧ uy = .slice vy ny cy ∧ i = .int .i64 (k : Int) ∧ Hid (T1 w wr bd bl ba bb w1.heap.size k d a b (.slice vx nx cx) nx hx X (.slice vy ny cy) ny hy Y)) (fun _ _ i _ => n - (intOf i).toNat)
  case atStart => exact ⟨0, _, _, _, _, _, _, _, _, _, _, _, _, _, by omega, rfl, rfl, rfl, ⟨V4.out, T0.out, rfl, rfl, fun W _ => ⟨rfl, fun i r hr => by simp at hr⟩, fun W _ => ⟨rfl, fun i r hr => by simp at hr⟩⟩⟩
  case round =>
    clear V4 T0
    obtain ⟨k, d, a, b, vx, nx, cx, hx, X, vy, ny, cy, hy, Y, hk, rfl, rfl, rfl, HS⟩ := hrel
    have hnx : nx ≤ 200 := by have := HS.out.ex; have := HS.out.st.lx; omega
    have hny : ny ≤ 200 := by have := HS.out.ey; have := HS.out.st.ly; omega
    by_cases hlt : k < n
    · obtain ⟨ad, Bk, mk, ck, r, rfl, hr, hhd, hrl, hst⟩ := row_in HLh.out hlt
      have HSt := Lib.hid hst
      have hcell := (hst _ HS.out.inn.bel).1
      have hmk : mk ≤ 9223372036854775807 := (hst _ HS.out.inn.bel).2.max
      obtain ⟨adt, rfl, htc⟩ := HTh.out.at_ (show k < m by omega)
      obtain ⟨t, htk⟩ : ∃ t, ts[k]? = some t := ⟨_, List.getElem?_eq_getElem (by have := HTh.out.1; simp at this; omega)⟩
      have HTc := Lib.hid (fun W (hb : Below w.heap.size w W) => show W.cell? (adt.add k) = some (.bool t) from by
        obtain ⟨ad', e', hc'⟩ := (HTh.out.below hb).at_ (show k < m by omega)
        injection e' with e'
        subst e'
        rw [hc', List.getElem?_map, htk]
        rfl)
      by_cases hbig : 60 < mk
      · have hb1 : (60 : Int) < mk := by omega
        clear hst hbig htc htk hr hhd hrl
        go_wp2
        go_roundw
        case measure => simp [intOf]; omega
        case rel => exact ⟨k + 1, _, _, _, _, _, _, _, _, _, _, _, _, _, by omega, rfl, rfl, by go_num, Lib.hid HS.out.skip⟩
      · have hb1 : ¬ (60 : Int) < mk := by omega
        have CM := HS.out.may (cc := ck) (hst _ HS.out.inn.bel).2
        by_cases hm : mayE r = 0
        · rw [hm] at CM
          have CM := Lib.hid CM
          cases t with
          | true =>
            have CP := Lib.hid (fun W (S : T1 w W bd bl ba bb w1.heap.size k d a b (.slice vx nx cx) nx hx X (.slice vy ny cy) ny hy Y) => S.putA (cc := ck) (by omega) hm (fun W hW => (hst W hW).2))
            clear hst hbig htc htk hr hhd hrl hm HS
            go_wp2_with (first
              | (go_at_call 19; (with_reducible refine CM.out.mono ?_); rintro e w5 ⟨rfl, S⟩; have hc5 := (HSt.out _ S.inn.bel).1; have ht5 := HTc.out _ S.inn.bel; have S5 := Lib.hid S; clear S CM)
              | (go_at_call 15; (with_reducible refine (CP.out _ S5.out).mono ?_); rintro e w6 ⟨rfl, HO, V, HE⟩; have hc6 := (HSt.out _ V.bel).1; have HO := Lib.hid HO; have V6 := Lib.hid V; have HE := Lib.hid HE; clear V CP S5)
              | (at_builtin; refine wp_append1 (W := w6) 0 rfl (.tmp 96) (.tmp 101) 34 22 (.slice none 0 0) 1 24 rfl Try.underlying34 info_L rfl (by omega) (by omega) (.slice vx nx cx) nx _ [.slice Bk mk ck] rfl rfl (by simp) rfl (by simp [Value.oneCell']) HO.out (by omega) (by omega) ?_; intro v1 w7 h3 t3 hor; obtain ⟨B3, c3, rfl⟩ := own_slice h3; have S7 := Lib.hid (HE.out _ _ (V6.out.grow (star_good (PL_good _ _ _ _ _ _ _) (star_good (WR_good _ _ _ _) (star_good (WR_good _ _ _ _) (star_good (rowR_good _ _ _ _ _) (TF_good _ _ _))))) h3 t3 hor)); clear V6 HO h3 t3 hor HE))
            go_roundw
            case measure => simp [intOf]; omega
            case rel => exact ⟨k + 1, _, _, _, _, _, _, _, _, _, _, _, _, _, by omega, rfl, rfl, by go_num, S7⟩
          | false =>
            have CP := Lib.hid (fun W (S : T1 w W bd bl ba bb w1.heap.size k d a b (.slice vx nx cx) nx hx X (.slice vy ny cy) ny hy Y) => S.putB (cc := ck) (by omega) hm (fun W hW => (hst W hW).2))
            clear hst hbig htc htk hr hhd hrl hm HS
            go_wp2_with (first
              | (go_at_call 19; (with_reducible refine CM.out.mono ?_); rintro e w5 ⟨rfl, S⟩; have hc5 := (HSt.out _ S.inn.bel).1; have ht5 := HTc.out _ S.inn.bel; have S5 := Lib.hid S; clear S CM)
              | (go_at_call 15; (with_reducible refine (CP.out _ S5.out).mono ?_); rintro e w6 ⟨rfl, HO, V, HE⟩; have hc6 := (HSt.out _ V.bel).1; have HO := Lib.hid HO; have V6 := Lib.hid V; have HE := Lib.hid HE; clear V CP S5)
              | (at_builtin; refine wp_append1 (W := w6) 0 rfl (.tmp 109) (.tmp 114) 34 22 (.slice none 0 0) 1 24 rfl Try.underlying34 info_L rfl (by omega) (by omega) (.slice vy ny cy) ny _ [.slice Bk mk ck] rfl rfl (by simp) rfl (by simp [Value.oneCell']) HO.out (by omega) (by omega) ?_; intro v1 w7 h3 t3 hor; obtain ⟨B3, c3, rfl⟩ := own_slice h3; have S7 := Lib.hid (HE.out _ _ (V6.out.grow (star_good (PL_good _ _ _ _ _ _ _) (star_good (WR_good _ _ _ _) (star_good (WR_good _ _ _ _) (star_good (rowR_good _ _ _ _ _) (TF_good _ _ _))))) h3 t3 hor)); clear V6 HO h3 t3 hor HE))
            go_roundw
            case measure => simp [intOf]; omega
            case rel => exact ⟨k + 1, _, _, _, _, _, _, _, _, _, _, _, _, _, by omega, rfl, rfl, by go_num, S7⟩
        · have hm1 : (mayE r != 0) = true := by simpa using hm
          have CM := Lib.hid CM
          obtain ⟨E, hE⟩ : ∃ E, E = mayE r := ⟨_, rfl⟩
          rw [← hE] at CM hm1
          clear hst hbig htc htk hr hhd hrl hm hE HS
          go_wp2_with (go_at_call 19; (with_reducible refine CM.out.mono ?_); rintro e w5 ⟨rfl, S⟩; have S5 := Lib.hid S; clear S CM)
          go_roundw
          case measure => simp [intOf]; omega
          case rel => exact ⟨k + 1, _, _, _, _, _, _, _, _, _, _, _, _, _, by omega, rfl, rfl, by go_num, Lib.hid S5.out.skip⟩
    · have hkn : k = n := by omega
      subst hkn
      obtain ⟨d1, d2, D⟩ := HS.out.st.done hn
      have EX := Lib.hid HS.out.ex
      have EY := Lib.hid HS.out.ey
      have AX := Lib.hid HS.out.ax
      have AY := Lib.hid HS.out.ay
      have HD := Lib.hid D
      have CA := Lib.hid (HS.out.doneA D)
      clear D HS
      go_wp2_with (first
        | (go_at_call 8; (with_reducible refine CA.out.mono ?_); rintro e w8 ⟨rfl, V⟩; have V8 := Lib.hid V; clear V CA)
        | (go_at_call 8; (with_reducible refine (doneB HD.out V8.out).mono ?_); rintro e w9 ⟨rfl, ⟨k0, k1, k2⟩, V⟩; have V9 := Lib.hid V; clear V V8)
        | (go_at_call 5; (with_reducible refine (readA HD.out V9.out).mono ?_); rintro e w10 ⟨r1, rfl, ⟨l0, l1, l2⟩, V⟩; have V10 := Lib.hid V; clear V V9)
        | (go_at_call 5; (with_reducible refine (readB (n := k) HD.out hn V10.out).mono ?_); rintro e w11 ⟨r2, rfl, V⟩; have V11 := Lib.hid V; clear V V10))
      go_loopw [22] (fun i wr => ∃ (j : Nat) (d : Ds) (y z : Rs) (Q1 Q2 : World → Prop) (N : Int), j ≤ k + 1 ∧ i = .int .i64 (j : Int) ∧ Hid (T2 w wr bd bl r1 r2 w1.heap.size j k d y z Q1 Q2 (.slice vx nx cx) nx hx X (.slice vy ny cy) ny hy Y N j j)) (fun i _ => k + 1 - (intOf i).toNat)
      case atStart => exact ⟨0, _, _, _, _, _, _, by omega, rfl, V11⟩
      case round =>
        clear V11
        obtain ⟨j, d, y, z, Q1, Q2, N, hj, rfl, HS⟩ := hrel
        have hN : N ≤ 10000 := by have := HS.out.le; omega
        have hN1 : N + 1 ≤ 10000 := by have := HS.out.le; omega
        by_cases hjk : j ≤ k
        · have hjk1 : decide (j ≤ k) = true := by simpa using hjk
          by_cases hjx : j < nx
          · by_cases hjy : j < ny
            · obtain ⟨adx, BX, mX, cX, rX, rfl, hrx, hdx, hsx⟩ := lx_at EX.out AX.out hjx HS.out.inn.right.right.right
              have C1 := Lib.hid (HS.out.one hN hdx)
              have dx : decide (j < nx) = true := by simpa using hjx
              obtain ⟨ady, BY, mY, cY, rY, rfl, hry, hdy, hsy⟩ := ly_at EY.out AY.out hjy HS.out.inn.right.right.right
              have dy : decide (j < ny) = true := by simpa using hjy
              have HX := Lib.hid hsx
              have HY := Lib.hid hsy
              have HDX := Lib.hid hdx
              have HDY := Lib.hid hdy
              have ST := Lib.hid HS.out.st
              have HNle := Lib.hid HS.out.le
              clear hdx hdy HS hsx hrx hsy hry
              go_wp2_with (first
                                | (go_at_call 9; (with_reducible refine C1.out.mono ?_); rintro e w12 ⟨B1, m1, c1, rfl, V, st⟩; have U1 := Lib.hid (And.intro V st); clear V st C1)
                                | (go_at_call 9; (with_reducible refine (N2.one U1.out.1 U1.out.2 hN1 HDY.out).mono ?_); rintro e w13 ⟨B2, m2, c2, rfl, V, st⟩; have U2 := Lib.hid (And.intro V st); clear V st U1; have hcx := (HX.out _ U2.out.1.right.right.right).1)
                                | (go_at_call 20; (with_reducible refine (T_same U2.out.1 (RR_q U2.out.1) (HX.out _ U2.out.1.right.right.right).2).mono ?_); rintro e w14 ⟨rfl, V⟩; have U3 := Lib.hid V; clear V; have hcy := (HY.out _ U3.out.right.right.right).1; have tok3 := Lib.hid U2.out.2; clear U2)
                                | (go_at_call 20; (with_reducible refine (T_same U3.out (RR_q (U3.out.imp fun S h => swap2 h)) (HY.out _ U3.out.right.right.right).2).mono ?_); rintro e w15 ⟨rfl, V⟩; have U4 := Lib.hid V; clear V))
              go_roundw
              case measure => simp [intOf]; omega
              case rel =>
                have st5 := tok3.out
                exact ⟨j + 1, _, _, _, _, _, _, by omega, by go_num, ⟨U4.out, st5, by have := HNle.out; omega⟩⟩
            · obtain ⟨adx, BX, mX, cX, rX, rfl, hrx, hdx, hsx⟩ := lx_at EX.out AX.out hjx HS.out.inn.right.right.right
              have C1 := Lib.hid (HS.out.one hN hdx)
              have dx : decide (j < nx) = true := by simpa using hjx
              have hdy : Y.drop j = [] := List.drop_of_length_le (by have := EY.out; omega)
              have hdy' : Y.drop (j + 1) = [] := List.drop_of_length_le (by have := EY.out; omega)
              have dy : decide (j < ny) = false := by simpa using hjy
              have HX := Lib.hid hsx
              have HDX := Lib.hid hdx
              have HDY := Lib.hid hdy
              have HDY2 := Lib.hid hdy'
              have ST := Lib.hid HS.out.st
              have HNle := Lib.hid HS.out.le
              clear hdx hdy HS hsx hrx hdy'
              go_wp2_with (first
                                | (go_at_call 9; (with_reducible refine C1.out.mono ?_); rintro e w12 ⟨B1, m1, c1, rfl, V, st⟩; have U1 := Lib.hid (And.intro V st); clear V st C1)
                                | (go_at_call 9; (with_reducible refine (N2.none U1.out.1 U1.out.2 hN1 HDY.out).mono ?_); rintro e w13 ⟨rfl, V⟩; have U2 := Lib.hid (And.intro V U1.out.2); clear V U1; have hcx := (HX.out _ U2.out.1.right.right.right).1)
                                | (go_at_call 20; (with_reducible refine (T_same U2.out.1 (RR_q U2.out.1) (HX.out _ U2.out.1.right.right.right).2).mono ?_); rintro e w14 ⟨rfl, V⟩; have U3 := Lib.hid V; clear V; have tok3 := Lib.hid U2.out.2; clear U2))
              go_roundw
              case measure => simp [intOf]; omega
              case rel =>
                have st5 := tok3.out
                rw [HDY.out, ← HDY2.out] at st5
                exact ⟨j + 1, _, _, _, _, _, _, by omega, by go_num, ⟨U3.out, st5, by have := HNle.out; omega⟩⟩
          · by_cases hjy : j < ny
            · have hdx : X.drop j = [] := List.drop_of_length_le (by have := EX.out; omega)
              have hdx' : X.drop (j + 1) = [] := List.drop_of_length_le (by have := EX.out; omega)
              have C1 := Lib.hid (HS.out.none hN hdx)
              have dx : decide (j < nx) = false := by simpa using hjx
              obtain ⟨ady, BY, mY, cY, rY, rfl, hry, hdy, hsy⟩ := ly_at EY.out AY.out hjy HS.out.inn.right.right.right
              have dy : decide (j < ny) = true := by simpa using hjy
              have HY := Lib.hid hsy
              have HDX := Lib.hid hdx
              have HDY := Lib.hid hdy
              have HDX2 := Lib.hid hdx'
              have ST := Lib.hid HS.out.st
              have HNle := Lib.hid HS.out.le
              clear hdx hdy HS hdx' hsy hry
              go_wp2_with (first
                                | (go_at_call 9; (with_reducible refine C1.out.mono ?_); rintro e w12 ⟨rfl, V⟩; have U1 := Lib.hid (And.intro V ST.out); clear V C1)
                                | (go_at_call 9; (with_reducible refine (N2.one U1.out.1 U1.out.2 hN HDY.out).mono ?_); rintro e w13 ⟨B2, m2, c2, rfl, V, st⟩; have U2 := Lib.hid (And.intro V st); clear V st U1; have hcy := (HY.out _ U2.out.1.right.right.right).1)
                                | (go_at_call 20; (with_reducible refine (T_same U2.out.1 (RR_q (U2.out.1.imp fun S h => swap2 h)) (HY.out _ U2.out.1.right.right.right).2).mono ?_); rintro e w15 ⟨rfl, V⟩; have U4 := Lib.hid V; clear V))
              go_roundw
              case measure => simp [intOf]; omega
              case rel =>
                have st5 := U2.out.2
                rw [HDX.out, ← HDX2.out] at st5
                exact ⟨j + 1, _, _, _, _, _, _, by omega, by go_num, ⟨U4.out, st5, by have := HNle.out; omega⟩⟩
            · have hdx : X.drop j = [] := List.drop_of_length_le (by have := EX.out; omega)
              have hdx' : X.drop (j + 1) = [] := List.drop_of_length_le (by have := EX.out; omega)
              have C1 := Lib.hid (HS.out.none hN hdx)
              have dx : decide (j < nx) = false := by simpa using hjx
              have hdy : Y.drop j = [] := List.drop_of_length_le (by have := EY.out; omega)
              have hdy' : Y.drop (j + 1) = [] := List.drop_of_length_le (by have := EY.out; omega)
              have dy : decide (j < ny) = false := by simpa using hjy
              have HDX := Lib.hid hdx
              have HDY := Lib.hid hdy
              have HDX2 := Lib.hid hdx'
              have HDY2 := Lib.hid hdy'
              have ST := Lib.hid HS.out.st
              have HNle := Lib.hid HS.out.le
              clear hdx hdy HS hdx' hdy'
              go_wp2_with (first
                                | (go_at_call 9; (with_reducible refine C1.out.mono ?_); rintro e w12 ⟨rfl, V⟩; have U1 := Lib.hid (And.intro V ST.out); clear V C1)
                                | (go_at_call 9; (with_reducible refine (N2.none U1.out.1 U1.out.2 hN HDY.out).mono ?_); rintro e w13 ⟨rfl, V⟩; have U2 := Lib.hid (And.intro V U1.out.2); clear V U1))
              go_roundw
              case measure => simp [intOf]; omega
              case rel =>
                have st5 := U2.out.2
                rw [HDX.out, ← HDX2.out] at st5
                rw [HDY.out, ← HDY2.out] at st5
                exact ⟨j + 1, _, _, _, _, _, _, by omega, by go_num, ⟨U2.out.1, st5, by have := HNle.out; omega⟩⟩
        · have hjk1 : decide (j ≤ k) = false := by simpa using hjk
          have CC := Lib.hid HS.out.closeA
          have HZ := Lib.hid HS.out.st.lz.opn
          have HF := Lib.hid HS.out.st.fs
          clear HS
          go_wp2_with (first
            | (go_at_call 12; (with_reducible refine CC.out.mono ?_); rintro e w16 ⟨rfl, V⟩; have V16 := Lib.hid V; clear V CC)
            | (go_at_call 12; (with_reducible refine (closeB HZ.out V16.out).mono ?_); rintro e w17 ⟨rfl, ⟨m0, m1, m2⟩, V⟩; have V17 := Lib.hid V; clear V V16)
            | (go_at_call 21; (with_reducible refine (T_clean HF.out V17.out).mono ?_); rintro e w18 ⟨rfl, V⟩; have V18 := Lib.hid V; clear V V17))
          go_ret
          exact ⟨by trivial, V18.out⟩
theorem SpillTurns.walk {w : World} (A : Option Addr) (n c : Nat) (x : List Value × List (List V)) (hl : RdL w A n x.1 x.2) (B : Option Addr) (m cc : Nat) (ts : List Bool) (ht : Rd1 w B m (ts.map Value.bool)) :
    Calls Try.prog 4 #[.slice A n c, .slice B m cc] w fun e w' => e = .returned (.bool true) ∧ Below w.heap.size w w' := by
  by_cases h : 200 < n ∨ m < n
  · exact turns_big A n c B m cc hl.hd.2.1 ht.2.1 h
  · exact turns_main A n c x.1 x.2 hl B m cc ts ht (by omega) (by omega)
end Go.Proofs.Ytkbapoeilcapfaa
