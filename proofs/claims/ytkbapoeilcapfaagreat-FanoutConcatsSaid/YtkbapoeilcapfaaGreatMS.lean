/- FanoutConcats: files one behind the other. -/
import Derived.Test.YtkbapoeilcapfaaGreatMR
/- FanoutConcats: lists of lists of rows; append of many; the law as plain data. -/
namespace Go.Proofs.YtkbapoeilcapfaaGreat
open Go.RowKit Go.Maps Go.ChangeShapes Go.WideShapes Go.Deep
set_option linter.unusedVariables false
set_option linter.unusedSimpArgs false
set_option maxRecDepth 6000

section
variable {P : Program} {ops : Array Oper} {o : Oper} {a : Act} {K : Act → World → Prop} {Q : Exit → Act → World → Prop}
theorem op_appendB {W : World} (base : Nat) (s x : Operand) (t e : TypeId) (z : Value) (bytes : Nat)
    (ho : o.op = .call { callee := .builtin .append, args := #[s, x], argTypes := #[t, t] })
    (ht : P.underlying t = some (.slice e)) (hinfo : (P.info? e).map (fun i => (i.zero, i.size, i.bytes)) = some (some z, 1, bytes)) (hz : z.cells.size = 1) (hb0 : 0 < bytes)
    (v : Value) (n : Nat) (xs : List Value) (hs : a.eval s = v) (A : Option Addr) (m c : Nat) (ys : List Value) (hx : a.eval x = .slice A m c) (hys : ys.length = m)
    (hr : 0 < m → ∃ ad, A = some ad ∧ ∀ j u, ys[j]? = some u → W.cell? (ad.add j) = some u) (h1 : ∀ u ∈ ys, u.oneCell' = true)
    (HO : W.ownsRow base e 1 v n xs) (hbase : base ≤ W.heap.size) (hl : (n + m) * bytes ≤ 140737488355328)
    (h : ∀ v1 w1, w1.ownsRow base e 1 v1 (n + m) (xs ++ ys) → Turn (fun k => v.ownBlock = some k) W w1 → (v1.ownBlock = v.ownBlock ∨ ∃ b, v1.ownBlock = some b ∧ W.heap.size ≤ b) → K (a.put o.dst v1) w1) : o.wp P a W K Q := by
  obtain ⟨i0, hi, hz0, hz1, hz2⟩ := info_parts hinfo
  have hlen : n + m ≤ 140737488355328 := Nat.le_trans (Nat.le_mul_of_pos_right _ hb0) hl
  have key : ∀ (ad : Addr), A = some ad → (∀ j u, ys[j]? = some u → W.cell? (ad.add j) = some u) → o.wp P a W K Q := by
    rintro ad rfl hc
    obtain ⟨v1, w1, hrun, hown, hg, _, hat⟩ := run_append_own_at (P := P) W base t o.type e i0 z 1 bytes ht hi hz0 hz1 hz2 hz (by omega) v n xs HO ad m c ys (by rw [hys, Nat.mul_one]) hc h1 (by simp only [maxLen]; omega) hl hbase
    unfold Oper.wp execOp
    simp only [ho, resolve, invoke, builtin, Sem.run_bind, Sem.run_pure, Result.andThen_ok, List.map_toArray, List.map_cons, List.map_nil, hs, hx, hrun]
    refine h v1 w1 hown ((Turn.refl _ W).grown hg (fun k hk => .inl hk)) ?_
    rcases hat with hat | hat
    · exact .inl hat
    · exact .inr ⟨_, hat, Nat.le_refl _⟩
  rcases Nat.eq_zero_or_pos m with h0 | h0
  · subst h0
    obtain rfl : ys = [] := List.eq_nil_of_length_eq_zero hys
    rcases A with _ | ad
    · have hrun := run_append_nilsrc (P := P) W base t o.type e i0 1 ht hi v n xs HO c
      unfold Oper.wp execOp
      simp only [ho, resolve, invoke, builtin, Sem.run_bind, Sem.run_pure, Result.andThen_ok, List.map_toArray, List.map_cons, List.map_nil, hs, hx, hrun]
      exact h _ _ (by simpa using HO) (Turn.refl _ _) (.inl rfl)
    · exact key ad rfl (by simp)
  · obtain ⟨ad, e, hc⟩ := hr h0
    exact key ad e hc
theorem wp_appendB {W : World} {rest : List Oper} (base : Nat) (hgd : o.guard = none) (s x : Operand) (t e : TypeId) (z : Value) (bytes : Nat)
    (ho : o.op = .call { callee := .builtin .append, args := #[s, x], argTypes := #[t, t] })
    (ht : P.underlying t = some (.slice e)) (hinfo : (P.info? e).map (fun i => (i.zero, i.size, i.bytes)) = some (some z, 1, bytes)) (hz : z.cells.size = 1) (hb0 : 0 < bytes)
    (v : Value) (n : Nat) (xs : List Value) (hs : a.eval s = v) (A : Option Addr) (m c : Nat) (ys : List Value) (hx : a.eval x = .slice A m c) (hr : Rd1 W A m ys) (h1 : ∀ u ∈ ys, u.oneCell' = true)
    (HO : W.ownsRow base e 1 v n xs) (hbase : base ≤ W.heap.size) (hl : (n + m) * bytes ≤ 140737488355328)
    (h : ∀ v1 w1, w1.ownsRow base e 1 v1 (n + m) (xs ++ ys) → Turn (fun k => v.ownBlock = some k) W w1 → (v1.ownBlock = v.ownBlock ∨ ∃ b, v1.ownBlock = some b ∧ W.heap.size ≤ b) → wpList P ops Q rest (a.put o.dst v1) w1) : wpList P ops Q (o :: rest) a W :=
  wpList_plain hgd fun _ hK => op_appendB base s x t e z bytes ho ht hinfo hz hb0 v n xs hs A m c ys hx hr.1 (fun h => by obtain ⟨ad, e, _, hc⟩ := hr.2.2 h; exact ⟨ad, e, hc⟩) h1 HO hbase hl fun v1 w1 h1 h2 h3 => hK _ _ (h v1 w1 h1 h2 h3)
end
/-- A list of rows that comes in. -/
structure Lx where
  A : Option Addr
  n : Nat
  c : Nat
  hds : List Value
  rows : Rows
def RdLL (w : World) (A : Option Addr) (n : Nat) (ls : List Lx) : Prop :=
  ls.length = n ∧ n ≤ 9223372036854775807 ∧ (0 < n → ∃ ad, A = some ad ∧ ad.block < w.heap.size ∧ ∀ (i : Nat) (x : Lx), ls[i]? = some x → w.cell? (ad.add i) = some (.slice x.A x.n x.c)) ∧ ∀ (i : Nat) (x : Lx), ls[i]? = some x → RdL w x.A x.n x.hds x.rows
theorem RdLL.at_ {w : World} {A : Option Addr} {n : Nat} {ls : List Lx} (h : RdLL w A n ls) {k : Nat} (hk : k < n) : ∃ (ad : Addr) (x : Lx), A = some ad ∧ ad.block < w.heap.size ∧ ls[k]? = some x ∧ w.cell? (ad.add k) = some (.slice x.A x.n x.c) ∧ RdL w x.A x.n x.hds x.rows := by
  obtain ⟨ad, e, hb, hc⟩ := h.2.2.1 (by omega)
  have hl : k < ls.length := by rw [h.1]; exact hk
  have hx := List.getElem?_eq_getElem hl
  exact ⟨ad, ls[k], e, hb, hx, hc k _ hx, h.2.2.2 k _ hx⟩
section
variable {H : Type} {enc : TypeId × Value → H} {W : World} {base : Nat} {spare : Nat → Bool} {held : Bool}
theorem open_SSSValue {A : Option Addr} {len cap : Nat} {d : DataW H} {ps : List MemPlace} (h : DataW.Trod enc Tryz.prog W base spare held 47 (.slice A len cap) d ps) : ∃ ls : List Lx, RdLL W A len ls := by
  obtain ⟨fuel, hf⟩ := h
  rcases open_slice Tryz.underlying47 hf with ⟨hcs, _⟩ | ⟨a, l, c, m, n, D, Pl, hcs, hb, hl, hm, hmm, hx, hi⟩
  · obtain ⟨rfl, rfl, rfl⟩ := slice_cells hcs
    exact ⟨[], rfl, by omega, fun h => absurd h (by omega), by simp⟩
  · obtain ⟨rfl, rfl, rfl⟩ := slice_cells hcs
    have hC : Tryz.prog.cellsOf 23 = 1 := by kernel_rfl
    have hlm : len ≤ m := by rw [hmm]; split <;> omega
    have hex : ∀ i, ∃ y : Lx, i < len → W.cell? (a.add i) = some (.slice y.A y.n y.c) ∧ RdL W y.A y.n y.hds y.rows := fun i => by
      by_cases hil : i < len
      · obtain ⟨cs', hc, ht'⟩ := hi i (by omega)
        rw [hC, Nat.mul_one] at hc
        obtain ⟨B, m', c', x, rfl, hr⟩ := open_rows_ ht'
        obtain ⟨_, _, hat⟩ := World.cells?_some hc
        have h0 := hat 0 (by omega)
        exact ⟨⟨B, m', c', x.1, x.2⟩, fun _ => ⟨by simpa [Addr.add] using h0, hr⟩⟩
      · exact ⟨⟨none, 0, 0, [], []⟩, fun h => absurd h hil⟩
    obtain ⟨f, hf⟩ := Classical.axiomOfChoice hex
    have get : ∀ i x, ((List.range len).map f)[i]? = some x → i < len ∧ f i = x := fun i x hx => by
      rw [List.getElem?_map] at hx
      by_cases hil : i < len
      · rw [List.getElem?_range hil] at hx
        exact ⟨hil, by simpa using hx⟩
      · rw [List.getElem?_eq_none (by simpa using hil)] at hx
        cases hx
    refine ⟨(List.range len).map f, by simp, by simp only [maxLen] at hm; omega, fun hn => ⟨a, rfl, ?_, fun i x hx => ?_⟩, fun i x hx => ?_⟩
    · have := World.block_lt_of_cell? W _ (hf 0 hn).1
      rwa [add_block] at this
    · obtain ⟨h1, h2⟩ := get i x hx
      rw [← h2]
      exact (hf i h1).1
    · obtain ⟨h1, h2⟩ := get i x hx
      rw [← h2]
      exact (hf i h1).2
end
def filesN (k : Nat) : List Int := (List.range k).map fun i => ((i + 1 : Nat) : Int)
theorem filesN_snoc (k : Nat) : filesN (k + 1) = filesN k ++ [((k + 1 : Nat) : Int)] := by unfold filesN; rw [List.range_succ, List.map_append]; rfl
theorem filesN_len (k : Nat) : (filesN k).length = k := by simp [filesN]
theorem filesN_mem {k : Nat} {n : Int} : n ∈ filesN k ↔ 1 ≤ n ∧ n ≤ k := by
  unfold filesN
  rw [List.mem_map]
  constructor
  · rintro ⟨i, hi, rfl⟩
    have := List.mem_range.1 hi
    omega
  · rintro ⟨h1, h2⟩
    exact ⟨(n - 1).toNat, List.mem_range.2 (by omega), by omega⟩
theorem filesN_get {k i : Nat} (hi : i < k) : (filesN k)[i]? = some ((i + 1 : Nat) : Int) := by
  unfold filesN
  rw [List.getElem?_map, List.getElem?_range hi]
  rfl
/-- What the law's loop has found of the widest. -/
def mostN (gone : Int) : List Lx → Nat → Int
  | _, 0 => 0
  | ls, k + 1 => match ls[k]? with
    | none => mostN gone ls k
    | some x => if mostN gone ls k < ((fillG x.rows).length : Int) ∧ (k : Int) ≠ gone then ((fillG x.rows).length : Int) else mostN gone ls k
theorem mostN_nonneg (gone : Int) (ls : List Lx) : ∀ k, 0 ≤ mostN gone ls k
  | 0 => Int.le_refl _
  | k + 1 => by
    unfold mostN
    split
    · exact mostN_nonneg gone ls k
    · split
      · exact Int.natCast_nonneg _
      · exact mostN_nonneg gone ls k
theorem mostN_step {gone : Int} {ls : List Lx} {k : Nat} {x : Lx} (hx : ls[k]? = some x) : mostN gone ls (k + 1) = if mostN gone ls k < ((fillG x.rows).length : Int) ∧ (k : Int) ≠ gone then ((fillG x.rows).length : Int) else mostN gone ls k := by
  conv => lhs; unfold mostN
  rw [hx]
/-- The files that are written. -/
structure CtSt (d : Ds) (ls : List Lx) (k : Nat) : Prop where
  sok : SOk 16384 d
  made : d.made = k
  keys : d.fs.map (·.1) = filesN k
  hasp : ∀ i x, i < k → ls[i]? = some x → HasP d ((i + 1 : Nat) : Int) x.rows
  may : ∀ i x, i < k → ls[i]? = some x → ∀ r ∈ x.rows, mayE r = 0
  small : ∀ i x, i < k → ls[i]? = some x → x.rows.length ≤ 300
  used : d.used ≤ 301 * k
  le : d.le (400 * k)
theorem CtSt.start (ls : List Lx) : CtSt Ds.new ls 0 := ⟨SOk.new (by decide) (by decide), rfl, rfl, fun i x h => by omega, fun i x h => by omega, fun i x h => by omega, by decide, by decide, by decide⟩
theorem CtSt.step {d : Ds} {ls : List Lx} {k : Nat} {x : Lx} (S : CtSt d ls k) (hx : ls[k]? = some x) (hk : k < 20) (hl : x.rows.length ≤ 300) :
    (writeS 16384 [] 2 d 0 x.rows).e ≠ 0 ∨ ((writeS 16384 [] 2 d 0 x.rows).e = 0 ∧ (writeS 16384 [] 2 d 0 x.rows).n = ((k + 1 : Nat) : Int) ∧ CtSt (writeS 16384 [] 2 d 0 x.rows).d ls (k + 1)) := by
  have hfl : d.fs.length = k := by have := congrArg List.length S.keys; rw [List.length_map, filesN_len] at this; exact this
  have le1 := writeS_le (R := 16384) (F := []) (G := 2) (h := 0) (rows := x.rows) S.le (by omega)
  rcases write_law2 (R := 16384) (F := []) (G := 2) (h := 0) (rows := x.rows) S.sok (by omega) (by omega) (by rw [S.made]; omega) with ⟨e, _⟩ | ⟨e, ok⟩
  · exact .inl e
  · have em : d.made + 1 = ((k + 1 : Nat) : Int) := by rw [S.made]; push_cast; omega
    have num := ok.num
    have made := ok.made
    have hasp := ok.hasp
    have keys := ok.keys
    have find := ok.find
    rw [em] at num made hasp keys find
    refine .inr ⟨e, num, ok.sok, made, by rw [keys, S.keys, filesN_snoc], fun i y hi hy => ?_, fun i y hi hy => ?_, fun i y hi hy => ?_, ?_, le1.mono (by push_cast; omega)⟩
    · rcases Nat.lt_succ_iff_lt_or_eq.1 hi with h | h
      · obtain ⟨ps, h1, h2⟩ := S.hasp i y h hy
        exact ⟨ps, by rw [find _ (by omega)]; exact h1, h2⟩
      · subst h
        rw [hx] at hy
        injection hy with hy
        rw [← hy]
        exact hasp
    · rcases Nat.lt_succ_iff_lt_or_eq.1 hi with h | h
      · exact S.may i y h hy
      · subst h
        rw [hx] at hy
        injection hy with hy
        rw [← hy]
        exact ok.may
    · rcases Nat.lt_succ_iff_lt_or_eq.1 hi with h | h
      · exact S.small i y h hy
      · subst h
        rw [hx] at hy
        injection hy with hy
        rw [← hy]
        exact hl
    · have := ok.used
      have := S.used
      push_cast
      omega
def allR (ls : List Lx) (k : Nat) : Rows := (ls.take k).flatMap (·.rows)
def allH (ls : List Lx) (k : Nat) : List Value := (ls.take k).flatMap (·.hds)
theorem allH_snoc {ls : List Lx} {k : Nat} {x : Lx} (hx : ls[k]? = some x) : allH ls (k + 1) = allH ls k ++ x.hds ∧ allR ls (k + 1) = allR ls k ++ x.rows := by
  obtain ⟨hl, e⟩ := List.getElem?_eq_some_iff.1 hx
  unfold allH allR
  rw [List.take_succ_eq_append_getElem hl, e, List.flatMap_append, List.flatMap_append]
  simp
/-- The rows of all files one behind the other. -/
theorem flat_rows {d : Ds} {ls : List Lx} {n : Nat} (S : CtSt d ls n) (hl : ls.length = n) : ∀ k, k ≤ n → (filesN k).flatMap (rowsD d) = allR ls k ∧ (allR ls k).length ≤ 300 * k
  | 0, _ => ⟨rfl, by simp [allR]⟩
  | k + 1, hk => by
    obtain ⟨h1, h2⟩ := flat_rows S hl k (by omega)
    have hx : ls[k]? = some ls[k] := List.getElem?_eq_getElem (by omega)
    have e := (allH_snoc hx).2
    have hs := S.small k _ (by omega) hx
    have hr := has_rows (S.hasp k _ (by omega) hx).has
    refine ⟨?_, ?_⟩
    · rw [filesN_snoc, List.flatMap_append, h1, e, List.flatMap_cons, List.flatMap_nil, List.append_nil, hr]
    · rw [e, List.length_append]
      omega
theorem widS_app (d : Ds) (xs : List Int) (x : Int) : widS d (xs ++ [x]) = max (widS d xs) (sizeI d x) := by
  unfold widS
  rw [List.foldl_append]
  rfl
/-- The widest of those that are there. -/
theorem wid_most {d d' : Ds} {ls : List Lx} {n : Nat} {gone : Int} (S : CtSt d ls n) (hl : ls.length = n) (hf : ∀ i : Nat, i < n → d'.find ((i + 1 : Nat) : Int) = if (i : Int) = gone then none else d.find ((i + 1 : Nat) : Int)) : ∀ k, k ≤ n → widS d' (filesN k) = mostN gone ls k
  | 0, _ => rfl
  | k + 1, hk => by
    have ih := wid_most S hl hf k (by omega)
    have hx : ls[k]? = some ls[k] := List.getElem?_eq_getElem (by omega)
    have h0 := mostN_nonneg gone ls k
    rw [filesN_snoc, widS_app, ih, mostN_step hx]
    have hs : sizeI d' ((k + 1 : Nat) : Int) = if (k : Int) = gone then 0 else ((fillG (ls[k]'(by omega)).rows).length : Int) := by
      unfold sizeI
      rw [hf k (by omega)]
      obtain ⟨ps, h1, _, h2⟩ := S.hasp k _ (by omega) hx
      by_cases hg : (k : Int) = gone
      · rw [if_pos hg, if_pos hg]; rfl
      · rw [if_neg hg, if_neg hg, h1, ← h2]; rfl
    rw [hs]
    generalize ((fillG (ls[k]'(by omega)).rows).length : Int) = P at *
    by_cases hg : (k : Int) = gone
    · rw [if_pos hg, if_neg (fun h => h.2 hg)]
      omega
    · rw [if_neg hg]
      by_cases hlt : mostN gone ls k < P
      · rw [if_pos ⟨hlt, hg⟩]; omega
      · rw [if_neg (fun h => hlt h.1)]; omega
end Go.Proofs.YtkbapoeilcapfaaGreat

/- FanoutConcats: files one behind the other, or why they are not; the widest one. -/
namespace Go.Proofs.YtkbapoeilcapfaaGreat
open Go.RowKit Go.Maps
set_option linter.unusedVariables false
set_option linter.unusedSimpArgs false
set_option maxRecDepth 6000

section
variable {w w0 W : World} {bd bl bp k n L : Nat} {ls : List Lx} {fv av : Value} {d : Ds} {x : Lx} {hall : List Value} {A : Option Addr} {gone : Int}
abbrev XC (bp bd bl : Nat) (fv : Value) (k : Nat) (av : Value) (L : Nat) (hall : List Value) : Res := star (iR fv k (filesN k)) (star (hdR av L hall) (K1 bp bd bl))
theorem XC_good : Good (XC bp bd bl fv k av L hall) := star_good (iR_good _ _ _) (star_good (rowR_good _ _ _ _ _) (K1_good _ _ _))
theorem XC_cells {Y : Res} (V : In w W (star Y (XC bp bd bl fv k av L hall))) : PB bp bd bl W := K1_cells V.right.right
/-- A state of the law's loop. -/
structure CmSt (w wr : World) (bd bl bp : Nat) (ls : List Lx) (k : Nat) (fv av : Value) : Prop where
  ex : ∃ d, CtSt d ls k ∧ In w wr (star (PL bd bl 16384 [] 2 d 0) (XC bp bd bl fv k av (allH ls k).length (allH ls k))) ∧ (allH ls k).length ≤ 300 * k
theorem hds_one {A : Option Addr} {n : Nat} {hds : List Value} {rows : Rows} (h : RdL w A n hds rows) : ∀ u ∈ hds, u.oneCell' = true := by
  intro u hu
  obtain ⟨i, hi⟩ := List.mem_iff_getElem?.1 hu
  have hl : i < rows.length := by have := (List.getElem?_eq_some_iff.1 hi).1; have := h.hd.1; have := h.len; omega
  obtain ⟨B, m, c, e, _⟩ := h.row i _ (List.getElem?_eq_getElem hl)
  rw [hi] at e
  injection e with e
  rw [e]
  rfl
/-- All rows that came in, under the headers that were appended. -/
theorem all_rdl {av : Option Addr} {L : Nat} (h : RdLL w A n ls) (b : Below w.heap.size w W) (ho : Rd1 W av L (allH ls k)) : RdL W av L (allH ls k) (allR ls k) := by
  obtain ⟨its, hits⟩ : ∃ its : List It, its = (ls.take k).flatMap fun x => x.hds.zip x.rows := ⟨_, rfl⟩
  have hx : ∀ x ∈ ls.take k, RdL w x.A x.n x.hds x.rows := fun x hx => by
    obtain ⟨i, hi⟩ := List.mem_iff_getElem?.1 (List.mem_of_mem_take hx)
    exact h.2.2.2 i x hi
  have e1 : its.map Prod.fst = allH ls k := by
    rw [hits, List.map_flatMap]
    unfold allH
    rw [List.flatMap_def, List.flatMap_def, List.map_congr_left fun x hx' => (hx x hx').its.1]
  have e2 : its.map Prod.snd = allR ls k := by
    rw [hits, List.map_flatMap]
    unfold allR
    rw [List.flatMap_def, List.flatMap_def, List.map_congr_left fun x hx' => (hx x hx').its.2.1]
  have h3 : RdIts W its := by
    intro y hy
    rw [hits] at hy
    obtain ⟨x, hx1, hy1⟩ := List.mem_flatMap.1 hy
    exact ((hx x hx1).its.2.2.below b) y hy1
  have := RdL.of_its (B := av) (k := L) (its := its) (by rw [e1]; exact ho) h3
  rw [e1, e2] at this
  exact this
theorem c_write (S : CtSt d ls k) (V : In w W (star (PL bd bl 16384 [] 2 d 0) (XC bp bd bl fv k av L hall))) (hl : RdL w x.A x.n x.hds x.rows) (hk : k < 20) (hn : x.n ≤ 300) {ad : Addr} (hc : ∀ W, Below w.heap.size w W → W.cell? (ad.add k) = some (.slice x.A x.n x.c)) :
    Calls Tryz.prog 13 #[pv bd bl, .slice x.A x.n x.c] W.drew fun e w' => e = .returned (.tuple #[.int .i64 (writeS 16384 [] 2 d 0 x.rows).n, .int .i64 (writeS 16384 [] 2 d 0 x.rows).e]) ∧ (PB bp bd bl w' ∧ w'.cell? (ad.add k) = some (.slice x.A x.n x.c)) ∧ In w w' (star (PL bd bl 16384 [] 2 (writeS 16384 [] 2 d 0 x.rows).d 0) (XC bp bd bl fv k av L hall)) :=
  (s_write (N := 400 * k) XC_good (in_drew (star_good (PL_good _ _ _ _ _ _ _) XC_good) V) (fun W' hW => hl.below hW.bel) S.le (by omega) (by omega)).mono fun e w' hh => by
    unfold WriteP at hh
    exact ⟨hh.1, ⟨XC_cells hh.2, hc _ hh.2.bel⟩, hh.2⟩
theorem c_files {w3 w4 : World} {v1 : Value} {Af : Option Addr} {cf : Nat} (V : In w w3 (star (PL bd bl 16384 [] 2 d 0) (XC bp bd bl (.slice Af k cf) k av L hall))) (h1 : w4.ownsRow 0 3 1 v1 (k + 1) (i64s (filesN k) ++ [.int .i64 ((k + 1 : Nat) : Int)])) (ht : Turn (fun k' => (Value.slice Af k cf).ownBlock = some k') w3 w4) (hor : v1.ownBlock = (Value.slice Af k cf).ownBlock ∨ ∃ b, v1.ownBlock = some b ∧ w3.heap.size ≤ b) :
    (∃ A c, v1 = .slice A (k + 1) c) ∧ In w w4 (star (PL bd bl 16384 [] 2 d 0) (XC bp bd bl v1 (k + 1) av L hall)) := by
  have V1 : In w w3 (star (iR (.slice Af k cf) k (filesN k)) (star (PL bd bl 16384 [] 2 d 0) (star (hdR av L hall) (K1 bp bd bl)))) := V.ac (by dsimp only [XC]; ac_rfl)
  have V2 := V1.grow (star_good (PL_good _ _ _ _ _ _ _) (star_good (rowR_good _ _ _ _ _) (K1_good _ _ _))) h1 ht hor
  have eo : i64s (filesN k) ++ [Value.int .i64 ((k + 1 : Nat) : Int)] = i64s (filesN (k + 1)) := by rw [filesN_snoc]; simp
  rw [eo] at V2
  exact ⟨own_slice h1, V2.ac (by dsimp only [XC]; ac_rfl)⟩
theorem c_all {w3 w4 : World} {v1 : Value} {Aa : Option Addr} {ca : Nat} (hx : ls[k]? = some x) (hlx : x.hds.length = x.n) (V : In w w3 (star (PL bd bl 16384 [] 2 d 0) (XC bp bd bl fv (k + 1) (.slice Aa (allH ls k).length ca) (allH ls k).length (allH ls k)))) (h1 : w4.ownsRow 0 25 1 v1 ((allH ls k).length + x.n) (allH ls k ++ x.hds)) (ht : Turn (fun k' => (Value.slice Aa (allH ls k).length ca).ownBlock = some k') w3 w4) (hor : v1.ownBlock = (Value.slice Aa (allH ls k).length ca).ownBlock ∨ ∃ b, v1.ownBlock = some b ∧ w3.heap.size ≤ b) :
    In w w4 (star (PL bd bl 16384 [] 2 d 0) (XC bp bd bl fv (k + 1) v1 (allH ls (k + 1)).length (allH ls (k + 1)))) := by
  have V1 : In w w3 (star (hdR (.slice Aa (allH ls k).length ca) (allH ls k).length (allH ls k)) (star (PL bd bl 16384 [] 2 d 0) (star (iR fv (k + 1) (filesN (k + 1))) (K1 bp bd bl)))) := V.ac (by dsimp only [XC]; ac_rfl)
  have V2 := V1.grow (star_good (PL_good _ _ _ _ _ _ _) (star_good (iR_good _ _ _) (K1_good _ _ _))) h1 ht hor
  have e := (allH_snoc hx).1
  have el : (allH ls (k + 1)).length = (allH ls k).length + x.n := by rw [e, List.length_append, hlx]
  rw [el, e]
  exact V2.ac (by dsimp only [XC, hdR]; ac_rfl)
theorem files_wf : ∀ m ∈ filesN k, k ≤ 1000 → (Lit.int .i64 m).wf = true := fun m hm hk => by
  have := filesN_mem.1 hm
  exact wf_i64 (by omega) (by omega)
/-- The files, whether one is gone or not. -/
structure CtEnd (d : Ds) (ls : List Lx) (n : Nat) (gone : Int) : Prop where
  sok : SOk 16384 d
  made : d.made = n
  le : d.le 8000
  cr : wrE 2 d 0 = 0
  file : ∀ m ∈ filesN n, m ≠ d.made + 1
  left : ∀ m ∈ filesN n, leftN d.create (rs0 m) ≤ 1000
  wid : widS d (filesN n) = mostN gone ls n
theorem ct_left {d0 : Ds} (S : CtSt d0 ls n) (hl : ls.length = n) (hn : n ≤ 20) (K : SOk 16384 d) (hm : d.made = n) (hf : ∀ i : Nat, i < n → rowsD d ((i + 1 : Nat) : Int) = rowsD d0 ((i + 1 : Nat) : Int) ∨ rowsD d ((i + 1 : Nat) : Int) = []) : ∀ m ∈ filesN n, m ≠ d.made + 1 ∧ (rowsD d m).length ≤ 300 ∧ (∀ r ∈ rowsD d m, mayE r = 0) := fun m hmm => by
  obtain ⟨h1, h2⟩ := filesN_mem.1 hmm
  obtain ⟨i, rfl⟩ : ∃ i : Nat, m = ((i + 1 : Nat) : Int) := ⟨(m - 1).toNat, by omega⟩
  have hi : i < n := by omega
  have hx : ls[i]? = some ls[i] := List.getElem?_eq_getElem (by omega)
  refine ⟨by rw [hm]; omega, ?_⟩
  have e := has_rows (S.hasp i _ hi hx).has
  rcases hf i hi with h | h
  · rw [h, e]
    exact ⟨S.small i _ hi hx, S.may i _ hi hx⟩
  · rw [h]
    exact ⟨by simp, by simp⟩
theorem flat_le3 {f : Int → Rows} : ∀ (xs : List Int), (∀ m ∈ xs, (f m).length ≤ 300) → (xs.flatMap f).length ≤ 300 * xs.length
  | [], _ => by simp
  | a :: t, h => by
    have h1 := h a (by simp)
    have h2 := flat_le3 t fun m hm => h m (by simp [hm])
    rw [List.flatMap_cons, List.length_append, List.length_cons]
    omega
theorem ct_there (S : CtSt d ls n) (hl : ls.length = n) (hn : n ≤ 20) (hg : gone < 0 ∨ (n : Int) ≤ gone) : CtEnd d ls n gone ∧ CatOk (xs := filesN n) 16384 d (concatS 16384 [] 2 d 0 (filesN n)) (allR ls n) := by
  have hfl : d.fs.length = n := by have := congrArg List.length S.keys; rw [List.length_map, filesN_len] at this; exact this
  have hC : d.createE = 0 := by unfold Ds.createE; rw [if_neg (by omega)]
  have q := ct_left S hl hn S.sok S.made fun i hi => .inl rfl
  obtain ⟨f1, f2⟩ := flat_rows S hl n (Nat.le_refl _)
  refine ⟨⟨S.sok, S.made, S.le.mono (by omega), by unfold wrE; rw [if_neg (by decide)]; exact hC, fun m hm => (q m hm).1, fun m hm => ?_, wid_most S hl (fun i hi => by rw [if_neg (by omega)]) n (Nat.le_refl _)⟩, ?_⟩
  · rw [left_rowsD, rowsD_create S.sok hC (q m hm).1]
    have := (q m hm).2.1
    omega
  · rw [← f1]
    refine concat_law S.sok (by omega) (by rw [S.made]; omega) (by decide) (fun m hm => ⟨by rw [S.keys]; exact hm, (q m hm).2.2⟩) ?_ ?_
    · rw [f1, filesN_len]
      have := S.used
      omega
    · rw [f1, filesN_len]
      omega
theorem del_used (d : Ds) (m : Int) : (d.del m).used ≤ d.used := by
  unfold Ds.del
  split
  · exact Int.le_refl _
  · dsimp only; omega
theorem ct_gone {g : Nat} (S : CtSt d ls n) (hl : ls.length = n) (hn : n ≤ 20) (hg : g < n) (he : gone = (g : Int)) : CtEnd (d.del ((g + 1 : Nat) : Int)) ls n gone ∧ (concatS 16384 [] 2 (d.del ((g + 1 : Nat) : Int)) 0 (filesN n)).e = 4 ∧ (concatS 16384 [] 2 (d.del ((g + 1 : Nat) : Int)) 0 (filesN n)).n = 0 ∧ ((concatS 16384 [] 2 (d.del ((g + 1 : Nat) : Int)) 0 (filesN n)).d.fs.length : Int) = (n : Int) - 1 := by
  subst he
  have hfl : d.fs.length = n := by have := congrArg List.length S.keys; rw [List.length_map, filesN_len] at this; exact this
  have K := S.sok.del ((g + 1 : Nat) : Int)
  have hk : (d.del ((g + 1 : Nat) : Int)).fs.map (·.1) = (filesN n).filter (fun m => !(m == ((g + 1 : Nat) : Int))) := by rw [del_keys, S.keys]
  have hnd : (filesN n).Nodup := by rw [← S.keys]; exact keys_nodup S.sok
  have hmem : ((g + 1 : Nat) : Int) ∈ filesN n := filesN_mem.2 ⟨by omega, by omega⟩
  have hle : (d.del ((g + 1 : Nat) : Int)).fs.length ≤ n := by
    have := congrArg List.length hk
    rw [List.length_map] at this
    rw [this]
    exact Nat.le_trans (List.length_filter_le _ _) (by rw [filesN_len]; exact Nat.le_refl _)
  have hlen : (d.del ((g + 1 : Nat) : Int)).fs.length + 1 = n := by
    have e1 := congrArg List.length hk
    rw [List.length_map] at e1
    have e2 : (filesN n).filter (fun m => !(m == ((g + 1 : Nat) : Int))) = (filesN n).erase ((g + 1 : Nat) : Int) := (List.Nodup.erase_eq_filter hnd _).symm
    rw [e1, e2, List.length_erase_of_mem hmem, filesN_len]
    omega
  have hC : (d.del ((g + 1 : Nat) : Int)).createE = 0 := by unfold Ds.createE; rw [if_neg (by omega)]
  have hmd : (d.del ((g + 1 : Nat) : Int)).made = n := del_made.trans S.made
  have hfd : ∀ i : Nat, i < n → (d.del ((g + 1 : Nat) : Int)).find ((i + 1 : Nat) : Int) = if (i : Int) = (g : Int) then none else d.find ((i + 1 : Nat) : Int) := fun i hi => by
    rw [del_find]
    by_cases h : (i : Int) = (g : Int)
    · rw [if_pos h, if_pos (by omega)]
    · rw [if_neg h, if_neg (by omega)]
  have q := ct_left (d := d.del ((g + 1 : Nat) : Int)) S hl hn K hmd fun i hi => by
    unfold rowsD
    rw [hfd i hi]
    by_cases h : (i : Int) = (g : Int)
    · rw [if_pos h]; exact .inr rfl
    · rw [if_neg h]; exact .inl rfl
  have fl := flat_le3 (f := rowsD (d.del ((g + 1 : Nat) : Int))) (filesN n) fun m hm => (q m hm).2.1
  rw [filesN_len] at fl
  have hu := del_used d ((g + 1 : Nat) : Int)
  have hu2 := S.used
  obtain ⟨c1, c2, c3⟩ := concat_gone (R := 16384) (G := 2) (h := 0) (xs := filesN n) K (by omega) (by rw [hmd]; omega) (by decide) (fun m hm => ⟨(q m hm).1, (q m hm).2.2⟩) ⟨_, hmem, by rw [hfd g hg, if_pos rfl]⟩ (by rw [filesN_len]; omega) (by rw [filesN_len]; omega)
  refine ⟨⟨K, hmd, (le_del S.le _).mono (by omega), by unfold wrE; rw [if_neg (by decide)]; exact hC, fun m hm => (q m hm).1, fun m hm => ?_, wid_most S hl hfd n (Nat.le_refl _)⟩, c1, c2, ?_⟩
  · rw [left_rowsD, rowsD_create K hC (q m hm).1]
    have := (q m hm).2.1
    omega
  · rw [keys_len c3]
    omega
theorem c_widest (E : CtEnd d ls n gone) (hn : n ≤ 20) {Af : Option Addr} {cf : Nat} (V : In w W (star (PL bd bl 16384 [] 2 d 0) (XC bp bd bl (.slice Af n cf) n av L hall))) :
    Calls Tryz.prog 32 #[pv bd bl, .slice Af n cf] W fun e w' => e = .returned (.int .i64 (mostN gone ls n)) ∧ PB bp bd bl w' ∧ In w w' (star (PL bd bl 16384 [] 2 d 0) (XC bp bd bl (.slice Af n cf) n av L hall)) := by
  have h := widest_walk (A := Af) (n := n) (c := cf) (xs := filesN n) XC_good V (fun W hW => iR_rdi hW fun m hm => files_wf m hm (by omega))
  rw [E.wid] at h
  exact h.mono fun e w' hh => ⟨hh.1, XC_cells hh.2, hh.2⟩
theorem c_concat (E : CtEnd d ls n gone) (hn : n ≤ 20) {Af : Option Addr} {cf : Nat} (V : In w W (star (PL bd bl 16384 [] 2 d 0) (XC bp bd bl (.slice Af n cf) n av L hall))) :
    Calls Tryz.prog 33 #[pv bd bl, .slice Af n cf] W fun e w' => e = .returned (.tuple #[.int .i64 (concatS 16384 [] 2 d 0 (filesN n)).n, .int .i64 (concatS 16384 [] 2 d 0 (filesN n)).e]) ∧ PB bp bd bl w' ∧ In w w' (star (PL bd bl 16384 [] 2 (concatS 16384 [] 2 d 0 (filesN n)).d 0) (XC bp bd bl (.slice Af n cf) n av L hall)) := by
  refine (concat_b (A := Af) (n := n) (c := cf) (xs := filesN n) (N := 8000) XC_good V (fun W hW => iR_rdi hW fun m hm => files_wf m hm (by omega)) E.le (by decide) (by decide) (by omega) E.cr E.file E.left).mono fun e w' hh => ?_
  unfold ConcatP at hh
  exact ⟨hh.1, XC_cells hh.2, hh.2⟩
theorem c_remove {m : Int} (hm : (Lit.int .i64 m).wf = true) (V : In w W (star (PL bd bl 16384 [] 2 d 0) (XC bp bd bl fv k av L hall))) :
    Calls Tryz.prog 20 #[pv bd bl, .slice (some ⟨W.heap.size, 0, none⟩) 1 1] (W.alloc (.cells #[.int .i64 m] 3)) fun e w' => e = .returned (.tuple #[]) ∧ In w w' (star (PL bd bl 16384 [] 2 (d.del m) 0) (XC bp bd bl fv k av L hall)) := by
  have V1 := V.pushB (star_good (PL_good _ _ _ _ _ _ _) XC_good) (.cells #[.int .i64 m] 3 (0, 0))
  refine (s_remove (A := some ⟨W.heap.size, 0, none⟩) (n := 1) (c := 1) (xs := [m]) (star_good (blkR_good _ _) XC_good) V1 (fun W' hW => by
    have hb := hW.left.get fun S h => h.1
    refine ⟨rfl, by omega, fun x hx => by rw [List.mem_singleton.1 hx]; exact hm, fun _ => ⟨_, rfl, lt_of_heap hb, fun j x hx => ?_⟩⟩
    rcases j with _ | j
    · rw [add_zero0, cell_of_blk hb 0]; simpa using hx
    · simp at hx)).mono fun e w' hh => ⟨hh.1, hh.2.drop⟩
theorem c_allrows {d3 : Ds} {c : Int} {rows : Rows} (K : Has d3 c rows) (hw : (Lit.int .i64 c).wf = true) (hle : d3.le 60000) (V : In w W (star (PL bd bl 16384 [] 2 d3 0) (XC bp bd bl fv k av L hall))) :
    Calls Tryz.prog 16 #[pv bd bl, .int .i64 c] W fun e w' => ∃ B2 c2 h2, e = .returned (.tuple #[.slice B2 rows.length c2, .int .i64 0]) ∧ PB bp bd bl w' ∧ In w w' (star (PL bd bl 16384 [] 2 (allS [] d3 c).d 0) (star (rd (fun W => RdL W B2 rows.length h2 rows)) (XC bp bd bl fv k av L hall))) := by
  obtain ⟨a1, a2, a3⟩ := all_zero (PL_ok V).1 K
  have hE : rrE 2 d3 0 c = 0 := by
    obtain ⟨ps, h1, _⟩ := K
    unfold rrE
    rw [h1]
    rfl
  refine (all_yes XC_good V hw hE hle (by decide)).mono fun e w' hh => ?_
  unfold AllP at hh
  rw [if_neg (by rw [a1]; decide), a2] at hh
  obtain ⟨B2, c2, hds2, e1, V2⟩ := hh
  exact ⟨B2, c2, hds2, e1, XC_cells V2.right, V2⟩
end
theorem concats_big {w : World} {A : Option Addr} {n c : Nat} {ls : List Lx} {gone : Int} (hl : RdLL w A n ls) (hn : 20 < n) :
    Calls Tryz.prog 6 #[.slice A n c, .int .i64 gone] w fun e w' => e = .returned (.bool true) ∧ Below w.heap.size w w' := by
  have hn64 := hl.2.1
  clear hl
  go_enter Tryz.func6, Tryz.ntmps6
  go_wp2_with (go_at_call 28; refine (flives _).mono ?_; rintro e w1 ⟨rfl, b⟩)
  go_ret
  exact ⟨by trivial, b⟩
set_option maxHeartbeats 8000000 in
theorem concats_small {w : World} {A : Option Addr} {n c : Nat} {ls : List Lx} {gone : Int} (hl : RdLL w A n ls) (wg : (Lit.int .i64 gone).wf = true) (hn : n ≤ 20) :
    Calls Tryz.prog 6 #[.slice A n c, .int .i64 gone] w fun e w' => e = .returned (.bool true) ∧ Below w.heap.size w w' := by
  have hn1 : ¬ 20 < n := by omega
  have HL := Lib.hid hl
  have CM := Lib.hid (k_make (w := w) (R := 16384) (G := 2) (F := []) (A := none) (k := 0) (c := 0) (RdI.nil w) (by decide))
  have CV := Lib.hid (fun W bp bd bl (V : In w W (star (PL bd bl 16384 [] 2 Ds.new 0) (K1 bp bd bl))) => (flives W).mono fun (e : Ending) (w' : World) hh => show e = .returned (.bool true) ∧ CmSt w w' bd bl bp ls 0 (.slice none 0 0) (.slice none 0 0) from ⟨hh.1, Ds.new, CtSt.start ls, (V.below (star_good (PL_good _ _ _ _ _ _ _) (K1_good _ _ _)) hh.2).imp fun S h => star_mono h (fun _ => id) (fun S h => nil_in (e := 3) (nil_in (e := 25) h)), by simp [allH]⟩)
  clear hl
  go_enter Tryz.func6, Tryz.ntmps6
  go_wp2_with (first
    | (go_at_call 10; (with_reducible refine CM.out.mono ?_); rintro e w1 ⟨bd, bl, rfl, V⟩; have V1 := Lib.hid V; clear V CM)
    | (go_at_call 28; (with_reducible refine (CV.out _ _ _ _ V1.out).mono ?_); rintro e w2 ⟨rfl, S⟩; have S2 := Lib.hid S; clear S V1 CV))
  go_loopw [10, 7, 8, 9] (fun i fv av mo wr => ∃ (k : Nat) (M : Int), k ≤ n ∧ i = .int .i64 (k : Int) ∧ mo = .int .i64 M ∧ Hid (M = mostN gone ls k) ∧ Hid (CmSt w wr bd bl w1.heap.size ls k fv av)) (fun i _ _ _ _ => n - (intOf i).toNat)
  case atStart => exact ⟨0, 0, by omega, rfl, rfl, Lib.hid rfl, S2⟩
  case round =>
    clear S2
    obtain ⟨k, M, hk, rfl, rfl, hM, HS⟩ := hrel
    obtain ⟨d, CS, V, hL⟩ := HS.out.ex
    obtain ⟨Af, cf, hfv⟩ := own_slice (V.right.left.get fun S h => h.1)
    subst hfv
    obtain ⟨Aa, ca, hav⟩ := own_slice (V.right.right.left.get fun S h => h.1)
    subst hav
    obtain ⟨k0, k1, k2⟩ := XC_cells V
    by_cases hlt : k < n
    · obtain ⟨ad, x, rfl, hb, hx, hcell, hlx⟩ := HL.out.at_ hlt
      have hc : ∀ W, Below w.heap.size w W → W.cell? (ad.add k) = some (.slice x.A x.n x.c) := fun W b => (b.cell (by rw [add_block]; exact hb)).trans hcell
      have hcw := hc wr V.bel
      have CL := flarge (c := x.c) (hlx.below V.bel)
      clear hcell hb
      by_cases hsm : x.n ≤ 300
      · have CW := Lib.hid (c_write CS V hlx (by omega) hsm hc)
        have CL := Lib.hid CL
        have hst := CS.step hx (by omega) (by rw [hlx.len]; exact hsm)
        obtain ⟨xA, xn, xc, xh, xr⟩ := x
        dsimp only at hc hcw CL CW hlx hsm hst
        rcases hst with he | ⟨he, hz, CS2⟩
        · obtain ⟨E, hE⟩ : ∃ E, E = (writeS 16384 [] 2 d 0 xr).e := ⟨_, rfl⟩
          obtain ⟨Z, hZ⟩ : ∃ E, E = (writeS 16384 [] 2 d 0 xr).n := ⟨_, rfl⟩
          have he1 : (E != 0) = true := by rw [hE]; simpa using he
          simp only [← hE, ← hZ] at CW
          have BEL := Lib.hid V.bel
          have HX := Lib.hid hlx
          clear he hE hZ CS hL hx hlx hc hM HS V
          have V : True := trivial
          go_wp2_with (go_at_call 27; (with_reducible refine CL.out.mono ?_); rintro e w3 ⟨b, rfl, hw, _⟩; obtain rfl := hw.symm; clear hw CL; cases b)
          · clear V HX BEL
            go_wp2
            go_region_held3 (fun w' => w'.cell? ⟨w1.heap.size, 0, none⟩ = some (dp bd) ∧ w'.cell? ⟨w1.heap.size, 1, none⟩ = some (lp bl) ∧ w'.cell? ⟨w1.heap.size, 2, none⟩ = some (.int .i64 0) ∧ w'.cell? (ad.add k) = some (.slice xA xn xc)) (first | go_keep | (refine ⟨?_, ?_, ?_, ?_⟩ <;> assumption)) (first
              | (go_at_call 13; (with_reducible refine CW.out.mono ?_); rintro e w4 ⟨rfl, ⟨⟨s0, s1, s2⟩, sc⟩, V4⟩; have V4 := Lib.hid V4; clear CW))
            all_goals
              have B4 := Lib.hid V4.out.bel
              clear V4
              go_wp2
            all_goals go_ret
            all_goals exact ⟨by trivial, B4.out⟩
          · clear V HX
            go_wp2_with (go_at_call 28; refine (flives _).mono ?_; rintro e w4 ⟨rfl, b⟩; have B4 := Lib.hid (BEL.out.trans (b.mono BEL.out.size)); clear b)
            go_ret
            exact ⟨by trivial, B4.out⟩
        · obtain ⟨P, hP⟩ : ∃ P : Int, P = ((fillG xr).length : Int) := ⟨_, rfl⟩
          have hstep := mostN_step (gone := gone) hx
          dsimp only at hstep
          rw [← hP, ← hM.out] at hstep
          have CPg := Lib.hid (fun W (b : Below w.heap.size w W) => (pages21 (c := xc) (hlx.below b) (CS2.may k _ (by omega) hx) (by omega)).mono fun (e : Ending) (w' : World) hh => show e = .returned (.int .i64 P) ∧ Below W.heap.size W w' from ⟨by rw [hP]; exact hh.1, hh.2⟩)
          obtain ⟨f, hf⟩ : ∃ f : Int, f = ((k + 1 : Nat) : Int) := ⟨_, rfl⟩
          have G1 := Lib.hid (fun w3 w4 v1 V h1 ht hor => c_files (w := w) (w3 := w3) (w4 := w4) (v1 := v1) (bd := bd) (bl := bl) (bp := w1.heap.size) (k := k) (Af := Af) (cf := cf) (d := (writeS 16384 [] 2 d 0 xr).d) (av := .slice Aa (allH ls k).length ca) (L := (allH ls k).length) (hall := allH ls k) V h1 ht hor)
          have G2 := Lib.hid (fun fv w3 w4 v1 V h1 ht hor => c_all (w := w) (w3 := w3) (w4 := w4) (v1 := v1) (bd := bd) (bl := bl) (bp := w1.heap.size) (k := k) (fv := fv) (Aa := Aa) (ca := ca) (d := (writeS 16384 [] 2 d 0 xr).d) hx hlx.hd.1 V h1 ht hor)
          have S2 := Lib.hid (fun W fv v2 (V : In w W (star (PL bd bl 16384 [] 2 (writeS 16384 [] 2 d 0 xr).d 0) (XC w1.heap.size bd bl fv (k + 1) v2 (allH ls (k + 1)).length (allH ls (k + 1))))) => show CmSt w W bd bl w1.heap.size ls (k + 1) fv v2 from ⟨_, CS2, V, by
            have e := (allH_snoc hx).1
            have := hlx.hd.1
            rw [e, List.length_append]
            dsimp only at this ⊢
            omega⟩)
          rw [hz, he] at CW
          dsimp only at G2
          rw [← hf] at CW
          simp only [← hf] at G1
          obtain ⟨zd, hzd⟩ : ∃ zd, zd = (writeS 16384 [] 2 d 0 xr).d := ⟨_, rfl⟩
          simp only [← hzd] at CW G1 G2 S2
          have hL6 : (allH ls k).length ≤ 6000 := by omega
          have HC := Lib.hid hc
          have HRD := Lib.hid (fun W (b : Below w.heap.size w W) => hlx.hd.below b)
          have HONE := Lib.hid (hds_one hlx)
          have BEL := Lib.hid V.bel
          have HX := Lib.hid hlx
          have V0 := V
          have hcases : (decide (M < P) = true ∧ ((k : Int) != gone) = true ∧ mostN gone ls (k + 1) = P) ∨ (decide (M < P) = true ∧ ((k : Int) != gone) = false ∧ mostN gone ls (k + 1) = M) ∨ (decide (M < P) = false ∧ mostN gone ls (k + 1) = M) := by
            by_cases h1 : M < P
            · by_cases h2 : (k : Int) = gone
              · exact .inr (.inl ⟨by simpa using h1, by simpa using h2, by rw [hstep, if_neg (fun h => h.2 h2)]⟩)
              · exact .inl ⟨by simpa using h1, by simpa using h2, by rw [hstep, if_pos ⟨h1, h2⟩]⟩
            · exact .inr (.inr ⟨by simpa using h1, by rw [hstep, if_neg (fun h => h1 h.1)]⟩)
          clear he hz CS CS2 hL hx hlx hM HS hstep hP hzd hc V0 V hf
          rcases hcases with ⟨q1, q2, q3⟩ | ⟨q1, q2, q3⟩ | ⟨q1, q3⟩
          all_goals
            have q3 := Lib.hid q3.symm
            have V : True := trivial
            go_wp2_with (go_at_call 27; (with_reducible refine CL.out.mono ?_); rintro e w3 ⟨b, rfl, hw, _⟩; obtain rfl := hw.symm; clear hw CL; cases b)
            · clear V HX
              go_wp2
              go_region_held3 (fun w' => w'.cell? ⟨w1.heap.size, 0, none⟩ = some (dp bd) ∧ w'.cell? ⟨w1.heap.size, 1, none⟩ = some (lp bl) ∧ w'.cell? ⟨w1.heap.size, 2, none⟩ = some (.int .i64 0) ∧ w'.cell? (ad.add k) = some (.slice xA xn xc)) (first | go_keep | (refine ⟨?_, ?_, ?_, ?_⟩ <;> assumption)) (first
                | (go_at_call 13; (with_reducible refine CW.out.mono ?_); rintro e w4 ⟨rfl, ⟨⟨s0, s1, s2⟩, sc⟩, V4⟩; have V4 := Lib.hid V4; clear CW; have HO := Lib.hid (V4.out.right.left.get fun S h => h.1)))
              all_goals go_wp2_with (first
                | (at_builtin; refine wp_append1 (W := w4) 0 rfl (.tmp 57) (.tmp 59) 22 3 (.int .i64 0) 1 8 rfl Tryz.underlying22 info_int rfl (by omega) (by omega) (.slice Af k cf) k _ [.int .i64 f] rfl rfl (by simp) rfl (by simp [Value.oneCell']) HO.out (by omega) (by omega) ?_; intro v1 w5 h4 t4 hor; obtain ⟨⟨A1, c1, rfl⟩, D⟩ := G1.out _ _ _ V4.out h4 t4 hor; have HO2 := Lib.hid (D.right.right.left.get fun S h => h.1); have hc5 := HC.out _ D.bel; have HR5 := Lib.hid (HRD.out _ D.bel); have V5 := Lib.hid D; clear h4 t4 hor V4 HO D G1)
                | (at_builtin; refine wp_appendB (W := w5) 0 rfl (.tmp 61) (.tmp 65) 23 25 (.slice none 0 0) 24 rfl Tryz.underlying23 info_L rfl (by omega) (.slice Aa (allH ls k).length ca) (allH ls k).length _ rfl xA xn xc xh rfl HR5.out HONE.out HO2.out (by omega) (by omega) ?_; intro v2 w6 h6 t6 hor; have D := G2.out _ _ _ _ V5.out h6 t6 hor; have hc6 := HC.out _ D.bel; have V6 := Lib.hid D; clear h6 t6 hor V5 HO2 D G2)
                | (go_at_call 31; (with_reducible refine (CPg.out _ V6.out.bel).mono ?_); rintro e w7 ⟨rfl, b⟩; have S7 := Lib.hid (S2.out _ _ _ (V6.out.below (star_good (PL_good _ _ _ _ _ _ _) XC_good) b)); clear b V6 CPg))
              all_goals go_roundw
              all_goals first
                | exact ⟨k + 1, _, by omega, by go_num, rfl, q3, S7⟩
                | (simp [intOf]; omega)
            · clear V HX
              go_wp2_with (go_at_call 28; refine (flives _).mono ?_; rintro e w4 ⟨rfl, b⟩; have B4 := Lib.hid (BEL.out.trans (b.mono BEL.out.size)); clear b)
              go_ret
              exact ⟨by trivial, B4.out⟩
      · have CL := Lib.hid (CL.mono fun (e : Ending) (w' : World) hh => show e = .returned (.bool true) ∧ w' = wr from by
          obtain ⟨b, h1, h2, h3⟩ := hh
          cases b
          · exact absurd (h3 rfl) hsm
          · exact ⟨h1, h2⟩)
        have BEL := Lib.hid V.bel
        obtain ⟨xA, xn, xc, xh, xr⟩ := x
        dsimp only at hcw CL
        clear CS V hL hx hlx hc hM HS hsm
        go_wp2_with (first
          | (go_at_call 27; (with_reducible refine CL.out.mono ?_); rintro e w3 ⟨rfl, hw⟩; obtain rfl := hw.symm; clear hw CL)
          | (go_at_call 28; refine (flives _).mono ?_; rintro e w4 ⟨rfl, b⟩; have B4 := Lib.hid (BEL.out.trans (b.mono BEL.out.size)); clear b))
        go_ret
        exact ⟨by trivial, B4.out⟩
    · obtain rfl : k = n := by omega
      have hll := HL.out.1
      by_cases hth : gone < 0 ∨ (k : Int) ≤ gone
      · obtain ⟨E, OK⟩ := ct_there CS hll hn hth
        have hfl0 : d.fs.length = k := by have := congrArg List.length CS.keys; rw [List.length_map, filesN_len] at this; exact this
        have hnum : (concatS 16384 [] 2 d 0 (filesN k)).n = (k : Int) + 1 := by rw [OK.num, CS.made]
        have hle3 := (concatS_le (R := 16384) (F := []) (G := 2) (h := 0) (xs := filesN k) E.le fun m hm => ⟨E.file m hm, E.left m hm⟩).mono (m := 60000) (by rw [filesN_len]; omega)
        have hh3 : Has (concatS 16384 [] 2 d 0 (filesN k)).d ((k : Int) + 1) (allR ls k) := by have := OK.has; rw [CS.made] at this; exact this
        have hfl3 : (concatS 16384 [] 2 d 0 (filesN k)).d.fs.length = k + 1 := by
          have := congrArg List.length OK.keys
          rw [List.length_map, List.length_append, List.length_map, hfl0] at this
          exact this
        have hfs4 := (all_zero OK.sok hh3).2.2
        have CWd := Lib.hid (fun W (V : In w W (star (PL bd bl 16384 [] 2 d 0) (XC w1.heap.size bd bl (.slice Af k cf) k (.slice Aa (allH ls k).length ca) (allH ls k).length (allH ls k)))) => c_widest E hn V)
        have CC := Lib.hid (fun W (V : In w W (star (PL bd bl 16384 [] 2 d 0) (XC w1.heap.size bd bl (.slice Af k cf) k (.slice Aa (allH ls k).length ca) (allH ls k).length (allH ls k)))) => c_concat E hn V)
        have CA := Lib.hid (fun W (V : In w W (star (PL bd bl 16384 [] 2 (concatS 16384 [] 2 d 0 (filesN k)).d 0) (XC w1.heap.size bd bl (.slice Af k cf) k (.slice Aa (allH ls k).length ca) (allH ls k).length (allH ls k)))) => c_allrows hh3 (wf_i64 (by omega) (by omega)) hle3 V)
        have CSm := Lib.hid (fun W B2 c2 h2 (V : In w W (star (PL bd bl 16384 [] 2 (allS [] (concatS 16384 [] 2 d 0 (filesN k)).d ((k : Int) + 1)).d 0) (star (rd (fun W => RdL W B2 (allR ls k).length h2 (allR ls k))) (XC w1.heap.size bd bl (.slice Af k cf) k (.slice Aa (allH ls k).length ca) (allH ls k).length (allH ls k))))) => show Calls Tryz.prog 18 #[.slice B2 (allR ls k).length c2, .slice Aa (allH ls k).length ca] W fun e w' => e = .returned (.bool true) ∧ PB w1.heap.size bd bl w' ∧ In w w' (star (PL bd bl 16384 [] 2 (allS [] (concatS 16384 [] 2 d 0 (filesN k)).d ((k : Int) + 1)).d 0) (star (rd (fun W => RdL W B2 (allR ls k).length h2 (allR ls k))) (XC w1.heap.size bd bl (.slice Af k cf) k (.slice Aa (allH ls k).length ca) (allH ls k).length (allH ls k)))) from by
          have h1 := V.right.left.get fun S h => rd_get h
          have h3 := all_rdl HL.out V.bel (Rd1.of_own (V.right.right.right.left.get fun S h => h.1)).2
          have hL2 : (allR ls k).length = (allH ls k).length := h3.len
          rw [hL2] at h1 ⊢
          refine (samelist_rdl h1 h3).mono fun e w' hh => ?_
          have V2 := V.below (star_good (PL_good _ _ _ _ _ _ _) (star_good (rd_good _) XC_good)) hh.2
          rw [hL2] at V2
          exact ⟨hh.1, XC_cells V2.right, V2⟩)
        have CK := Lib.hid (fun W B2 h2 (V : In w W (star (PL bd bl 16384 [] 2 (allS [] (concatS 16384 [] 2 d 0 (filesN k)).d ((k : Int) + 1)).d 0) (star (rd (fun W => RdL W B2 (allR ls k).length h2 (allR ls k))) (XC w1.heap.size bd bl (.slice Af k cf) k (.slice Aa (allH ls k).length ca) (allH ls k).length (allH ls k))))) => k_clean (star_good (rd_good _) XC_good) V ((k : Int) + 1) (by rw [hfs4, hfl3]; push_cast; rfl))
        rw [hnum, OK.e] at CC
        rw [← hM.out] at CWd
        obtain ⟨z3, hz3⟩ : ∃ z, z = (concatS 16384 [] 2 d 0 (filesN k)).d := ⟨_, rfl⟩
        simp only [← hz3] at CC CA CSm CK
        obtain ⟨z4, hz4⟩ : ∃ z, z = (allS [] z3 ((k : Int) + 1)).d := ⟨_, rfl⟩
        simp only [← hz4] at CA CSm CK
        obtain ⟨rl, hrl⟩ : ∃ z, z = (allR ls k).length := ⟨_, rfl⟩
        simp only [← hrl] at CA CSm CK
        have V0 := Lib.hid V
        have hcase : decide (gone < 0) = true ∨ (decide (gone < 0) = false ∧ decide ((k : Int) ≤ gone) = true) := by
          by_cases h : gone < 0
          · exact .inl (by simpa using h)
          · exact .inr ⟨by simpa using h, by simp; omega⟩
        clear V E OK hnum hle3 hh3 hfl3 hfs4 hfl0 hz3 hz4 hrl CS HS hM hL hth hll HL
        rcases hcase with g1 | ⟨g1, g2⟩
        all_goals
          go_wp2_with (first
            | (go_at_call 32; (with_reducible refine (CWd.out _ V0.out).mono ?_); rintro e w3 ⟨rfl, ⟨j0, j1, j2⟩, V⟩; have V3 := Lib.hid V; clear V CWd V0)
            | (go_at_call 33; (with_reducible refine (CC.out _ V3.out).mono ?_); rintro e w4 ⟨rfl, ⟨i0, i1, i2⟩, V⟩; have V4 := Lib.hid V; clear V CC V3)
            | (go_at_call 16; (with_reducible refine (CA.out _ V4.out).mono ?_); rintro e w5 ⟨B2, c2, h2, rfl, ⟨o0, o1, o2⟩, V⟩; have V5 := Lib.hid V; clear V CA V4)
            | (go_at_call 18; (with_reducible refine (CSm.out _ _ _ _ V5.out).mono ?_); rintro e w6 ⟨rfl, ⟨u0, u1, u2⟩, V⟩; have V6 := Lib.hid V; clear V CSm V5)
            | (go_at_call 15; (with_reducible refine (CK.out _ _ _ V6.out).mono ?_); rintro e w7 ⟨rfl, b⟩; have V7 := Lib.hid b; clear b V6))
          go_ret
          exact ⟨by trivial, V7.out⟩
      · obtain ⟨g, rfl⟩ : ∃ g : Nat, gone = g := ⟨gone.toNat, by omega⟩
        have hgk : g < k := by omega
        obtain ⟨E, e4, n0, hfl⟩ := ct_gone CS hll hn hgk rfl
        have cellF : ∀ {Af W dd}, In w W (star (PL bd bl 16384 [] 2 dd 0) (XC w1.heap.size bd bl (.slice Af k cf) k (.slice Aa (allH ls k).length ca) (allH ls k).length (allH ls k))) → ∃ af, Af = some af ∧ W.cell? (af.add g) = some (.int .i64 ((g + 1 : Nat) : Int)) := fun V' => by
          obtain ⟨af, ea, hc⟩ := (Rd1.of_own (V'.right.left.get fun S h => h.1)).2.at_ hgk
          refine ⟨af, ea, ?_⟩
          rw [hc, List.getElem?_map, filesN_get hgk]
          rfl
        obtain ⟨af, rfl, hcf⟩ := cellF V
        have CF := Lib.hid (fun W dd (V : In w W (star (PL bd bl 16384 [] 2 dd 0) (XC w1.heap.size bd bl (.slice (some af) k cf) k (.slice Aa (allH ls k).length ca) (allH ls k).length (allH ls k)))) => show W.cell? (af.add g) = some (.int .i64 ((g + 1 : Nat) : Int)) from by
          obtain ⟨af', ea, hc⟩ := cellF V
          injection ea with ea
          subst ea
          exact hc)
        have CRm := Lib.hid (fun W (V : In w W (star (PL bd bl 16384 [] 2 d 0) (XC w1.heap.size bd bl (.slice (some af) k cf) k (.slice Aa (allH ls k).length ca) (allH ls k).length (allH ls k)))) => c_remove (m := ((g + 1 : Nat) : Int)) (wf_i64 (by omega) (by omega)) V)
        have CWd := Lib.hid (fun W (V : In w W (star (PL bd bl 16384 [] 2 (d.del ((g + 1 : Nat) : Int)) 0) (XC w1.heap.size bd bl (.slice (some af) k cf) k (.slice Aa (allH ls k).length ca) (allH ls k).length (allH ls k)))) => c_widest E hn V)
        have CC := Lib.hid (fun W (V : In w W (star (PL bd bl 16384 [] 2 (d.del ((g + 1 : Nat) : Int)) 0) (XC w1.heap.size bd bl (.slice (some af) k cf) k (.slice Aa (allH ls k).length ca) (allH ls k).length (allH ls k)))) => c_concat E hn V)
        have CK := Lib.hid (fun W (V : In w W (star (PL bd bl 16384 [] 2 (concatS 16384 [] 2 (d.del ((g + 1 : Nat) : Int)) 0 (filesN k)).d 0) (XC w1.heap.size bd bl (.slice (some af) k cf) k (.slice Aa (allH ls k).length ca) (allH ls k).length (allH ls k)))) => k_clean XC_good V ((k : Int) - 1) hfl)
        rw [e4, n0] at CC
        rw [← hM.out] at CWd
        obtain ⟨z3, hz3⟩ : ∃ z, z = (concatS 16384 [] 2 (d.del ((g + 1 : Nat) : Int)) 0 (filesN k)).d := ⟨_, rfl⟩
        simp only [← hz3] at CC CK
        obtain ⟨f, hf⟩ : ∃ f : Int, f = ((g + 1 : Nat) : Int) := ⟨_, rfl⟩
        simp only [← hf] at CF CRm CWd CC
        have V0 := Lib.hid V
        have g1 : decide ((g : Int) < 0) = false := by simp
        have g2 : decide (k ≤ g) = false := by simp; omega
        clear V E e4 n0 hfl hz3 CS HS hM hL hth hll HL hf hcf cellF
        go_wp2
        refine wp_region_held (S := (fun w' : World => ∃ d, In w w' (star (PL bd bl 16384 [] 2 d 0) (XC w1.heap.size bd bl (.slice (some af) k cf) k (.slice Aa (allH ls k).length ca) (allH ls k).length (allH ls k))))) (by kernel_rfl) ?_
        change wpAnyH _ _ _ _ _ _ _ _ (World.drew _)
        have nS : (fun w' : World => ∃ d, In w w' (star (PL bd bl 16384 [] 2 d 0) (XC w1.heap.size bd bl (.slice (some af) k cf) k (.slice Aa (allH ls k).length ca) (allH ls k).length (allH ls k)))) wr.drew := ⟨d, in_drew (star_good (PL_good _ _ _ _ _ _ _) XC_good) V0.out⟩
        refine wpAnyH_take (i := 0) (oi := { dst := some 91, op := .load 29 (.tmp 5), type := _, pos := _, after := _, guard := none }) (v := pv bd bl) rfl (by kernel_rfl) (by kernel_rfl) (by kernel_rfl) (fun _ _ _ h => h) (Or.inl ⟨by rfl, ?_⟩) nS ?_
        · intro w7 hSw
          try dsimp only at hSw
          obtain ⟨dd, VV⟩ := hSw
          obtain ⟨p0, p1, p2⟩ := XC_cells VV
          go_simp
        try simp only [Act.put, List.setIfInBounds_toArray, List.set_cons_zero, List.set_cons_succ]
        refine wpAnyH_take (i := 1) (oi := { dst := some 92, op := .move (.tmp 7), type := _, pos := _, after := _, guard := none }) (v := .slice (some af) k cf) rfl (by kernel_rfl) (by kernel_rfl) (by kernel_rfl) (fun _ _ _ h => h) (Or.inl ⟨by rfl, ?_⟩) nS ?_
        · intro w7 hSw
          try dsimp only at hSw
          go_simp
        try simp only [Act.put, List.setIfInBounds_toArray, List.set_cons_zero, List.set_cons_succ]
        refine wpAnyH_take (i := 2) (oi := { dst := some 93, op := .move (.tmp 1), type := _, pos := _, after := _, guard := none }) (v := .int .i64 (g : Int)) rfl (by kernel_rfl) (by kernel_rfl) (by kernel_rfl) (fun _ _ _ h => h) (Or.inl ⟨by rfl, ?_⟩) nS ?_
        · intro w7 hSw
          try dsimp only at hSw
          go_simp
        try simp only [Act.put, List.setIfInBounds_toArray, List.set_cons_zero, List.set_cons_succ]
        refine wpAnyH_take (i := 3) (oi := { dst := some 94, op := .indexAddr 22 (.tmp 92) (.tmp 93), type := _, pos := _, after := _, guard := none }) (v := .pointer (some (af.add g))) rfl (by kernel_rfl) (by kernel_rfl) (by kernel_rfl) (fun _ _ _ h => h) (Or.inl ⟨by rfl, ?_⟩) nS ?_
        · intro w7 hSw
          try dsimp only at hSw
          go_simp
        try simp only [Act.put, List.setIfInBounds_toArray, List.set_cons_zero, List.set_cons_succ]
        refine wpAnyH_take (i := 4) (oi := { dst := some 95, op := .load 3 (.tmp 94), type := _, pos := _, after := _, guard := none }) (v := .int .i64 f) rfl (by kernel_rfl) (by kernel_rfl) (by kernel_rfl) (fun _ _ _ h => h) (Or.inl ⟨by rfl, ?_⟩) nS ?_
        · intro w7 hSw
          try dsimp only at hSw
          obtain ⟨dd, VV⟩ := hSw
          have p0 := CF.out _ _ VV
          go_simp
        try simp only [Act.put, List.setIfInBounds_toArray, List.set_cons_zero, List.set_cons_succ]
        refine wpAnyH_all (rs := [5]) (by kernel_rfl) (by simp) (fun y hy => ?_)
        obtain rfl := List.mem_singleton.1 hy
        clear hy
        refine wpOp_step (o := { dst := some 96, op := .buildSlice 22 1 #[(0, .tmp 95)], type := _, pos := _, after := _, guard := none }) (by simp; exact ⟨rfl, rfl, rfl⟩) (fun K hK => ?_)
        go_simp
        refine hK _ _ ⟨⟨d, in_alloc (star_good (PL_good _ _ _ _ _ _ _) XC_good) (in_drew (star_good (PL_good _ _ _ _ _ _ _) XC_good) V0.out) _⟩, ?_⟩
        clear hK K
        go_simp
        try simp only [Act.put, List.setIfInBounds_toArray, List.set_cons_zero, List.set_cons_succ]
        refine wpAnyH_all (rs := [6]) (by kernel_rfl) (by simp) (fun y hy => ?_)
        obtain rfl := List.mem_singleton.1 hy
        clear hy
        refine wpOp_step (o := { dst := some 97, op := .call { callee := .value (.func 20), args := #[.tmp 91, .tmp 96], argTypes := #[29, 22 ] }, type := _, pos := _, after := _, guard := none }) (by simp; exact ⟨rfl, rfl, rfl⟩) (fun K hK => ?_)
        go_simp
        go_at_call 20
        refine (CRm.out _ (in_drew (star_good (PL_good _ _ _ _ _ _ _) XC_good) V0.out)).mono ?_
        rintro e w3 ⟨rfl, V⟩
        obtain ⟨l0, l1, l2⟩ := XC_cells V
        have V3 := Lib.hid V
        refine hK _ _ ⟨⟨_, V⟩, ?_⟩
        clear hK K V CRm
        go_simp
        try simp only [Act.put, List.setIfInBounds_toArray, List.set_cons_zero, List.set_cons_succ]
        refine wpAnyH_done (by kernel_rfl) ?_ _
        clear nS V0
        go_wp2_with (first
          | (go_at_call 32; (with_reducible refine (CWd.out _ V3.out).mono ?_); rintro e w4 ⟨rfl, ⟨j0, j1, j2⟩, V⟩; have V4 := Lib.hid V; clear V CWd V3)
          | (go_at_call 33; (with_reducible refine (CC.out _ V4.out).mono ?_); rintro e w5 ⟨rfl, ⟨i0, i1, i2⟩, V⟩; have V5 := Lib.hid V; clear V CC V4)
          | (go_at_call 15; (with_reducible refine (CK.out _ V5.out).mono ?_); rintro e w7 ⟨rfl, b⟩; have V7 := Lib.hid b; clear b V5))
        go_ret
        exact ⟨by trivial, V7.out⟩
theorem FanoutConcats.walk {w : World} (A : Option Addr) (n c : Nat) (ls : List Lx) (hl : RdLL w A n ls) (gone : Int) (wg : (Lit.int .i64 gone).wf = true) :
    Calls Tryz.prog 6 #[.slice A n c, .int .i64 gone] w fun e w' => e = .returned (.bool true) ∧ Below w.heap.size w w' := by
  by_cases h : 20 < n
  · exact concats_big hl h
  · exact concats_small hl wg (by omega)
end Go.Proofs.YtkbapoeilcapfaaGreat
