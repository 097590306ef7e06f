/- FanoutSplits, FanoutFails, FanoutLevels: the walks. -/
import Derived.Test.YtkbapoeilcapfaaGreatMP
import Derived.Test.YtkbapoeilcapfaaGreatMG
import Derived.SliceStrings
import Derived.Deep.Slices
import Derived.Deep.Fields
import Derived.ChangeArms
import Derived.Test.YtkbapoeilcapfaaGreatMQ
import Derived.Test.YtkbapoeilcapfaaGreatMB
import Derived.Test.YtkbapoeilcapfaaGreatMD
/- Make that fails; a place's variable; faults that come in (from y/YM, y/YO). -/
namespace Go.Proofs.YtkbapoeilcapfaaGreat
open Go.RowKit Go.Maps Go.ChangeShapes Go.WideShapes Go.Deep
set_option linter.unusedVariables false
set_option linter.unusedSimpArgs false
set_option maxRecDepth 6000

theorem make_no {w : World} {R G : Int} {F : List Int} {A : Option Addr} {k c : Nat} (hr : RdI w A k F) (h : ¬ ((0 ≤ R ∧ R ≤ 16384) ∧ (0 ≤ G ∧ G ≤ 16384))) :
    Calls Tryz.prog 10 #[.int .i64 R, .slice A k c, .int .i64 G] w fun e w' => ∃ p q : Option Addr, e = .returned (.tuple #[.agg #[.pointer p, .pointer q, .int .i64 0], .bool false]) ∧ In w w' emp := by
  have zo := (.cells #[.pointer none, .pointer none, .int .i64 0] 29 (0, 0) : Obj)
  have V0 : In w (w.alloc (.cells #[.pointer none, .pointer none, .int .i64 0] 29)) (star emp (blkR w.heap.size (.cells #[.pointer none, .pointer none, .int .i64 0] 29 (0, 0)))) := (In.emp w).blk emp_good _
  have gF : Good (star emp (blkR w.heap.size (.cells #[.pointer none, .pointer none, .int .i64 0] 29 (0, 0)))) := star_good emp_good (blkR_good _ _)
  have key : ∃ ed el : Int, (ed = 0 → el ≠ 0) ∧ (Calls Tryz.prog 45 #[.int .i64 R, .slice A k c] (w.alloc (.cells #[.pointer none, .pointer none, .int .i64 0] 29)) fun e w' => ∃ p, e = .returned (.tuple #[.pointer p, .int .i64 ed]) ∧ In w w' (star emp (blkR w.heap.size (.cells #[.pointer none, .pointer none, .int .i64 0] 29 (0, 0))))) ∧
      ∀ W, In w W (star emp (blkR w.heap.size (.cells #[.pointer none, .pointer none, .int .i64 0] 29 (0, 0)))) → Calls Tryz.prog 46 #[.int .i64 G] W fun e w' => ∃ q, e = .returned (.tuple #[.pointer q, .int .i64 el]) ∧ In w w' (star emp (blkR w.heap.size (.cells #[.pointer none, .pointer none, .int .i64 0] 29 (0, 0)))) := by
    by_cases h1 : 0 ≤ G ∧ G ≤ 16384
    · have h2 : R < 0 ∨ 16384 < R := by omega
      refine ⟨1, 0, fun h => absurd h (by decide), (dnew_no h2).mono fun e w' hh => ⟨none, hh.1, hh.2 ▸ V0⟩, fun W V => ?_⟩
      refine (r_new gF V h1.1 h1.2).mono fun e w' hh => ?_
      obtain ⟨bl, e1, _, h3⟩ := hh
      exact ⟨_, e1, h3.right⟩
    · have h2 : G < 0 ∨ 16384 < G := by omega
      have CN : ∀ W, In w W (star emp (blkR w.heap.size (.cells #[.pointer none, .pointer none, .int .i64 0] 29 (0, 0)))) → Calls Tryz.prog 46 #[.int .i64 G] W fun e w' => ∃ q, e = .returned (.tuple #[.pointer q, .int .i64 1]) ∧ In w w' (star emp (blkR w.heap.size (.cells #[.pointer none, .pointer none, .int .i64 0] 29 (0, 0)))) := fun W V => (new_no h2).mono fun e w' hh => ⟨none, hh.1, hh.2 ▸ V⟩
      by_cases h3 : 0 ≤ R ∧ R ≤ 16384
      · refine ⟨0, 1, fun _ => by decide, ?_, CN⟩
        refine (m_disk (c := c) gF V0 (hr.below ((Below.refl _ _).alloc (Nat.le_refl _) _)) h3.1 h3.2).mono fun e w' hh => ?_
        obtain ⟨bd, e1, h4⟩ := hh
        exact ⟨_, e1, h4.right⟩
      · exact ⟨1, 1, fun h => absurd h (by decide), (dnew_no (by omega)).mono fun e w' hh => ⟨none, hh.1, hh.2 ▸ V0⟩, CN⟩
  obtain ⟨ed, el, hel, CD, CL⟩ := key
  have CD := Lib.hid CD
  have CL := Lib.hid CL
  have CE := Lib.hid (fun (p q : Option Addr) W (V : In w W (star emp (blkR w.heap.size (.cells #[.pointer none, .pointer none, .int .i64 0] 29 (0, 0))))) => show In w (((W.setCell ⟨w.heap.size, 0, none⟩ (.pointer p)).setCell ⟨w.heap.size, 1, none⟩ (.pointer q)).setCell ⟨w.heap.size, 2, none⟩ (.int .i64 0)) (star (blkR w.heap.size (.cells #[.pointer p, .pointer q, .int .i64 0] 29 (0, 0))) emp) from
    (((V.comm.put emp_good 0 (.pointer p)).put emp_good 1 (.pointer q)).put emp_good 2 (.int .i64 0)))
  clear V0 gF h hr zo
  go_enter Tryz.func10, Tryz.ntmps10
  by_cases hed : ed = 0
  · have h1 : (ed == 0) = true := by simpa using hed
    have h2 : (el == 0) = false := by simpa using hel hed
    clear hel hed
    go_wp2_with (first
      | (go_at_call 45; (with_reducible refine CD.out.mono ?_); rintro e w1 ⟨p, rfl, V⟩; have V1 := Lib.hid V; clear V)
      | (go_at_call 46; (with_reducible refine (CL.out _ V1.out).mono ?_); rintro e w2 ⟨q, rfl, V⟩; have hb := V.comm.left.get fun S h => h.1; have hc0 := cell_of_blk hb 0; have hc1 := cell_of_blk hb 1; have hc2 := cell_of_blk hb 2; have hf0 := free_of_blk hb 0; have hf1 := free_of_blk hb 1; have hf2 := free_of_blk hb 2; have V2 := Lib.hid V; clear V hb))
    have V3 := CE.out p q _ V2.out
    have hb := V3.left.get fun S h => h.1
    have V3 := Lib.hid V3.right
    generalize (((w2.setCell { block := w.heap.size, off := 0 } (.pointer p)).setCell { block := w.heap.size, off := 1 } (.pointer q)).setCell { block := w.heap.size, off := 2 } (Value.int IntKind.i64 0)) = W3 at hb V3 ⊢
    have q0 := cell_of_blk hb 0
    have q1 := cell_of_blk hb 1
    have q2 := cell_of_blk hb 2
    clear hc0 hc1 hc2 hf0 hf1 hf2 hb V2 V1 CE CL CD
    refine bodyPost_ret (v := .tuple #[.agg #[.pointer p, .pointer q, .int .i64 0], .bool false]) (by simp [results, Tryz.results10, go_sem, q0, q1, q2]) rfl ?_
    exact ⟨p, q, rfl, V3.out⟩
  · have h1 : (ed == 0) = false := by simpa using hed
    clear hel hed
    go_wp2_with (first
      | (go_at_call 45; (with_reducible refine CD.out.mono ?_); rintro e w1 ⟨p, rfl, V⟩; have V1 := Lib.hid V; clear V)
      | (go_at_call 46; (with_reducible refine (CL.out _ V1.out).mono ?_); rintro e w2 ⟨q, rfl, V⟩; have hb := V.comm.left.get fun S h => h.1; have hc0 := cell_of_blk hb 0; have hc1 := cell_of_blk hb 1; have hc2 := cell_of_blk hb 2; have hf0 := free_of_blk hb 0; have hf1 := free_of_blk hb 1; have hf2 := free_of_blk hb 2; have V2 := Lib.hid V; clear V hb))
    have V3 := CE.out p q _ V2.out
    have hb := V3.left.get fun S h => h.1
    have V3 := Lib.hid V3.right
    generalize (((w2.setCell { block := w.heap.size, off := 0 } (.pointer p)).setCell { block := w.heap.size, off := 1 } (.pointer q)).setCell { block := w.heap.size, off := 2 } (Value.int IntKind.i64 0)) = W3 at hb V3 ⊢
    have q0 := cell_of_blk hb 0
    have q1 := cell_of_blk hb 1
    have q2 := cell_of_blk hb 2
    clear hc0 hc1 hc2 hf0 hf1 hf2 hb V2 V1 CE CL CD
    refine bodyPost_ret (v := .tuple #[.agg #[.pointer p, .pointer q, .int .i64 0], .bool false]) (by simp [results, Tryz.results10, go_sem, q0, q1, q2]) rfl ?_
    exact ⟨p, q, rfl, V3.out⟩
section
variable {w W : World} {bd bl bp : Nat}
abbrev K1 (bp bd bl : Nat) : Res := star (blkR bp (pbox bd bl)) emp
theorem K1_good (bp bd bl : Nat) : Good (K1 bp bd bl) := star_good (blkR_good _ _) emp_good
theorem K1_cells {X : Res} (V : In w W (star X (K1 bp bd bl))) : PB bp bd bl W := by
  have h := V.right.left.get fun S h => h.1
  exact ⟨cell_of_blk h 0, cell_of_blk h 1, cell_of_blk h 2⟩
end
section
variable {H : Type} {enc : TypeId × Value → H} {W : World} {base : Nat} {spare : Nat → Bool} {held : Bool}
theorem ints_in {k : IntKind} {t e : TypeId} (ht : Tryz.prog.underlying t = some (.slice e)) (he : Tryz.prog.underlying e = some (.int k)) (hc : Tryz.prog.cellsOf e = 1) {fuel : Nat} {cs : List Value} {x : DataW H × List MemPlace}
    (h : DataW.trod enc Tryz.prog W base spare held fuel t cs = some x) : ∃ A len cap, ∃ xs : List Int, cs = [.slice A len cap] ∧ xs.length = len ∧ len ≤ 9223372036854775807 ∧ (∀ y ∈ xs, (Lit.int k y).wf = true) ∧ (0 < len → ∃ ad, A = some ad ∧ ad.block < W.heap.size ∧ ∀ j u, (xs.map (Value.int k))[j]? = some u → W.cell? (ad.add j) = some u) := by
  rcases open_ints ht he hc h with ⟨hcs, _⟩ | ⟨x, l, c, zs, hcs, _, hl, hm, hz, _, hcell, hwz⟩
  · exact ⟨none, 0, 0, [], hcs, rfl, by omega, by simp, fun h => absurd h (by omega)⟩
  · have hle : l ≤ zs.length := by rw [hz]; split <;> omega
    refine ⟨_, _, _, zs.take l, hcs, by simp; omega, by simp only [maxLen] at hm; omega, fun y hy => hwz y (List.mem_of_mem_take hy), fun hn => ⟨_, rfl, ?_, fun j u hu => ?_⟩⟩
    · have := World.block_lt_of_cell? W _ (hcell 0 (by omega))
      rwa [add_blk] at this
    · rw [List.getElem?_map, List.getElem?_take] at hu
      split at hu
      · rename_i hj
        rw [hcell j (by omega), List.getD_eq_getElem?_getD]
        rw [List.getElem?_eq_getElem (by omega)] at hu ⊢
        simpa using hu
      · simp at hu
theorem slc_in {A B : Option Addr} {len cap l c : Nat} (h : (Value.slice A len cap).cells.toList = [.slice B l c]) : A = B ∧ len = l ∧ cap = c := by
  simpa [Value.cells] using h
theorem open_faults {A : Option Addr} {len cap : Nat} {d : DataW H} {ps : List MemPlace} (h : DataW.Trod enc Tryz.prog W base spare held 22 (.slice A len cap) d ps) : ∃ xs : List Int, RdI W A len xs := by
  obtain ⟨fuel, hf⟩ := h
  obtain ⟨B, l, c, xs, e, h1, h2, h3, h4⟩ := ints_in Tryz.underlying22 Tryz.underlying3 (by kernel_rfl) hf
  obtain ⟨rfl, rfl, rfl⟩ := slc_in e
  refine ⟨xs, h1, h2, h3, fun hn => ?_⟩
  obtain ⟨ad, e, hb, hc⟩ := h4 hn
  exact ⟨ad, e, hb, fun j x hx => hc j _ (by rw [List.getElem?_map, hx]; rfl)⟩
end
end Go.Proofs.YtkbapoeilcapfaaGreat

/- fanout's laws: rows that are too many; the document's parts; how much was held at most. -/
namespace Go.Proofs.YtkbapoeilcapfaaGreat
open Go.RowKit Go.Maps
set_option linter.unusedVariables false
set_option linter.unusedSimpArgs false
set_option maxRecDepth 6000

theorem flarge {w : World} {A : Option Addr} {n c : Nat} {hds : List Value} {rows : List (List V)} (hl : RdL w A n hds rows) :
    Calls Tryz.prog 27 #[.slice A n c] w fun e w' => ∃ b, e = .returned (.bool b) ∧ w' = w ∧ (b = false → n ≤ 300) := by
  have hn := hl.hd.2.1
  by_cases h3 : 300 < n
  · clear hl
    go_enter Tryz.func27, Tryz.ntmps27
    go_wp2
    go_ret
    exact ⟨true, rfl, rfl, by simp⟩
  · go_enter Tryz.func27, Tryz.ntmps27
    go_wp2
    go_loopw [3] (fun i wr => ∃ k : Nat, k ≤ n ∧ i = .int .i64 k ∧ wr = w) (fun i _ => n - (intOf i).toNat)
    case atStart => exact ⟨0, by omega, rfl, rfl⟩
    case round =>
      obtain ⟨k, hk, rfl, rfl⟩ := hrel
      by_cases hlt : k < n
      · obtain ⟨ad, B, m, cc, r, rfl, had, hrk, hdk, hcell, hrv⟩ := hl.at_ hlt
        have hm := hrv.max
        clear hl hrk hdk hrv
        by_cases h1 : 60 < m
        · go_wp2
          go_ret
          exact ⟨true, rfl, rfl, by simp⟩
        · go_wp2
          go_roundw
          case rel => exact ⟨k + 1, by omega, by go_num, by trivial⟩
          case measure => simp [intOf]; omega
      · clear hl
        go_wp2
        go_ret
        exact ⟨false, rfl, rfl, fun _ => by omega⟩
theorem RdI.rd1 {w : World} {A : Option Addr} {n : Nat} {xs : List Int} (h : RdI w A n xs) : Rd1 w A n (i64s xs) := by
  refine ⟨by simpa using h.1, h.2.1, fun hn => ?_⟩
  obtain ⟨ad, e, hb, hc⟩ := h.2.2.2 hn
  refine ⟨ad, e, hb, fun j u hu => ?_⟩
  rw [List.getElem?_map] at hu
  cases hx : xs[j]? with
  | none => rw [hx] at hu; cases hu
  | some x =>
    rw [hx] at hu
    have : Value.int .i64 x = u := by simpa using hu
    rw [← this]
    exact hc j x hx
section
variable {w0 w W : World} {bd bl : Nat} {R : Int} {F : List Int} {G : Int} {d : Ds} {h : Int} {Fr : Res}
theorem s_most (g : Good Fr) (H : In w0 w (star (PL bd bl R F G d h) Fr)) :
    Calls Tryz.prog 35 #[lp bl] w fun e w' => ∃ mo, mo ≤ G ∧ e = .returned (.int .i64 mo) ∧ In w0 w' (star (PL bd bl R F G d h) Fr) := by
  obtain ⟨K, _⟩ := PL_ok H
  obtain ⟨pk, mo, k, H1⟩ := PL_open H
  refine (H1.left.get fun S ⟨bm, B, hh, _⟩ => lmost hh k).mono fun e w' hh => ?_
  exact ⟨mo, k.most.2, hh.1, H.below (star_good (PL_good _ _ _ _ _ _ _) g) hh.2⟩
end
theorem foldl_putP : ∀ (xs : List (Value × Nat)) (ps : List (List Value)) (i : Nat), (xs.foldl putP ps)[i]? = (ps[i]?).map (· ++ (xs.filter fun x => x.2 == i).map (·.1))
  | [], ps, i => by simp
  | x :: t, ps, i => by
    rw [List.foldl_cons, foldl_putP t]
    unfold putP
    by_cases hi : x.2 = i
    · subst hi
      rw [List.filter_cons_of_pos (by simp), List.map_cons]
      by_cases hl : x.2 < ps.length
      · rw [List.getElem?_set_self hl, List.getElem?_eq_getElem hl, List.getD_eq_getElem?_getD, List.getElem?_eq_getElem hl]
        simp
      · rw [List.getElem?_eq_none (by simpa using hl), List.getElem?_eq_none (by simpa using hl)]
        rfl
    · rw [List.filter_cons_of_neg (by simpa using hi), List.getElem?_set_ne hi]
theorem partsOf_get {F i : Nat} (hi : i < F) (xs : List (Value × Nat)) : (partsOf F xs)[i]? = some ((xs.filter fun x => x.2 == i).map (·.1)) := by
  unfold partsOf
  rw [foldl_putP, List.getElem?_replicate, if_pos hi]
  simp
theorem RdL.of_its {W : World} {B : Option Addr} {k : Nat} {its : List It} (hd : Rd1 W B k (its.map Prod.fst)) (hi : RdIts W its) : RdL W B k (its.map Prod.fst) (its.map Prod.snd) := by
  refine ⟨hd, by have := hd.1; simpa using this, fun j r hr => ?_⟩
  rw [List.getElem?_map] at hr
  cases hx : its[j]? with
  | none => rw [hx] at hr; cases hr
  | some x =>
    rw [hx] at hr
    have e : x.2 = r := by simpa using hr
    obtain ⟨B', m, c, e1, h1⟩ := hi x (List.mem_of_getElem? hx)
    exact ⟨B', m, c, by rw [List.getElem?_map, hx, ← e1]; rfl, by rw [← e]; exact h1⟩
/-- The rows of a part, and their headers. -/
theorem part_its {p : FP} {F i : Nat} {hds : List Value} {rows : Rows} (hl : hds.length = rows.length) :
    ((hds.zip (numsOf p.seed p.level F p.cs rows)).filter fun x => x.2 == i).map (·.1) = ((hds.zip rows).filter fun x => partI p F x.2 == i).map Prod.fst ∧ ((hds.zip rows).filter fun x => partI p F x.2 == i).map Prod.snd = partF p F i rows := by
  constructor
  · unfold numsOf
    rw [List.zip_map_right, List.filter_map, List.map_map]
    rfl
  · unfold partF
    have e : (hds.zip rows).map Prod.snd = rows := List.map_snd_zip (by omega)
    conv => rhs; rw [← e]
    rw [List.filter_map]
    rfl
/-- The document's parts lie there. -/
def WantAt (p : FP) (F g : Nat) (rows : Rows) (W : World) : Prop := ∀ i, i < F → ∃ B k c hs, W.cell? ⟨g, i, none⟩ = some (.slice B k c) ∧ RdL W B k hs (partF p F i rows)
theorem outs_want {p : FP} {w W : World} {F base g : Nat} {hs : List Value} {A : Option Addr} {n : Nat} {hds : List Value} {rows : Rows} (hl : RdL w A n hds rows) (b : Below w.heap.size w W) (O : Outs W base g hs (partsOf F (hds.zip (numsOf p.seed p.level F p.cs rows)))) : WantAt p F g rows W := by
  intro i hi
  have hlen : hs.length = F := by have := O.len; rw [partsOf_length] at this; exact this.symm
  obtain ⟨h0, hh0⟩ : ∃ h0, hs[i]? = some h0 := ⟨_, List.getElem?_eq_getElem (by omega)⟩
  have hp := partsOf_get hi (hds.zip (numsOf p.seed p.level F p.cs rows))
  have ho := O.own i _ _ hh0 hp
  have hll : hds.length = rows.length := by have := hl.hd.1; have := hl.len; omega
  obtain ⟨e1, e2⟩ := part_its (p := p) (F := F) (i := i) hll
  obtain ⟨B, c, rfl⟩ := own_slice ho
  have h1 := (Rd1.of_own ho).2
  have hi2 : RdIts W ((hds.zip rows).filter fun x => partI p F x.2 == i) := fun x hx => (hl.its.2.2.below b) x (List.mem_filter.1 hx).1
  have h2 := RdL.of_its (B := B) (k := (((hds.zip (numsOf p.seed p.level F p.cs rows)).filter fun x => x.2 == i).map (·.1)).length) (by rw [← e1]; exact h1) hi2
  rw [e2] at h2
  exact ⟨B, _, c, _, (cell_of_blk O.blk i).trans (by simpa using hh0), h2⟩
/-- The document's parts as a thing apart. -/
abbrev wantR (w0 : World) (p : FP) (F g : Nat) (rows : Rows) : Res := rd (fun W => Below w0.heap.size w0 W → WantAt p F g rows W)
theorem want_at {w0 W : World} {p : FP} {F g : Nat} {rows : Rows} {X : Res} (V : In w0 W (star (wantR w0 p F g rows) X)) : WantAt p F g rows W := (V.left.get fun S h => rd_get h) V.bel
theorem push_want {w0 w W : World} {p : FP} {F g : Nat} {hs : List Value} {A : Option Addr} {n : Nat} {hds : List Value} {rows : Rows} {R : Res} (hl : RdL w0 A n hds rows) (gR : Good R) (V : In w0 w R) (b : Below w.heap.size w W) (O : Outs W w.heap.size g hs (partsOf F (hds.zip (numsOf p.seed p.level F p.cs rows)))) : In w0 W (star (wantR w0 p F g rows) R) := by
  have hsz : g < W.heap.size := lt_of_heap O.blk
  have V1 := V.add gR b (N := wantR w0 p F g rows) (S' := fun k => w.heap.size ≤ k ∧ k < W.heap.size) ⟨fun k hk => hk.2, fun W2 ht hb => by
      refine outs_want hl hb ((O.turn (w' := W2) (S := fun k => ¬ (w.heap.size ≤ k ∧ k < W.heap.size)) ht ?_ ?_))
      · exact fun h => h ⟨O.ge, hsz⟩
      · intro i h k hh hk hn
        have hl2 : i < (partsOf F (hds.zip (numsOf p.seed p.level F p.cs rows))).length := by rw [O.len]; exact (List.getElem?_eq_some_iff.1 hh).1
        have := (O.own i h _ hh (List.getElem?_eq_getElem hl2)).lt k hk
        exact hn ⟨this.1, this.2⟩⟩ (fun k hk => hk.1)
  exact V1.comm
theorem refsplit21 {w : World} {A C : Option Addr} {n c m cc : Nat} {hds : List Value} {rows : Rows} (p : FP) (F : Nat) (hl : RdL w A n hds rows) (hc : Rd1 w C m (i64s p.cs)) (hm : mayB p.level F = true) (hn : n ≤ 100000) (hmc : m ≤ 100000) :
    Calls Tryz.prog 30 #[.int .u64 p.seed, .int .i64 p.level, .int .i64 F, .slice A n c, .slice C m cc] w (SPost w F (firstE p.cs rows) (partsOf F (hds.zip (numsOf p.seed p.level F p.cs rows)))) := by
  obtain ⟨h1, h2, h3, h4⟩ := mayB_iff.1 hm
  have CS := Lib.hid ((refsplit_walk (c := c) (cc := cc) p.seed p.level p.cs hl hc h1 h2 (show 1 ≤ F by omega) (show F ≤ 64 by omega) hn hmc).mono fun (e : Ending) (w' : World) hh => show ∃ v E, e = .returned (.tuple #[v, .int .i64 E]) ∧ SPost w F (firstE p.cs rows) (partsOf F (hds.zip (numsOf p.seed p.level F p.cs rows))) (.returned (.tuple #[v, .int .i64 E])) w' from by
    rcases hh with ⟨a, g, hs, b, r⟩ | ⟨a, b, r⟩
    · exact ⟨_, _, b, .inl ⟨a, g, hs, rfl, r⟩⟩
    · exact ⟨_, _, b, .inr ⟨a, rfl, r⟩⟩)
  clear hl hc h1 h2 h3 h4 hm hn hmc
  go_enter Tryz.func30, Tryz.ntmps30
  go_wp2_with (go_at_call 71; (with_reducible refine CS.out.mono ?_); rintro e w1 ⟨v, E, rfl, h⟩; have H1 := Lib.hid h; clear h CS)
  go_ret2
  exact H1.out
theorem refsplit21_no (w : World) (p : FP) (F : Int) (v c : Value) (hm : mayB p.level F = false) :
    Calls Tryz.prog 30 #[.int .u64 p.seed, .int .i64 p.level, .int .i64 F, v, c] w fun e w' => e = .returned (.tuple #[.slice none 0 0, .int .i64 1]) ∧ w' = w := by
  have CS := Lib.hid (refsplit_arg w p.seed p.level F v c (may_iff.1 hm))
  clear hm
  go_enter Tryz.func30, Tryz.ntmps30
  go_wp2_with (go_at_call 71; (with_reducible refine CS.out.mono ?_); rintro e w1 ⟨rfl, hw⟩; obtain rfl := hw.symm; clear hw CS)
  go_ret2
  exact ⟨rfl, rfl⟩
theorem pages21 {w : World} {A : Option Addr} {n c : Nat} {hds : List Value} {rows : Rows} (hl : RdL w A n hds rows) (hm : ∀ r ∈ rows, mayE r = 0) (hn : n ≤ 600) :
    Calls Tryz.prog 31 #[.slice A n c] w fun e w' => e = .returned (.int .i64 ((fillG rows).length : Int)) ∧ Below w.heap.size w w' := by
  have CF := Lib.hid ((rfill_walk (c := c) hl hm hn).mono fun (e : Ending) (w' : World) hh => show ∃ A' c', e = .returned (.slice A' (fillG rows).length c') ∧ Below w.heap.size w w' from by
    obtain ⟨A', c', hs2, e1, _, _, b⟩ := hh
    exact ⟨A', c', e1, b⟩)
  obtain ⟨N, hN⟩ : ∃ N, N = (fillG rows).length := ⟨_, rfl⟩
  rw [← hN] at CF ⊢
  clear hl hm hn hN
  go_enter Tryz.func31, Tryz.ntmps31
  go_wp2_with (go_at_call 21; (with_reducible refine CF.out.mono ?_); rintro e w1 ⟨A', c', rfl, b⟩; have B1 := Lib.hid b; clear b CF)
  go_ret
  exact ⟨by trivial, B1.out⟩
end Go.Proofs.YtkbapoeilcapfaaGreat

/- FanoutFails: with little room, few pages, faults. -/
namespace Go.Proofs.YtkbapoeilcapfaaGreat
open Go.RowKit Go.Maps
set_option linter.unusedVariables false
set_option linter.unusedSimpArgs false
set_option maxRecDepth 6000

section
variable {w0 w W : World} {bd bl bp : Nat} {p : FP} {C : Option Addr} {mc cc : Nat} {G : Int} {d : Ds} {h n file N : Int} {X : Res}
theorem split_any (g : Good X) (V : In w0 w (star (PL bd bl p.R p.F G d h) X)) (HC : ∀ W, In w0 W X → Rd1 W C mc (i64s p.cs)) (hw : (Lit.int .i64 file).wf = true) {ps : List Pg} (hf : d.find file = some ps)
    (hN : d.le N) (h0N : 0 ≤ N) (hN8 : N ≤ 800000) (hL : leftN d (rs0 file) ≤ 10000) (hfs : d.fs.length ≤ 32000) :
    Calls Tryz.prog 29 #[pv bd bl, .int .i64 file, .int .u64 p.seed, .int .i64 p.level, .int .i64 n, .slice C mc cc] w (SplitP p bd bl G d h file n w0 X) := by
  by_cases hm : 0 ≤ p.level ∧ p.level ≤ 8 ∧ 1 ≤ n ∧ n ≤ 64
  · by_cases hG : G - h < n + 1
    · exact split_less g V hm hw hf hG
    · obtain ⟨m, rfl⟩ : ∃ m : Nat, n = m := ⟨n.toNat, by omega⟩
      exact split_main g V HC ⟨hm.1, hm.2.1⟩ ⟨by omega, by omega⟩ hw hf (by omega) hN h0N hN8 hL hfs
  · exact split_arg_ g V hm
/-- A place, its variable, and a file's parts. -/
abbrev K1s (bp bd bl : Nat) (v : Value) (n : Nat) (out : List Int) : Res := star (iR v n out) (K1 bp bd bl)
theorem K1s_good {v : Value} {n : Nat} {out : List Int} : Good (K1s bp bd bl v n out) := star_good (iR_good _ _ _) (K1_good _ _ _)
theorem K1s_cells {v : Value} {k : Nat} {out : List Int} {Y : Res} (V : In w W (star Y (K1s bp bd bl v k out))) : PB bp bd bl W := K1_cells (X := iR v k out) V.right
theorem k_make {R G : Int} {F : List Int} {A : Option Addr} {k c : Nat} (hr : RdI w A k F) (h : (0 ≤ R ∧ R ≤ 16384) ∧ (0 ≤ G ∧ G ≤ 16384)) : Calls Tryz.prog 10 #[.int .i64 R, .slice A k c, .int .i64 G] w fun e w' => ∃ bd bl, e = .returned (.tuple #[pv bd bl, .bool true]) ∧ In w (w'.alloc (pbox bd bl)) (star (PL bd bl R F G Ds.new 0) (K1 w'.heap.size bd bl)) :=
  (make_yes emp_good (In.emp w) (fun W hW => hr.below hW.bel) h.1.1 h.1.2 h.2.1 h.2.2).mono fun e w' ⟨bd, bl, h1, h2⟩ => ⟨bd, bl, h1, h2.pushB (star_good (PL_good _ _ _ _ _ _ _) emp_good) _⟩
theorem k_lives {R G : Int} {F : List Int} {Y : Res} (gY : Good Y) (V : In w W (star (PL bd bl R F G d h) (star Y (K1 bp bd bl)))) : Calls Tryz.prog 28 #[] W fun e w' => e = .returned (.bool true) ∧ In w w' (star (PL bd bl R F G d h) (star Y (K1 bp bd bl))) :=
  (flives W).mono fun e w' hh => ⟨hh.1, V.below (star_good (PL_good _ _ _ _ _ _ _) (star_good gY (K1_good _ _ _))) hh.2⟩
theorem k_lives1 {R G : Int} {F : List Int} (V : In w W (star (PL bd bl R F G d h) (K1 bp bd bl))) : Calls Tryz.prog 28 #[] W fun e w' => e = .returned (.bool true) ∧ PB bp bd bl w' ∧ In w w' (star (PL bd bl R F G d h) (K1 bp bd bl)) :=
  (flives W).mono fun e w' hh => by
    have V2 := V.below (star_good (PL_good _ _ _ _ _ _ _) (K1_good _ _ _)) hh.2
    exact ⟨hh.1, K1_cells V2, V2⟩
theorem k_write {R G : Int} {F : List Int} {A : Option Addr} {n c : Nat} {hds : List Value} {rows : Rows} (hl : RdL w A n hds rows) (hn : n ≤ 500) (V : In w W (star (PL bd bl R F G Ds.new 0) (K1 bp bd bl))) :
    Calls Tryz.prog 13 #[pv bd bl, .slice A n c] W fun e w' => e = .returned (.tuple #[.int .i64 (writeS R F G Ds.new 0 rows).n, .int .i64 (writeS R F G Ds.new 0 rows).e]) ∧ PB bp bd bl w' ∧ In w w' (star (PL bd bl R F G (writeS R F G Ds.new 0 rows).d 0) (K1 bp bd bl)) :=
  (s_write (N := 0) (K1_good _ _ _) V (fun W' hW => hl.below hW.bel) ⟨by decide, by decide⟩ (by omega) (by omega)).mono fun e w' hh => by
    unfold WriteP at hh
    exact ⟨hh.1, K1_cells hh.2, hh.2⟩
theorem k_clean {R G : Int} {F : List Int} {Y : Res} (gY : Good Y) (V : In w W (star (PL bd bl R F G d 0) Y)) (i : Int) (hf : (d.fs.length : Int) = i) : Calls Tryz.prog 15 #[pv bd bl, .int .i64 i] W fun e w' => e = .returned (.bool true) ∧ Below w.heap.size w w' := by
  refine (clean_walk gY V i).mono fun e w' hh => ⟨?_, hh.2.bel⟩
  rw [hh.1, hf]
  simp
theorem keys_len {d e : Ds} (h : d.fs.map (·.1) = e.fs.map (·.1)) : d.fs.length = e.fs.length := by
  have := congrArg List.length h
  simpa using this
end
theorem fails_lives {w : World} (P : Ending → World → Prop) (hP : ∀ w', Below w.heap.size w w' → P (.returned (.bool true)) w') : Calls Tryz.prog 28 #[] w P :=
  (flives w).mono fun e w' h => by rw [h.1]; exact hP w' h.2
theorem fails_big {w : World} {R G fan : Int} {F cs : List Int} {A B C : Option Addr} {n k m c cB cC : Nat} {hds : List Value} {rows : Rows} (hl : RdL w A n hds rows) (hr : RdI w B k F) (hc : Rd1 w C m (i64s cs)) (h : 50 < m ∨ 100 < k) :
    Calls Tryz.prog 8 #[.slice A n c, .int .i64 R, .slice B k cB, .int .i64 G, .int .i64 fan, .slice C m cC] w fun e w' => e = .returned (.bool true) ∧ Below w.heap.size w w' := by
  have CL := Lib.hid (flarge (c := c) hl)
  have hk64 := hr.2.1
  have hm64 := hc.2.1
  clear hl hr hc
  by_cases hm : 50 < m
  · clear h
    go_enter Tryz.func8, Tryz.ntmps8
    go_wp2_with (go_at_call 27; (with_reducible refine CL.out.mono ?_); rintro e w1 ⟨b, rfl, hw, hb⟩; obtain rfl := hw.symm; clear hw hb; cases b)
    all_goals go_wp2_with (go_at_call 28; refine (flives _).mono ?_; rintro e w1 ⟨rfl, b⟩)
    all_goals go_ret
    all_goals exact ⟨by trivial, b⟩
  · have hk : 100 < k := by omega
    clear h
    go_enter Tryz.func8, Tryz.ntmps8
    go_wp2_with (go_at_call 27; (with_reducible refine CL.out.mono ?_); rintro e w1 ⟨b, rfl, hw, hb⟩; obtain rfl := hw.symm; clear hw hb; cases b)
    all_goals go_wp2_with (go_at_call 28; refine (flives _).mono ?_; rintro e w1 ⟨rfl, b⟩)
    all_goals go_ret
    all_goals exact ⟨by trivial, b⟩
set_option maxHeartbeats 4000000 in
theorem fails_small {w : World} {R G fan : Int} {F cs : List Int} {A B C : Option Addr} {n k m c cB cC : Nat} {hds : List Value} {rows : Rows} (hl : RdL w A n hds rows) (hr : RdI w B k F) (hc : Rd1 w C m (i64s cs)) (hm : m ≤ 50) (hk : k ≤ 100) (wG : (Lit.int .i64 G).wf = true) (wf : (Lit.int .i64 fan).wf = true) :
    Calls Tryz.prog 8 #[.slice A n c, .int .i64 R, .slice B k cB, .int .i64 G, .int .i64 fan, .slice C m cC] w fun e w' => e = .returned (.bool true) ∧ Below w.heap.size w w' := by
  have CL := Lib.hid (flarge (c := c) hl)
  have HR := Lib.hid hr
  have HL := Lib.hid hl
  have HC := Lib.hid hc
  have hm1 : ¬ 50 < m := by omega
  have hk1 : ¬ 100 < k := by omega
  clear hl hr hc
  go_enter Tryz.func8, Tryz.ntmps8
  go_wp2_with (go_at_call 27; (with_reducible refine CL.out.mono ?_); rintro e w1 ⟨b, rfl, hw, hb⟩; obtain rfl := hw.symm; clear hw; cases b)
  · have hn : n ≤ 300 := by simpa using hb
    clear hb CL
    by_cases hgood : (0 ≤ R ∧ R ≤ 16384) ∧ (0 ≤ G ∧ G ≤ 16384)
    · have hlen : rows.length = n := HL.out.len
      have K0 : SOk R Ds.new := SOk.new hgood.1.1 hgood.1.2
      have law := write_law2 (R := R) (F := F) (G := G) (h := 0) (rows := rows) K0 (by omega) (by decide) (by decide)
      have le1 := writeS_le (R := R) (F := F) (G := G) (d := Ds.new) (h := 0) (rows := rows) (N := 0) ⟨by decide, by decide⟩ (by decide)
      have CM := Lib.hid (k_make (c := cB) HR.out hgood)
      have CV := Lib.hid (fun W bp bd bl (V : In w W (star (PL bd bl R F G Ds.new 0) (K1 bp bd bl))) => k_lives1 V)
      have CW := Lib.hid (fun W bp bd bl (V : In w W (star (PL bd bl R F G Ds.new 0) (K1 bp bd bl))) => k_write (c := c) HL.out (by omega) V)
      obtain ⟨z1, hz1⟩ : ∃ z, z = writeS R F G Ds.new 0 rows := ⟨_, rfl⟩
      rw [← hz1] at law le1 CW
      rcases law with ⟨he, hk0⟩ | ⟨he, hok⟩
      · have he1 : (z1.e != 0) = true := by simpa using he
        have hf0 : (z1.d.fs.length : Int) = 0 := by rw [keys_len hk0]; rfl
        have CK := Lib.hid (fun W bp bd bl (V : In w W (star (PL bd bl R F G z1.d 0) (K1 bp bd bl))) => k_clean (K1_good bp bd bl) V 0 hf0)
        obtain ⟨E, hE⟩ : ∃ E, E = z1.e := ⟨_, rfl⟩
        obtain ⟨Z, hZ⟩ : ∃ E, E = z1.n := ⟨_, rfl⟩
        rw [← hE] at he1
        simp only [← hE, ← hZ] at CW
        clear he hk0 hf0 hz1 hE hZ le1 K0 HR HL HC hgood
        go_wp2_with (first
          | (go_at_call 10; (with_reducible refine CM.out.mono ?_); rintro e w1 ⟨bd, bl, rfl, V⟩; have V1 := Lib.hid V; clear V CM)
          | (go_at_call 28; (with_reducible refine (CV.out _ _ _ _ V1.out).mono ?_); rintro e w2 ⟨rfl, ⟨k0, k1, k2⟩, V⟩; have V2 := Lib.hid V; clear V V1 CV)
          | (go_at_call 13; (with_reducible refine (CW.out _ _ _ _ V2.out).mono ?_); rintro e w3 ⟨rfl, ⟨x0, x1, x2⟩, V⟩; have V3 := Lib.hid V; clear V V2 CW)
          | (go_at_call 15; (with_reducible refine (CK.out _ _ _ _ V3.out).mono ?_); rintro e w7 ⟨rfl, b⟩; have V7 := Lib.hid b; clear b V3))
        go_ret
        exact ⟨by trivial, V7.out⟩
      · have hz : z1.n = 1 := hok.num
        have hnew : z1.d.fs.map (·.1) = [1] := hok.keys
        have hf1 : z1.d.fs.length = 1 := by have := congrArg List.length hnew; simpa using this
        have hh1 : Has z1.d 1 rows := hok.hasp.has
        obtain ⟨ps, hp1, _⟩ := hok.hasp
        have hp1 : z1.d.find 1 = some ps := hp1
        have hmade : z1.d.made ≤ 1000000 := by have := hok.made; rw [this]; decide
        have law2 := split_law (p := ⟨R, F, 3, 1, cs⟩) (G := G) (h := 0) (file := 1) (n := fan) hok.sok hh1 hok.may (by omega) hmade (by omega)
        have CS := Lib.hid (fun W bp bd bl (V : In w W (star (PL bd bl R F G z1.d 0) (K1 bp bd bl))) => (split_any (p := ⟨R, F, 3, 1, cs⟩) (cc := cC) (n := fan) (N := 400) (K1_good _ _ _) V (fun W hW => HC.out.below hW.bel) (by decide) hp1 (le1.mono (by omega)) (by decide) (by decide) (by rw [has_left hh1]; omega) (by omega)).mono fun (e : Ending) (w' : World) hh => show ∃ Ao co, e = .returned (.tuple #[.slice Ao (splitS ⟨R, F, 3, 1, cs⟩ G z1.d 0 1 fan).out.length co, .int .i64 (splitS ⟨R, F, 3, 1, cs⟩ G z1.d 0 1 fan).e]) ∧ PB bp bd bl w' ∧ In w w' (star (PL bd bl R F G (splitS ⟨R, F, 3, 1, cs⟩ G z1.d 0 1 fan).d 0) (K1s bp bd bl (.slice Ao (splitS ⟨R, F, 3, 1, cs⟩ G z1.d 0 1 fan).out.length co) (splitS ⟨R, F, 3, 1, cs⟩ G z1.d 0 1 fan).out.length (splitS ⟨R, F, 3, 1, cs⟩ G z1.d 0 1 fan).out)) from by
          unfold SplitP DoneFP at hh
          obtain ⟨Ao, co, h1, h2⟩ := hh
          exact ⟨Ao, co, h1, K1s_cells h2, h2⟩)
        obtain ⟨z2, hz2⟩ : ∃ z, z = splitS ⟨R, F, 3, 1, cs⟩ G z1.d 0 1 fan := ⟨_, rfl⟩
        rw [← hz2] at law2
        simp only [← hz2] at CS
        rw [hz, he] at CW
        have CT := Lib.hid (fun W bp bd bl v k (V : In w W (star (PL bd bl R F G z2.d 0) (K1s bp bd bl v k z2.out))) => (s_most K1s_good V).mono fun (e : Ending) (w' : World) hh => show ∃ mo, decide (G < mo) = false ∧ e = .returned (.int .i64 mo) ∧ PB bp bd bl w' ∧ In w w' (star (PL bd bl R F G z2.d 0) (K1s bp bd bl v k z2.out)) from by
          obtain ⟨mo, h1, h2, h3⟩ := hh
          exact ⟨mo, by simpa using h1, h2, K1s_cells h3, h3⟩)
        have CK := Lib.hid (fun i (hi : (z2.d.fs.length : Int) = i) W bp bd bl v k (V : In w W (star (PL bd bl R F G z2.d 0) (K1s bp bd bl v k z2.out))) => k_clean (K1s_good (bp := bp) (bd := bd) (bl := bl) (v := v) (n := k) (out := z2.out)) V i hi)
        clear hok hp1 hh1 hz1 hz2 le1 K0 HR HL HC hgood hmade hf1 hz he hlen hn
        rcases law2 with ⟨q, hq, hb2, hG2, ok⟩ | ⟨ne, ho, hk2, n1, n2, n3⟩
        · subst hq
          have CK := Lib.hid (CK.out (1 + (q : Int)) (by
            have := congrArg List.length ok.keys
            rw [List.length_map, List.length_append, hnew, ok.len] at this
            rw [this]
            push_cast
            rfl))
          have hlt : decide ((q : Int) < G) = true := by simp; omega
          have hq64 : q ≤ 64 := by have := (mayB_iff.1 hb2).2.2.2; omega
          rw [ok.e, ok.len] at CS
          clear ok hb2 hG2 hnew
          go_wp2_with (first
            | (go_at_call 10; (with_reducible refine CM.out.mono ?_); rintro e w1 ⟨bd, bl, rfl, V⟩; have V1 := Lib.hid V; clear V CM)
            | (go_at_call 28; (with_reducible refine (CV.out _ _ _ _ V1.out).mono ?_); rintro e w2 ⟨rfl, ⟨k0, k1, k2⟩, V⟩; have V2 := Lib.hid V; clear V V1 CV)
            | (go_at_call 13; (with_reducible refine (CW.out _ _ _ _ V2.out).mono ?_); rintro e w3 ⟨rfl, ⟨x0, x1, x2⟩, V⟩; have V3 := Lib.hid V; clear V V2 CW)
            | (go_at_call 29; (with_reducible refine (CS.out _ _ _ _ V3.out).mono ?_); rintro e w4 ⟨Ao, co, rfl, ⟨y0, y1, y2⟩, V⟩; have V4 := Lib.hid V; clear V V3 CS)
            | (go_at_call 35; (with_reducible refine (CT.out _ _ _ _ _ _ V4.out).mono ?_); rintro e w5 ⟨mo, hmo, rfl, ⟨u0, u1, u2⟩, V⟩; have V5 := Lib.hid V; clear V V4 CT)
            | (go_at_call 15; (with_reducible refine (CK.out _ _ _ _ _ _ V5.out).mono ?_); rintro e w7 ⟨rfl, b⟩; have V7 := Lib.hid b; clear b V5))
          go_ret
          exact ⟨by trivial, V7.out⟩
        · have CK := Lib.hid (CK.out 1 (by rw [keys_len hk2]; have := congrArg List.length hnew; rw [List.length_map] at this; rw [this]; rfl))
          have ne1 : (z2.e == 0) = false := by simpa using ne
          simp only [ho, List.length_nil] at CS CT CK
          cases hmb : mayB 1 fan with
          | false =>
            have e1 := n1 hmb
            have CMay := Lib.hid (fun w => refmay_no w 1 fan (by unfold mayB at hmb; simpa using hmb))
            rw [e1] at CS
            clear ne ho hk2 n1 n2 n3 hnew hmb ne1 e1
            go_wp2_with (first
              | (go_at_call 10; (with_reducible refine CM.out.mono ?_); rintro e w1 ⟨bd, bl, rfl, V⟩; have V1 := Lib.hid V; clear V CM)
              | (go_at_call 28; (with_reducible refine (CV.out _ _ _ _ V1.out).mono ?_); rintro e w2 ⟨rfl, ⟨k0, k1, k2⟩, V⟩; have V2 := Lib.hid V; clear V V1 CV)
              | (go_at_call 13; (with_reducible refine (CW.out _ _ _ _ V2.out).mono ?_); rintro e w3 ⟨rfl, ⟨x0, x1, x2⟩, V⟩; have V3 := Lib.hid V; clear V V2 CW)
              | (go_at_call 29; (with_reducible refine (CS.out _ _ _ _ V3.out).mono ?_); rintro e w4 ⟨Ao, co, rfl, ⟨y0, y1, y2⟩, V⟩; have V4 := Lib.hid V; clear V V3 CS)
              | (go_at_call 35; (with_reducible refine (CT.out _ _ _ _ _ _ V4.out).mono ?_); rintro e w5 ⟨mo, hmo, rfl, ⟨u0, u1, u2⟩, V⟩; have V5 := Lib.hid V; clear V V4 CT)
              | (go_at_call 34; (with_reducible refine (CMay.out _).mono ?_); rintro e w6 ⟨rfl, hw⟩; obtain rfl := hw.symm; clear hw)
              | (go_at_call 15; (with_reducible refine (CK.out _ _ _ _ _ _ V5.out).mono ?_); rintro e w7 ⟨rfl, b⟩; have V7 := Lib.hid b; clear b V5))
            go_ret
            exact ⟨by trivial, V7.out⟩
          | true =>
            have CMay := Lib.hid (fun w => refmay_yes w 1 fan (by decide) (by decide) (mayB_iff.1 hmb).2.2.1 (mayB_iff.1 hmb).2.2.2)
            have hfb := (mayB_iff.1 hmb).2.2
            by_cases hGf : G ≤ fan
            · have e1 := n2 hmb (by omega)
              rw [e1] at CS
              clear ne ho hk2 n1 n2 n3 hnew hmb ne1 e1
              go_wp2_with (first
                | (go_at_call 10; (with_reducible refine CM.out.mono ?_); rintro e w1 ⟨bd, bl, rfl, V⟩; have V1 := Lib.hid V; clear V CM)
                | (go_at_call 28; (with_reducible refine (CV.out _ _ _ _ V1.out).mono ?_); rintro e w2 ⟨rfl, ⟨k0, k1, k2⟩, V⟩; have V2 := Lib.hid V; clear V V1 CV)
                | (go_at_call 13; (with_reducible refine (CW.out _ _ _ _ V2.out).mono ?_); rintro e w3 ⟨rfl, ⟨x0, x1, x2⟩, V⟩; have V3 := Lib.hid V; clear V V2 CW)
                | (go_at_call 29; (with_reducible refine (CS.out _ _ _ _ V3.out).mono ?_); rintro e w4 ⟨Ao, co, rfl, ⟨y0, y1, y2⟩, V⟩; have V4 := Lib.hid V; clear V V3 CS)
                | (go_at_call 35; (with_reducible refine (CT.out _ _ _ _ _ _ V4.out).mono ?_); rintro e w5 ⟨mo, hmo, rfl, ⟨u0, u1, u2⟩, V⟩; have V5 := Lib.hid V; clear V V4 CT)
                | (go_at_call 34; (with_reducible refine (CMay.out _).mono ?_); rintro e w6 ⟨rfl, hw⟩; obtain rfl := hw.symm; clear hw)
                | (go_at_call 15; (with_reducible refine (CK.out _ _ _ _ _ _ V5.out).mono ?_); rintro e w7 ⟨rfl, b⟩; have V7 := Lib.hid b; clear b V5))
              go_ret
              exact ⟨by trivial, V7.out⟩
            · have e1 := n3 hmb (by omega)
              clear n1 n2 n3 hnew ho hk2
              rcases e1 with e1 | e1 | e1
              all_goals
                rw [e1] at CS
                clear ne hmb ne1 e1
                go_wp2_with (first
                  | (go_at_call 10; (with_reducible refine CM.out.mono ?_); rintro e w1 ⟨bd, bl, rfl, V⟩; have V1 := Lib.hid V; clear V CM)
                  | (go_at_call 28; (with_reducible refine (CV.out _ _ _ _ V1.out).mono ?_); rintro e w2 ⟨rfl, ⟨k0, k1, k2⟩, V⟩; have V2 := Lib.hid V; clear V V1 CV)
                  | (go_at_call 13; (with_reducible refine (CW.out _ _ _ _ V2.out).mono ?_); rintro e w3 ⟨rfl, ⟨x0, x1, x2⟩, V⟩; have V3 := Lib.hid V; clear V V2 CW)
                  | (go_at_call 29; (with_reducible refine (CS.out _ _ _ _ V3.out).mono ?_); rintro e w4 ⟨Ao, co, rfl, ⟨y0, y1, y2⟩, V⟩; have V4 := Lib.hid V; clear V V3 CS)
                  | (go_at_call 35; (with_reducible refine (CT.out _ _ _ _ _ _ V4.out).mono ?_); rintro e w5 ⟨mo, hmo, rfl, ⟨u0, u1, u2⟩, V⟩; have V5 := Lib.hid V; clear V V4 CT)
                  | (go_at_call 34; (with_reducible refine (CMay.out _).mono ?_); rintro e w6 ⟨rfl, hw⟩; obtain rfl := hw.symm; clear hw)
                  | (go_at_call 15; (with_reducible refine (CK.out _ _ _ _ _ _ V5.out).mono ?_); rintro e w7 ⟨rfl, b⟩; have V7 := Lib.hid b; clear b V5))
                go_ret
                exact ⟨by trivial, V7.out⟩
    · have CM := Lib.hid ((make_no (c := cB) HR.out hgood).mono fun (e : Ending) (w' : World) ⟨p, q, h1, h2⟩ => show ∃ p q : Option Addr, e = Ending.returned (.tuple #[.agg #[.pointer p, .pointer q, .int .i64 0], .bool false]) ∧ ∀ o, Below w.heap.size w (w'.alloc o) from ⟨p, q, h1, fun o => h2.bel.alloc h2.bel.size _⟩)
      have CV := Lib.hid (fun W (b : Below w.heap.size w W) => (flives W).mono fun (e : Ending) (w' : World) hh => show e = Ending.returned (.bool true) ∧ Below w.heap.size w w' from ⟨hh.1, b.trans (hh.2.mono b.size)⟩)
      clear HR HL HC hgood
      go_wp2_with (first
        | (go_at_call 10; (with_reducible refine CM.out.mono ?_); rintro e w1 ⟨p, q, rfl, V⟩; have V1 := Lib.hid V; clear V CM)
        | (go_at_call 28; (with_reducible refine (CV.out _ (V1.out _)).mono ?_); rintro e w2 ⟨rfl, V⟩; have V2 := Lib.hid V; clear V V1)
        | (go_at_call 28; (with_reducible refine (CV.out _ V2.out).mono ?_); rintro e w3 ⟨rfl, V⟩; have V3 := Lib.hid V; clear V V2))
      go_ret
      exact ⟨by trivial, V3.out⟩
  · clear hb CL HR HL HC
    go_wp2_with (go_at_call 28; refine (flives _).mono ?_; rintro e w1 ⟨rfl, b⟩)
    go_ret
    exact ⟨by trivial, b⟩
theorem FanoutFails.walk {w : World} (A : Option Addr) (n c : Nat) (x : List Value × List (List V)) (hl : RdL w A n x.1 x.2) (R : Int) (wR : (Lit.int .i64 R).wf = true) (B : Option Addr) (k cB : Nat) (F : List Int) (hr : RdI w B k F) (G : Int) (wG : (Lit.int .i64 G).wf = true) (fan : Int) (wf : (Lit.int .i64 fan).wf = true) (C : Option Addr) (m cC : Nat) (cs : List Int) (hc : RdI w C m cs) :
    Calls Tryz.prog 8 #[.slice A n c, .int .i64 R, .slice B k cB, .int .i64 G, .int .i64 fan, .slice C m cC] w fun e w' => e = .returned (.bool true) ∧ Below w.heap.size w w' := by
  by_cases h : 50 < m ∨ 100 < k
  · exact fails_big hl hr hc.rd1 h
  · exact fails_small hl hr hc.rd1 (by omega) (by omega) wG wf
theorem LawFanoutFails.open_SInt {H : Type} {enc : TypeId × Value → H} {W : World} {base : Nat} {spare : Nat → Bool} {held : Bool} {A : Option Addr} {len cap : Nat} {d : DataW H} {ps : List MemPlace} (h : DataW.Trod enc Tryz.prog W base spare held 22 (.slice A len cap) d ps) : ∃ xs : List Int, RdI W A len xs := open_faults h
end Go.Proofs.YtkbapoeilcapfaaGreat

/- FanoutSplits: any file is parted. -/
namespace Go.Proofs.YtkbapoeilcapfaaGreat
open Go.RowKit Go.Maps
set_option linter.unusedVariables false
set_option linter.unusedSimpArgs false
set_option maxRecDepth 6000

section
variable {w w0 W : World} {bd bl bp : Nat} {p : FP} {q g i : Nat} {rows : Rows} {Ao : Option Addr} {co : Nat} {out : List Int} {d0 : Ds} {N : Int}
abbrev X5 (w : World) (bd bl bp : Nat) (p : FP) (q g : Nat) (rows : Rows) (Ao : Option Addr) (co : Nat) (out : List Int) : Res := star (iR (.slice Ao q co) q out) (star (wantR w p q g rows) (K1 bp bd bl))
theorem X5_good : Good (X5 w bd bl bp p q g rows Ao co out) := star_good (iR_good _ _ _) (star_good (rd_good _) (K1_good _ _ _))
/-- A state of the loop over the parts. -/
structure SpSt (w wr : World) (bd bl bp : Nat) (p : FP) (q g : Nat) (rows : Rows) (Ao : Option Addr) (co : Nat) (out : List Int) (d0 : Ds) (i : Nat) (N : Int) : Prop where
  ex : ∃ d, In w wr (star (PL bd bl 16384 [] 100 d 0) (X5 w bd bl bp p q g rows Ao co out)) ∧ d.fs = d0.fs ∧ d.le (N + 1000 * i)
theorem fs_find {d : Ds} (h : d.fs = d0.fs) (n : Int) : d.find n = d0.find n := by unfold Ds.find; rw [h]
theorem sp_round (S : SpSt w W bd bl bp p q g rows Ao co out d0 i N) (hi : i < q) (ho : ∀ i n, out[i]? = some n → HasP d0 n (partF p q i rows)) (hwf : ∀ n ∈ out, (Lit.int .i64 n).wf = true) (hN : 0 ≤ N ∧ N ≤ 1000000) (hq : q ≤ 64) (hr : rows.length ≤ 900) :
    ∃ ad n, Ao = some ad ∧ W.cell? (ad.add i) = some (.int .i64 n) ∧ PB bp bd bl W ∧ Calls Tryz.prog 16 #[pv bd bl, .int .i64 n] W.drew fun e w' => ∃ B2 k2 c2 Bw cw, e = .returned (.tuple #[.slice B2 k2 c2, .int .i64 0]) ∧ (PB bp bd bl w' ∧ w'.cell? (ad.add i) = some (.int .i64 n)) ∧ w'.cell? ⟨g, i, none⟩ = some (.slice Bw k2 cw) ∧
      Calls Tryz.prog 18 #[.slice B2 k2 c2, .slice Bw k2 cw] w' fun e w'' => e = .returned (.bool true) ∧ SpSt w w'' bd bl bp p q g rows Ao co out d0 (i + 1) N := by
  obtain ⟨d, V, hfs, hle⟩ := S.ex
  have cellO : ∀ {W' : World} {Y : Res}, In w W' (star Y (X5 w bd bl bp p q g rows Ao co out)) → ∃ ad n, Ao = some ad ∧ out[i]? = some n ∧ W'.cell? (ad.add i) = some (.int .i64 n) ∧ PB bp bd bl W' := fun V' => by
    have h1 := (Rd1.of_own (V'.right.left.get fun S h => h.1)).2
    obtain ⟨ad, ea, hc⟩ := h1.at_ hi
    have hl : i < out.length := by have := h1.1; simp at this; omega
    refine ⟨ad, out[i], ea, List.getElem?_eq_getElem hl, ?_, K1_cells V'.right.right⟩
    rw [hc]
    simp [hl]
  obtain ⟨ad, n, ea, en, hc, hpb⟩ := cellO V
  have hn := hwf n (List.mem_of_getElem? en)
  have hp := ho i n en
  have hh : Has d n (partF p q i rows) := by
    obtain ⟨ps, h1, h2⟩ := hp.has
    exact ⟨ps, by rw [fs_find hfs]; exact h1, h2⟩
  have hE : rrE 100 d 0 n = 0 := by
    obtain ⟨ps, h1, _⟩ := hh
    unfold rrE
    rw [h1]
    rfl
  have K := (PL_ok V).1
  obtain ⟨a1, a2, a3⟩ := all_zero K hh
  have hlen : (partF p q i rows).length ≤ 900 := Nat.le_trans (List.length_filter_le _ _) hr
  have ale : (allS [] d n).d.le (N + 1000 * ((i + 1 : Nat) : Int)) := by
    have := readS_le (F := []) (f := leftN d (rs0 n) + 1) (y := rs0 n) hle
    rw [has_left hh] at this
    unfold allS
    rw [has_left hh]
    exact this.mono (by push_cast; omega)
  refine ⟨ad, n, ea, hc, hpb, ?_⟩
  refine (all_yes X5_good (in_drew (star_good (PL_good _ _ _ _ _ _ _) X5_good) V) hn hE hle (by omega)).mono fun e w' hh' => ?_
  unfold AllP at hh'
  rw [if_neg (by rw [a1]; decide), a2] at hh'
  obtain ⟨B2, c2, hds2, e1, V2⟩ := hh'
  obtain ⟨ad', n', ea', en', hc', hpb'⟩ := cellO V2.right
  rw [ea] at ea'
  injection ea' with ea'
  rw [en] at en'
  injection en' with en'
  subst ea'
  subst en'
  obtain ⟨Bw, kw, cw, hs, hcw, hrw⟩ := want_at V2.right.right.right i hi
  have hk : kw = (partF p q i rows).length := hrw.len.symm
  subst hk
  refine ⟨B2, _, c2, Bw, cw, e1, ⟨hpb', hc'⟩, hcw, ?_⟩
  refine (samelist_rdl (V2.right.left.get fun S h => rd_get h) hrw).mono fun e w'' h2 => ⟨h2.1, (allS [] d n).d, ?_, a3.trans hfs, ale⟩
  exact (V2.below (star_good (PL_good _ _ _ _ _ _ _) (star_good (rd_good _) X5_good)) h2.2).drop
end
theorem splits_big {w : World} {seed level fan : Int} {cs : List Int} {A C : Option Addr} {n m c cC : Nat} {hds : List Value} {rows : Rows} (hl : RdL w A n hds rows) (hc : Rd1 w C m (i64s cs)) (hm : 50 < m) :
    Calls Tryz.prog 5 #[.slice A n c, .int .u64 seed, .int .i64 level, .int .i64 fan, .slice C m cC] w fun e w' => e = .returned (.bool true) ∧ Below w.heap.size w w' := by
  have CL := Lib.hid (flarge (c := c) hl)
  have hm64 := hc.2.1
  clear hl hc
  go_enter Tryz.func5, Tryz.ntmps5
  go_wp2_with (go_at_call 27; (with_reducible refine CL.out.mono ?_); rintro e w1 ⟨b, rfl, hw, hb⟩; obtain rfl := hw.symm; clear hw hb; cases b)
  all_goals go_wp2_with (go_at_call 28; refine (flives _).mono ?_; rintro e w1 ⟨rfl, b⟩)
  all_goals go_ret
  all_goals exact ⟨by trivial, b⟩
/-- What is known before the parts are looked at. -/
structure SpK (w : World) (p : FP) (fan : Int) (A : Option Addr) (n : Nat) (C : Option Addr) (m : Nat) (hds : List Value) (rows : Rows) (z1 : Wt) (z2 : Sp) (ps : List Pg) : Prop where
  hl : RdL w A n hds rows
  hc : Rd1 w C m (i64s p.cs)
  hn : n ≤ 300
  hm : m ≤ 50
  R : p.R = 16384
  F : p.F = []
  z2 : z2 = splitS p 100 z1.d 0 1 fan
  f : z1.d.find 1 = some ps
  left : leftN z1.d (rs0 1) = n
  fs : z1.d.fs.length = 1
  le : z1.d.le 400
section
variable {w W : World} {bd bl bp : Nat} {p : FP} {fan : Int} {A C Ao : Option Addr} {n m c cC k co : Nat} {hds : List Value} {rows : Rows} {z1 : Wt} {z2 : Sp} {ps : List Pg}
theorem SpK.split (H : SpK w p fan A n C m hds rows z1 z2 ps) (V : In w W (star (PL bd bl 16384 [] 100 z1.d 0) (K1 bp bd bl))) :
    Calls Tryz.prog 29 #[pv bd bl, .int .i64 1, .int .u64 p.seed, .int .i64 p.level, .int .i64 fan, .slice C m cC] W fun e w' => ∃ Ao co, e = .returned (.tuple #[.slice Ao z2.out.length co, .int .i64 z2.e]) ∧ In w w' (star (PL bd bl 16384 [] 100 z2.d 0) (K1s bp bd bl (.slice Ao z2.out.length co) z2.out.length z2.out)) := by
  have h := split_any (p := p) (cc := cC) (n := fan) (N := 400) (K1_good _ _ _) (by rw [H.R, H.F]; exact V) (fun W hW => H.hc.below hW.bel) (by decide) H.f H.le (by decide) (by decide) (by rw [H.left]; have := H.hn; omega) (by rw [H.fs]; decide)
  refine h.mono fun e w' hh => ?_
  unfold SplitP DoneFP at hh
  rw [← H.z2, H.R, H.F] at hh
  exact hh
end
set_option maxHeartbeats 4000000 in
theorem splits_small {w : World} {seed level fan : Int} {cs : List Int} {A C : Option Addr} {n m c cC : Nat} {hds : List Value} {rows : Rows} (hl : RdL w A n hds rows) (hc : Rd1 w C m (i64s cs)) (hm : m ≤ 50) :
    Calls Tryz.prog 5 #[.slice A n c, .int .u64 seed, .int .i64 level, .int .i64 fan, .slice C m cC] w fun e w' => e = .returned (.bool true) ∧ Below w.heap.size w w' := by
  have CL := Lib.hid (flarge (c := c) hl)
  have HL := Lib.hid hl
  have HC := Lib.hid hc
  have hm1 : ¬ 50 < m := by omega
  clear hl hc
  go_enter Tryz.func5, Tryz.ntmps5
  go_wp2_with (go_at_call 27; (with_reducible refine CL.out.mono ?_); rintro e w1 ⟨b, rfl, hw, hb⟩; obtain rfl := hw.symm; clear hw; cases b)
  · have hn : n ≤ 300 := by simpa using hb
    clear hb CL
    have hlen : rows.length = n := HL.out.len
    have K0 : SOk 16384 Ds.new := SOk.new (by decide) (by decide)
    have law := write_law2 (R := 16384) (F := []) (G := 100) (h := 0) (rows := rows) K0 (by omega) (by decide) (by decide)
    have le1 := writeS_le (R := 16384) (F := []) (G := 100) (d := Ds.new) (h := 0) (rows := rows) (N := 0) ⟨by decide, by decide⟩ (by decide)
    have CM := Lib.hid (k_make (w := w) (R := 16384) (G := 100) (F := []) (A := none) (k := 0) (c := 0) (RdI.nil w) (by decide))
    have CV := Lib.hid (fun W bp bd bl (V : In w W (star (PL bd bl 16384 [] 100 Ds.new 0) (K1 bp bd bl))) => k_lives1 V)
    have CW := Lib.hid (fun W bp bd bl (V : In w W (star (PL bd bl 16384 [] 100 Ds.new 0) (K1 bp bd bl))) => k_write (c := c) HL.out (by omega) V)
    obtain ⟨z1, hz1⟩ : ∃ z, z = writeS 16384 [] 100 Ds.new 0 rows := ⟨_, rfl⟩
    rw [← hz1] at law le1 CW
    rcases law with ⟨he, hk0⟩ | ⟨he, hok⟩
    · have he1 : (z1.e != 0) = true := by simpa using he
      obtain ⟨E, hE⟩ : ∃ E, E = z1.e := ⟨_, rfl⟩
      obtain ⟨Z, hZ⟩ : ∃ E, E = z1.n := ⟨_, rfl⟩
      rw [← hE] at he1
      simp only [← hE, ← hZ] at CW
      clear he hk0 hz1 hE hZ le1 K0 HL HC
      go_wp2_with (first
        | (go_at_call 10; (with_reducible refine CM.out.mono ?_); rintro e w1 ⟨bd, bl, rfl, V⟩; have V1 := Lib.hid V; clear V CM)
        | (go_at_call 28; (with_reducible refine (CV.out _ _ _ _ V1.out).mono ?_); rintro e w2 ⟨rfl, ⟨k0, k1, k2⟩, V⟩; have V2 := Lib.hid V; clear V V1 CV)
        | (go_at_call 13; (with_reducible refine (CW.out _ _ _ _ V2.out).mono ?_); rintro e w3 ⟨rfl, ⟨x0, x1, x2⟩, V⟩; have V3 := Lib.hid V.bel; clear V V2 CW))
      go_ret
      exact ⟨by trivial, V3.out⟩
    · have hz : z1.n = 1 := hok.num
      have hnew : z1.d.fs.map (·.1) = [1] := hok.keys
      have hf1 : z1.d.fs.length = 1 := by have := congrArg List.length hnew; simpa using this
      have hh1 : Has z1.d 1 rows := hok.hasp.has
      obtain ⟨ps, hp1, _⟩ := hok.hasp
      have hp1 : z1.d.find 1 = some ps := hp1
      have hmade : z1.d.made ≤ 1000000 := by have := hok.made; rw [this]; decide
      have hu1 : z1.d.used ≤ n + 1 := by have := hok.used; rw [show Ds.new.used = 0 from rfl, hlen] at this; omega
      obtain ⟨p, hp⟩ : ∃ p : FP, p = ⟨16384, [], seed, level, cs⟩ := ⟨_, rfl⟩
      have p1 : p.R = 16384 := by rw [hp]
      have p2 : p.F = [] := by rw [hp]
      have p3 : seed = p.seed := by rw [hp]
      have p4 : level = p.level := by rw [hp]
      have p5 : cs = p.cs := by rw [hp]
      clear hp
      subst p3
      subst p4
      subst p5
      have sok1 : SOk p.R z1.d := by rw [p1]; exact hok.sok
      have law2 := split_law (p := p) (G := 100) (h := 0) (file := 1) (n := fan) sok1 hh1 hok.may (by omega) hmade (by omega)
      have zero2 := fun hb hG => split_zero (p := p) (G := 100) (h := 0) (file := 1) (n := fan) sok1 hh1 hok.may (by omega) hmade (by omega) hb hG p2 (by rw [p1]; omega)
      have le2 := splitS_le (p := p) (G := 100) (h := 0) (file := 1) (n := fan) sok1 (by omega) hmade le1 hh1 (by omega)
      obtain ⟨z2, hz2⟩ : ∃ z, z = splitS p 100 z1.d 0 1 fan := ⟨_, rfl⟩
      rw [← hz2] at law2 le2
      simp only [← hz2] at zero2
      have H : SpK w p fan A n C m hds rows z1 z2 ps := ⟨HL.out, HC.out, hn, hm, p1, p2, hz2, hp1, by rw [has_left hh1, hlen], hf1, le1.mono (by omega)⟩
      have CS := Lib.hid (fun W bp bd bl (V : In w W (star (PL bd bl 16384 [] 100 z1.d 0) (K1 bp bd bl))) => (H.split (cC := cC) V))
      rw [hz, he] at CW
      have hmay := hok.may
      clear hok hp1 hh1 hz1 hz2 le1 K0 hmade hf1 hz he sok1 p1 p2
      cases hmb : mayB p.level fan with
      | false =>
        rcases law2 with ⟨q, hq, hb2, _⟩ | ⟨ne, ho, hk2, n1, n2, n3⟩
        · rw [hmb] at hb2; cases hb2
        · have e1 := n1 hmb
          have hfl : (z2.d.fs.length : Int) = 1 := by rw [keys_len hk2]; have := congrArg List.length hnew; rw [List.length_map] at this; rw [this]; rfl
          have CK := Lib.hid (fun W bp bd bl v k (V : In w W (star (PL bd bl 16384 [] 100 z2.d 0) (K1s bp bd bl v k []))) => And.intro (K1s_cells V) (k_clean (K1s_good (bp := bp) (bd := bd) (bl := bl) (v := v) (n := k) (out := [])) V 1 hfl))
          have CR := Lib.hid (fun W v c => refsplit21_no W p fan v c hmb)
          simp only [ho, List.length_nil, e1] at CS
          clear ne ho hk2 n1 n2 n3 hnew hmb e1 hfl zero2 le2 H HL HC hmay
          go_wp2_with (first
            | (go_at_call 10; (with_reducible refine CM.out.mono ?_); rintro e w1 ⟨bd, bl, rfl, V⟩; have V1 := Lib.hid V; clear V CM)
            | (go_at_call 28; (with_reducible refine (CV.out _ _ _ _ V1.out).mono ?_); rintro e w2 ⟨rfl, ⟨k0, k1, k2⟩, V⟩; have V2 := Lib.hid V; clear V V1 CV)
            | (go_at_call 13; (with_reducible refine (CW.out _ _ _ _ V2.out).mono ?_); rintro e w3 ⟨rfl, ⟨x0, x1, x2⟩, V⟩; have V3 := Lib.hid V; clear V V2 CW)
            | (go_at_call 29; (with_reducible refine (CS.out _ _ _ _ V3.out).mono ?_); rintro e w4 ⟨Ao, co, rfl, V⟩; have V4 := Lib.hid V; clear V V3 CS)
            | (go_at_call 30; (with_reducible refine (CR.out _ _ _).mono ?_); rintro e w5 ⟨rfl, hw⟩; obtain rfl := hw.symm; clear hw CR))
          obtain ⟨⟨y0, y1, y2⟩, CK⟩ := CK.out _ _ _ _ _ _ V4.out
          have CK := Lib.hid CK
          clear V4
          go_loopw [19] (fun i wr => i = .int .i64 0 ∧ wr = w4) (fun _ _ => 0)
          case atStart => exact ⟨rfl, rfl⟩
          case round =>
            obtain ⟨rfl, rfl⟩ := hrel
            go_wp2_with (go_at_call 15; (with_reducible refine CK.out.mono ?_); rintro e w7 ⟨rfl, b⟩; have V7 := Lib.hid b; clear b)
            go_ret
            exact ⟨by trivial, V7.out⟩
      | true =>
        obtain ⟨b1, b2, b3, b4⟩ := mayB_iff.1 hmb
        obtain ⟨q, rfl⟩ : ∃ q : Nat, fan = q := ⟨fan.toNat, by omega⟩
        have e2 := zero2 hmb (by omega)
        have hq64 : q ≤ 64 := by omega
        have le3 : z2.d.le 2000 := le2.mono (by rw [Int.toNat_natCast]; push_cast; omega)
        have CR := fun W (V : Below w.heap.size w W) => refsplit21 (c := c) (cc := cC) p q (H.hl.below V) (H.hc.below V) hmb (by omega) (by omega)
        by_cases hE : firstE p.cs rows = 0
        · rw [hE] at e2
          obtain ⟨q', hq', _, _, ok⟩ := law2.resolve_right fun h => h.1 e2
          obtain rfl : q' = q := by omega
          have hfl : z2.d.fs.length = 1 + q' := by
            have := congrArg List.length ok.keys
            rw [List.length_map, List.length_append, hnew, ok.len] at this
            simpa using this
          have CR := Lib.hid (fun W bp bd bl Ao co (V : In w W (star (PL bd bl 16384 [] 100 z2.d 0) (K1s bp bd bl (.slice Ao q' co) q' z2.out))) => (CR W V.bel).mono fun (e : Ending) (w' : World) hh => show ∃ g, e = .returned (.tuple #[.slice (some ⟨g, 0, none⟩) q' q', .int .i64 0]) ∧ SpSt w w' bd bl bp p q' g rows Ao co z2.out z2.d 0 2000 from by
            rcases hh with ⟨_, g, hs, h1, O, b⟩ | ⟨h1, _⟩
            · exact ⟨g, h1, z2.d, (push_want HL.out (star_good (PL_good _ _ _ _ _ _ _) K1s_good) V b O).ac (by dsimp only [K1s, X5]; ac_rfl), rfl, le3.mono (by omega)⟩
            · exact absurd hE h1)
          have RO := Lib.hid (fun bd bl bp g Ao co W i (S : SpSt w W bd bl bp p q' g rows Ao co z2.out z2.d i 2000) (hi : i < q') => sp_round S hi ok.outs (fun n hn => by
            have hkk : n ∈ z2.d.fs.map (·.1) := by rw [ok.keys]; exact List.mem_append_right _ hn
            have := key_le ok.sok hkk
            have := le3.1
            exact wf_i64 (by omega) (by omega)) (by decide) hq64 (by omega))
          have CK := Lib.hid (fun bd bl bp g Ao co W (S : SpSt w W bd bl bp p q' g rows Ao co z2.out z2.d q' 2000) => show PB bp bd bl W ∧ Calls Tryz.prog 15 #[pv bd bl, .int .i64 (1 + (q' : Int))] W fun e w' => e = .returned (.bool true) ∧ Below w.heap.size w w' from by
            obtain ⟨d, V, hd, _⟩ := S.ex
            exact ⟨K1_cells V.right.right, k_clean X5_good V _ (by rw [hd, hfl]; push_cast; rfl)⟩)
          simp only [e2, ok.len] at CS
          clear law2 zero2 le2 le3 H HL HC hmay hE e2 ok hfl hnew hlen hn hu1 b1 b2 b3 b4 hmb hq'
          go_wp2_with (first
            | (go_at_call 10; (with_reducible refine CM.out.mono ?_); rintro e w1 ⟨bd, bl, rfl, V⟩; have V1 := Lib.hid V; clear V CM)
            | (go_at_call 28; (with_reducible refine (CV.out _ _ _ _ V1.out).mono ?_); rintro e w2 ⟨rfl, ⟨k0, k1, k2⟩, V⟩; have V2 := Lib.hid V; clear V V1 CV)
            | (go_at_call 13; (with_reducible refine (CW.out _ _ _ _ V2.out).mono ?_); rintro e w3 ⟨rfl, ⟨x0, x1, x2⟩, V⟩; have V3 := Lib.hid V; clear V V2 CW)
            | (go_at_call 29; (with_reducible refine (CS.out _ _ _ _ V3.out).mono ?_); rintro e w4 ⟨Ao, co, rfl, V⟩; have V4 := Lib.hid V; clear V V3 CS)
            | (go_at_call 30; (with_reducible refine (CR.out _ _ _ _ _ _ V4.out).mono ?_); rintro e w5 ⟨g, rfl, S⟩; have S5 := Lib.hid S; clear S CR V4))
          go_loopw [19] (fun i wr => ∃ k : Nat, k ≤ q' ∧ i = .int .i64 (k : Int) ∧ Hid (SpSt w wr bd bl w1.heap.size p q' g rows Ao co z2.out z2.d k 2000)) (fun i _ => q' - (intOf i).toNat)
          case atStart => exact ⟨0, by omega, rfl, S5⟩
          case round =>
            clear S5
            obtain ⟨k, hk, rfl, HS⟩ := hrel
            by_cases hlt : k < q'
            · obtain ⟨ad, nn, rfl, hcell, ⟨j0, j1, j2⟩, CA⟩ := RO.out _ _ _ _ _ _ _ k HS.out hlt
              have CA := Lib.hid CA
              clear HS CK RO
              go_wp2
              go_region_held3 (fun w' => w'.cell? ⟨w1.heap.size, 0, none⟩ = some (dp bd) ∧ w'.cell? ⟨w1.heap.size, 1, none⟩ = some (lp bl) ∧ w'.cell? ⟨w1.heap.size, 2, none⟩ = some (.int .i64 0) ∧ w'.cell? (ad.add k) = some (.int .i64 nn)) (first | go_keep | (refine ⟨?_, ?_, ?_, ?_⟩ <;> assumption)) (first
                | (go_at_call 16; (with_reducible refine CA.out.mono ?_); rintro e w6 ⟨B2, kk, c2, Bw, cw, rfl, ⟨⟨s0, s1, s2⟩, sc⟩, hcw, CM2⟩; have CM2 := Lib.hid CM2))
              all_goals go_wp2_with (go_at_call 18; (with_reducible refine CM2.out.mono ?_); rintro e w7 ⟨rfl, S⟩; have S7 := Lib.hid S; clear S)
              all_goals go_roundw
              all_goals first
                | exact ⟨k + 1, by omega, by go_num, S7⟩
                | (simp [intOf]; omega)
            · obtain rfl : k = q' := by omega
              obtain ⟨⟨j0, j1, j2⟩, CA⟩ := CK.out _ _ _ _ _ _ _ HS.out
              have CA := Lib.hid CA
              clear HS CK RO
              go_wp2_with (go_at_call 15; (with_reducible refine CA.out.mono ?_); rintro e w7 ⟨rfl, b⟩; have V7 := Lib.hid b; clear b)
              go_ret
              exact ⟨by trivial, V7.out⟩
        · have hne : z2.e ≠ 0 := by rw [e2]; exact hE
          rcases law2 with ⟨q', _, _, _, ok⟩ | ⟨ne, ho, hk2, n1, n2, n3⟩
          · exact absurd ok.e hne
          · have hfl : (z2.d.fs.length : Int) = 1 := by rw [keys_len hk2]; have := congrArg List.length hnew; rw [List.length_map] at this; rw [this]; rfl
            have CK := Lib.hid (fun W bp bd bl v k (V : In w W (star (PL bd bl 16384 [] 100 z2.d 0) (K1s bp bd bl v k []))) => And.intro (K1s_cells V) (k_clean (K1s_good (bp := bp) (bd := bd) (bl := bl) (v := v) (n := k) (out := [])) V 1 hfl))
            have CR := Lib.hid (fun W bp bd bl v k (V : In w W (star (PL bd bl 16384 [] 100 z2.d 0) (K1s bp bd bl v k []))) => (CR W V.bel).mono fun (e : Ending) (w' : World) hh => show e = .returned (.tuple #[.slice none 0 0, .int .i64 z2.e]) ∧ In w w' (star (PL bd bl 16384 [] 100 z2.d 0) (K1s bp bd bl v k [])) from by
              rcases hh with ⟨h1, _⟩ | ⟨_, h1, b⟩
              · exact absurd h1 hE
              · exact ⟨by rw [e2]; exact h1, V.below (star_good (PL_good _ _ _ _ _ _ _) K1s_good) b⟩)
            simp only [ho, List.length_nil] at CS
            obtain ⟨E, hEE⟩ : ∃ E, E = z2.e := ⟨_, rfl⟩
            simp only [← hEE] at CS CR
            clear ne ho hk2 n1 n2 n3 hnew hmb hfl zero2 le2 le3 H HL HC hmay hne hE e2 hEE hlen hn hu1 b1 b2 b3 b4
            go_wp2_with (first
              | (go_at_call 10; (with_reducible refine CM.out.mono ?_); rintro e w1 ⟨bd, bl, rfl, V⟩; have V1 := Lib.hid V; clear V CM)
              | (go_at_call 28; (with_reducible refine (CV.out _ _ _ _ V1.out).mono ?_); rintro e w2 ⟨rfl, ⟨k0, k1, k2⟩, V⟩; have V2 := Lib.hid V; clear V V1 CV)
              | (go_at_call 13; (with_reducible refine (CW.out _ _ _ _ V2.out).mono ?_); rintro e w3 ⟨rfl, ⟨x0, x1, x2⟩, V⟩; have V3 := Lib.hid V; clear V V2 CW)
              | (go_at_call 29; (with_reducible refine (CS.out _ _ _ _ V3.out).mono ?_); rintro e w4 ⟨Ao, co, rfl, V⟩; have V4 := Lib.hid V; clear V V3 CS)
              | (go_at_call 30; (with_reducible refine (CR.out _ _ _ _ _ _ V4.out).mono ?_); rintro e w5 ⟨rfl, V⟩; have V5 := Lib.hid V; clear V V4 CR))
            obtain ⟨⟨y0, y1, y2⟩, CK⟩ := CK.out _ _ _ _ _ _ V5.out
            have CK := Lib.hid CK
            clear V5
            go_loopw [19] (fun i wr => i = .int .i64 0 ∧ wr = w5) (fun _ _ => 0)
            case atStart => exact ⟨rfl, rfl⟩
            case round =>
              obtain ⟨rfl, rfl⟩ := hrel
              go_wp2_with (go_at_call 15; (with_reducible refine CK.out.mono ?_); rintro e w7 ⟨rfl, b⟩; have V7 := Lib.hid b; clear b)
              go_ret
              exact ⟨by trivial, V7.out⟩
  · clear hb CL HL HC
    go_wp2_with (go_at_call 28; refine (flives _).mono ?_; rintro e w1 ⟨rfl, b⟩)
    go_ret
    exact ⟨by trivial, b⟩
theorem FanoutSplits.walk {w : World} (A : Option Addr) (n c : Nat) (x : List Value × List (List V)) (hl : RdL w A n x.1 x.2) (seed : Int) (ws : (Lit.int .u64 seed).wf = true) (level : Int) (wl : (Lit.int .i64 level).wf = true) (fan : Int) (wf : (Lit.int .i64 fan).wf = true) (C : Option Addr) (m cC : Nat) (cs : List Int) (hc : Rd1 w C m (cs.map (Value.int .i64))) :
    Calls Tryz.prog 5 #[.slice A n c, .int .u64 seed, .int .i64 level, .int .i64 fan, .slice C m cC] w fun e w' => e = .returned (.bool true) ∧ Below w.heap.size w w' := by
  by_cases h : 50 < m
  · exact splits_big hl hc h
  · exact splits_small hl hc (by omega)
end Go.Proofs.YtkbapoeilcapfaaGreat

/- FanoutLevels: parted by no columns all rows are in one part. -/
namespace Go.Proofs.YtkbapoeilcapfaaGreat
open Go.RowKit Go.Maps
set_option linter.unusedVariables false
set_option linter.unusedSimpArgs false
set_option maxRecDepth 6000

section
variable {w w0 W : World} {bd bl bp : Nat} {p : FP} {q g i n c : Nat} {rows : Rows} {A Ao : Option Addr} {co : Nat} {out : List Int} {d0 : Ds} {N : Int} {hds : List Value}
theorem toNat_lt {a : Int} {q : Nat} (h0 : 0 ≤ a) (h1 : a < q) : a.toNat < q := by omega
/-- The part in which all rows are. -/
def part0 (p : FP) (q : Nat) : Nat := (partN p.seed p.level q []).toNat
theorem partF_none (hc : p.cs = []) : partF p q i rows = if part0 p q = i then rows else [] := by
  unfold partF
  have h : ∀ r : List V, partI p q r = part0 p q := fun r => by unfold partI part0; rw [hc]; rfl
  by_cases hi : part0 p q = i
  · rw [if_pos hi]
    exact List.filter_eq_self.2 fun r _ => by rw [h r]; simpa using hi
  · rw [if_neg hi]
    exact List.filter_eq_nil_iff.2 fun r _ => by rw [h r]; simpa using hi
theorem firstE_none (hc : p.cs = []) : ∀ rows : Rows, firstE p.cs rows = 0
  | [] => rfl
  | r :: t => by
    have h : rowE p.cs r = 0 := by rw [hc]; unfold rowE; rfl
    unfold firstE
    rw [if_pos h]
    exact firstE_none hc t
/-- How many of the first i parts have rows. -/
def fullN (p : FP) (q : Nat) (rows : Rows) (i : Nat) : Nat := if rows = [] then 0 else if part0 p q < i then 1 else 0
structure LvSt (w wr : World) (bd bl bp q : Nat) (Ao : Option Addr) (co : Nat) (out : List Int) (d0 : Ds) (i : Nat) (N : Int) : Prop where
  ex : ∃ d, In w wr (star (PL bd bl 16384 [] 100 d 0) (K1s bp bd bl (.slice Ao q co) q out)) ∧ d.fs = d0.fs ∧ d.le (N + 1000 * i)
theorem lv_round (S : LvSt w W bd bl bp q Ao co out d0 i N) (hi : i < q) (ho : ∀ i n, out[i]? = some n → HasP d0 n (partF p q i rows)) (hwf : ∀ n ∈ out, (Lit.int .i64 n).wf = true) (hN : 0 ≤ N ∧ N ≤ 1000000) (hq : q ≤ 64) (hr : rows.length ≤ 900) (hl : RdL w A n hds rows) :
    ∃ ad nn, Ao = some ad ∧ W.cell? (ad.add i) = some (.int .i64 nn) ∧ PB bp bd bl W ∧ Calls Tryz.prog 16 #[pv bd bl, .int .i64 nn] W.drew fun e w' => ∃ B2 c2, e = .returned (.tuple #[.slice B2 (partF p q i rows).length c2, .int .i64 0]) ∧ (PB bp bd bl w' ∧ w'.cell? (ad.add i) = some (.int .i64 nn)) ∧ LvSt w w' bd bl bp q Ao co out d0 (i + 1) N ∧
      (partF p q i rows = rows → Calls Tryz.prog 18 #[.slice B2 n c2, .slice A n c] w' fun e w'' => e = .returned (.bool true) ∧ LvSt w w'' bd bl bp q Ao co out d0 (i + 1) N) := by
  obtain ⟨d, V, hfs, hle⟩ := S.ex
  have cellO : ∀ {W' : World} {Y : Res}, In w W' (star Y (K1s bp bd bl (.slice Ao q co) q out)) → ∃ ad n, Ao = some ad ∧ out[i]? = some n ∧ W'.cell? (ad.add i) = some (.int .i64 n) ∧ PB bp bd bl W' := fun V' => by
    have h1 := (Rd1.of_own (V'.right.left.get fun S h => h.1)).2
    obtain ⟨ad, ea, hc⟩ := h1.at_ hi
    have hl : i < out.length := by have := h1.1; simp at this; omega
    refine ⟨ad, out[i], ea, List.getElem?_eq_getElem hl, ?_, K1s_cells V'⟩
    rw [hc]
    simp [hl]
  obtain ⟨ad, nn, ea, en, hc, hpb⟩ := cellO V
  have hn := hwf nn (List.mem_of_getElem? en)
  have hp := ho i nn en
  have hh : Has d nn (partF p q i rows) := by
    obtain ⟨ps, h1, h2⟩ := hp.has
    exact ⟨ps, by rw [fs_find hfs]; exact h1, h2⟩
  have hE : rrE 100 d 0 nn = 0 := by
    obtain ⟨ps, h1, _⟩ := hh
    unfold rrE
    rw [h1]
    rfl
  have K := (PL_ok V).1
  obtain ⟨a1, a2, a3⟩ := all_zero K hh
  have hlen : (partF p q i rows).length ≤ 900 := Nat.le_trans (List.length_filter_le _ _) hr
  have ale : (allS [] d nn).d.le (N + 1000 * ((i + 1 : Nat) : Int)) := by
    have := readS_le (F := []) (f := leftN d (rs0 nn) + 1) (y := rs0 nn) hle
    rw [has_left hh] at this
    unfold allS
    rw [has_left hh]
    exact this.mono (by push_cast; omega)
  refine ⟨ad, nn, ea, hc, hpb, ?_⟩
  refine (all_yes K1s_good (in_drew (star_good (PL_good _ _ _ _ _ _ _) K1s_good) V) hn hE hle (by omega)).mono fun e w' hh' => ?_
  unfold AllP at hh'
  rw [if_neg (by rw [a1]; decide), a2] at hh'
  obtain ⟨B2, c2, hds2, e1, V2⟩ := hh'
  obtain ⟨ad', n', ea', en', hc', hpb'⟩ := cellO V2.right
  rw [ea] at ea'
  injection ea' with ea'
  rw [en] at en'
  injection en' with en'
  subst ea'
  subst en'
  refine ⟨B2, c2, e1, ⟨hpb', hc'⟩, ⟨_, V2.drop, a3.trans hfs, ale⟩, fun hsame => ?_⟩
  have h1 := V2.right.left.get fun S h => rd_get h
  rw [hsame, hl.len] at h1
  refine (samelist_rdl h1 (hl.below V2.bel)).mono fun e w'' h2 => ⟨h2.1, (allS [] d nn).d, ?_, a3.trans hfs, ale⟩
  exact (V2.below (star_good (PL_good _ _ _ _ _ _ _) (star_good (rd_good _) K1s_good)) h2.2).drop
end
set_option maxHeartbeats 4000000 in
theorem FanoutLevels.walk {w : World} (A : Option Addr) (n c : Nat) (x : List Value × List (List V)) (hl : RdL w A n x.1 x.2) (seed : Int) (ws : (Lit.int .u64 seed).wf = true) (level : Int) (wl : (Lit.int .i64 level).wf = true) (fan : Int) (wf : (Lit.int .i64 fan).wf = true) :
    Calls Tryz.prog 7 #[.slice A n c, .int .u64 seed, .int .i64 level, .int .i64 fan] w fun e w' => e = .returned (.bool true) ∧ Below w.heap.size w w' := by
  obtain ⟨hds, rows⟩ := x
  dsimp only at hl
  have CL := Lib.hid (flarge (c := c) hl)
  have HL := Lib.hid hl
  clear hl
  cases hmb : mayB level fan with
  | false =>
    have CMay := Lib.hid (fun w => refmay_no w level fan (by unfold mayB at hmb; simpa using hmb))
    clear HL hmb
    go_enter Tryz.func7, Tryz.ntmps7
    go_wp2_with (first
      | (go_at_call 27; (with_reducible refine CL.out.mono ?_); rintro e w1 ⟨b, rfl, hw, hb⟩; obtain rfl := hw.symm; clear hw hb; cases b)
      | (go_at_call 34; (with_reducible refine (CMay.out _).mono ?_); rintro e w6 ⟨rfl, hw⟩; obtain rfl := hw.symm; clear hw)
      | (go_at_call 28; refine (flives _).mono ?_; rintro e w1 ⟨rfl, b⟩))
    all_goals go_ret
    all_goals exact ⟨by trivial, b⟩
  | true =>
    obtain ⟨b1, b2, b3, b4⟩ := mayB_iff.1 hmb
    obtain ⟨q, rfl⟩ : ∃ q : Nat, fan = q := ⟨fan.toNat, by omega⟩
    have hq64 : q ≤ 64 := by omega
    have CMay := Lib.hid (fun w => refmay_yes w level q b1 b2 b3 b4)
    go_enter Tryz.func7, Tryz.ntmps7
    go_wp2_with (first
      | (go_at_call 27; (with_reducible refine CL.out.mono ?_); rintro e w1 ⟨b, rfl, hw, hb⟩; obtain rfl := hw.symm; clear hw; cases b)
      | (go_at_call 34; (with_reducible refine (CMay.out _).mono ?_); rintro e w6 ⟨rfl, hw⟩; obtain rfl := hw.symm; clear hw))
    · have hn : n ≤ 300 := by simpa using hb
      clear hb CL CMay
      have hlen : rows.length = n := HL.out.len
      have K0 : SOk 16384 Ds.new := SOk.new (by decide) (by decide)
      have law := write_law2 (R := 16384) (F := []) (G := 100) (h := 0) (rows := rows) K0 (by omega) (by decide) (by decide)
      have le1 := writeS_le (R := 16384) (F := []) (G := 100) (d := Ds.new) (h := 0) (rows := rows) (N := 0) ⟨by decide, by decide⟩ (by decide)
      have CM := Lib.hid (k_make (w := w) (R := 16384) (G := 100) (F := []) (A := none) (k := 0) (c := 0) (RdI.nil w) (by decide))
      have CV := Lib.hid (fun W bp bd bl (V : In w W (star (PL bd bl 16384 [] 100 Ds.new 0) (K1 bp bd bl))) => k_lives1 V)
      have CW := Lib.hid (fun W bp bd bl (V : In w W (star (PL bd bl 16384 [] 100 Ds.new 0) (K1 bp bd bl))) => k_write (c := c) HL.out (by omega) V)
      obtain ⟨z1, hz1⟩ : ∃ z, z = writeS 16384 [] 100 Ds.new 0 rows := ⟨_, rfl⟩
      rw [← hz1] at law le1 CW
      rcases law with ⟨he, hk0⟩ | ⟨he, hok⟩
      · have he1 : (z1.e != 0) = true := by simpa using he
        obtain ⟨E, hE⟩ : ∃ E, E = z1.e := ⟨_, rfl⟩
        obtain ⟨Z, hZ⟩ : ∃ E, E = z1.n := ⟨_, rfl⟩
        rw [← hE] at he1
        simp only [← hE, ← hZ] at CW
        clear he hk0 hz1 hE hZ le1 K0 HL b1 b2 b3 b4 hmb
        go_wp2_with (first
          | (go_at_call 10; (with_reducible refine CM.out.mono ?_); rintro e w1 ⟨bd, bl, rfl, V⟩; have V1 := Lib.hid V; clear V CM)
          | (go_at_call 28; (with_reducible refine (CV.out _ _ _ _ V1.out).mono ?_); rintro e w2 ⟨rfl, ⟨k0, k1, k2⟩, V⟩; have V2 := Lib.hid V; clear V V1 CV)
          | (go_at_call 13; (with_reducible refine (CW.out _ _ _ _ V2.out).mono ?_); rintro e w3 ⟨rfl, ⟨x0, x1, x2⟩, V⟩; have V3 := Lib.hid V; clear V V2 CW))
        have B3 := Lib.hid V3.out.bel
        clear V3
        go_ret
        exact ⟨by trivial, B3.out⟩
      · have hz : z1.n = 1 := hok.num
        have hnew : z1.d.fs.map (·.1) = [1] := hok.keys
        have hf1 : z1.d.fs.length = 1 := by have := congrArg List.length hnew; simpa using this
        have hh1 : Has z1.d 1 rows := hok.hasp.has
        obtain ⟨ps, hp1, _⟩ := hok.hasp
        have hp1 : z1.d.find 1 = some ps := hp1
        have hmade : z1.d.made ≤ 1000000 := by have := hok.made; rw [this]; decide
        have hu1 : z1.d.used ≤ n + 1 := by have := hok.used; rw [show Ds.new.used = 0 from rfl, hlen] at this; omega
        obtain ⟨p, hp⟩ : ∃ p : FP, p = ⟨16384, [], seed, level, []⟩ := ⟨_, rfl⟩
        have p1 : p.R = 16384 := by rw [hp]
        have p2 : p.F = [] := by rw [hp]
        have p3 : seed = p.seed := by rw [hp]
        have p4 : level = p.level := by rw [hp]
        have p5 : p.cs = [] := by rw [hp]
        clear hp
        subst p3
        subst p4
        have sok1 : SOk p.R z1.d := by rw [p1]; exact hok.sok
        have law2 := split_law (p := p) (G := 100) (h := 0) (file := 1) (n := (q : Int)) sok1 hh1 hok.may (by omega) hmade (by omega)
        have e2 := split_zero (p := p) (G := 100) (h := 0) (file := 1) (n := (q : Int)) sok1 hh1 hok.may (by omega) hmade (by omega) hmb (by omega) p2 (by rw [p1]; omega)
        rw [firstE_none p5] at e2
        have le2 := splitS_le (p := p) (G := 100) (h := 0) (file := 1) (n := (q : Int)) sok1 (by omega) hmade le1 hh1 (by omega)
        obtain ⟨z2, hz2⟩ : ∃ z, z = splitS p 100 z1.d 0 1 q := ⟨_, rfl⟩
        rw [← hz2] at law2 le2 e2
        have H : SpK w p q A n none 0 hds rows z1 z2 ps := ⟨HL.out, by rw [p5]; exact ⟨rfl, by omega, fun h => absurd h (by omega)⟩, hn, by omega, p1, p2, hz2, hp1, by rw [has_left hh1, hlen], hf1, le1.mono (by omega)⟩
        have CS := Lib.hid (fun W bp bd bl (V : In w W (star (PL bd bl 16384 [] 100 z1.d 0) (K1 bp bd bl))) => (H.split (cC := 0) V))
        rw [hz, he] at CW
        obtain ⟨q', hq', _, _, ok⟩ := law2.resolve_right fun h => h.1 e2
        obtain rfl : q' = q := by omega
        have le3 : z2.d.le 2000 := le2.mono (by rw [Int.toNat_natCast]; push_cast; omega)
        simp only [e2, ok.len] at CS
        have RO := Lib.hid (fun bd bl bp Ao co W i (S : LvSt w W bd bl bp q' Ao co z2.out z2.d i 2000) (hi : i < q') => lv_round (p := p) (c := c) S hi ok.outs (fun n hn => by
          have hkk : n ∈ z2.d.fs.map (·.1) := by rw [ok.keys]; exact List.mem_append_right _ hn
          have := key_le ok.sok hkk
          have := le3.1
          exact wf_i64 (by omega) (by omega)) (by decide) hq64 (by omega) HL.out)
        have S0 := Lib.hid (fun W bd bl bp Ao co (V : In w W (star (PL bd bl 16384 [] 100 z2.d 0) (K1s bp bd bl (.slice Ao q' co) q' z2.out))) => show LvSt w W bd bl bp q' Ao co z2.out z2.d 0 2000 from ⟨z2.d, V, rfl, le3.mono (by omega)⟩)
        have hpq : part0 p q' < q' := by
          have h := part_range p.seed p.level q' [] (by omega) (by omega)
          exact toNat_lt h.1 h.2
        have F0 : fullN p q' rows 0 = 0 := by unfold fullN; split <;> simp
        have Fq : rows ≠ [] → fullN p q' rows q' = 1 := fun h => by unfold fullN; rw [if_neg h, if_pos hpq]
        have Fe : rows = [] → ∀ i, fullN p q' rows i = 0 := fun h i => if_pos h
        have Fy : ∀ i, rows ≠ [] → part0 p q' = i → fullN p q' rows i = 0 ∧ fullN p q' rows (i + 1) = 1 := fun i h e => by
          unfold fullN
          rw [if_neg h, if_neg h, if_neg (by omega), if_pos (by omega)]
          exact ⟨rfl, rfl⟩
        have Fn : ∀ i, (partF p q' i rows).length = 0 → fullN p q' rows (i + 1) = fullN p q' rows i := fun i h => by
          unfold fullN
          by_cases hr : rows = []
          · rw [if_pos hr, if_pos hr]
          · rw [if_neg hr, if_neg hr]
            have hne : part0 p q' ≠ i := fun e => by
              rw [partF_none p5, if_pos e] at h
              exact hr (List.length_eq_zero_iff.1 h)
            by_cases hlt : part0 p q' < i
            · rw [if_pos hlt, if_pos (by omega)]
            · rw [if_neg hlt, if_neg (by omega)]
        have Fw : ∀ i, (partF p q' i rows).length ≠ 0 → partF p q' i rows = rows ∧ (partF p q' i rows).length = n ∧ fullN p q' rows i = 0 ∧ fullN p q' rows (i + 1) = 1 := fun i h => by
          rw [partF_none p5] at h ⊢
          by_cases e : part0 p q' = i
          · rw [if_pos e] at h ⊢
            have hr : rows ≠ [] := fun h2 => h (by rw [h2]; rfl)
            exact ⟨rfl, hlen, Fy i hr e⟩
          · rw [if_neg e] at h
            exact absurd rfl h
        have F0 := Lib.hid F0
        have Fq := Lib.hid Fq
        have Fe := Lib.hid Fe
        have Fn := Lib.hid Fn
        have Fw := Lib.hid Fw
        have HN := Lib.hid hlen
        have FB1 := Lib.hid (show ∀ i, fullN p q' rows i ≤ 1 from fun i => by unfold fullN; split; omega; split <;> omega)
        clear law2 le2 le3 H HL e2 ok hnew hlen hu1 b1 b2 b3 b4 hmb hq' hok hp1 hh1 hz1 hz2 le1 K0 hmade hf1 hz he sok1 p1 p2 p5 hpq Fy
        go_wp2_with (first
          | (go_at_call 10; (with_reducible refine CM.out.mono ?_); rintro e w1 ⟨bd, bl, rfl, V⟩; have V1 := Lib.hid V; clear V CM)
          | (go_at_call 28; (with_reducible refine (CV.out _ _ _ _ V1.out).mono ?_); rintro e w2 ⟨rfl, ⟨k0, k1, k2⟩, V⟩; have V2 := Lib.hid V; clear V V1 CV)
          | (go_at_call 13; (with_reducible refine (CW.out _ _ _ _ V2.out).mono ?_); rintro e w3 ⟨rfl, ⟨x0, x1, x2⟩, V⟩; have V3 := Lib.hid V; clear V V2 CW)
          | (go_at_call 29; (with_reducible refine (CS.out _ _ _ _ V3.out).mono ?_); rintro e w4 ⟨Ao, co, rfl, V⟩; have V4 := Lib.hid (S0.out _ _ _ _ _ _ V); clear V V3 CS S0))
        go_loopw [16, 15] (fun i f wr => ∃ (k j : Nat), k ≤ q' ∧ i = .int .i64 (k : Int) ∧ f = .int .i64 (j : Int) ∧ j ≤ 1 ∧ Hid (j = fullN p q' rows k) ∧ Hid (LvSt w wr bd bl w1.heap.size q' Ao co z2.out z2.d k 2000)) (fun i _ _ => q' - (intOf i).toNat)
        case atStart => exact ⟨0, 0, by omega, rfl, rfl, by omega, Lib.hid F0.out.symm, V4⟩
        case round =>
          clear V4
          obtain ⟨k, j, hk, rfl, rfl, hj1, hj, HS⟩ := hrel
          by_cases hlt : k < q'
          · obtain ⟨ad, nn, rfl, hcell, ⟨j0, j1, j2⟩, CA⟩ := RO.out _ _ _ _ _ _ k HS.out hlt
            have CA := Lib.hid CA
            have Fn := Lib.hid (Fn.out k)
            have Fw := Lib.hid (Fw.out k)
            obtain ⟨L, hL⟩ : ∃ L, L = (partF p q' k rows).length := ⟨_, rfl⟩
            simp only [← hL] at CA Fn Fw
            have hjf := Lib.hid (hj.out)
            clear HS RO hL hj Fq Fe
            by_cases h0 : L = 0
            · have hj2 := Lib.hid (hjf.out.trans (Fn.out h0).symm)
              subst h0
              clear Fn Fw hjf
              go_wp2
              go_region_held3 (fun w' => w'.cell? ⟨w1.heap.size, 0, none⟩ = some (dp bd) ∧ w'.cell? ⟨w1.heap.size, 1, none⟩ = some (lp bl) ∧ w'.cell? ⟨w1.heap.size, 2, none⟩ = some (.int .i64 0) ∧ w'.cell? (ad.add k) = some (.int .i64 nn)) (first | go_keep | (refine ⟨?_, ?_, ?_, ?_⟩ <;> assumption)) (first
                | (go_at_call 16; (with_reducible refine CA.out.mono ?_); rintro e w6 ⟨B2, c2, rfl, ⟨⟨s0, s1, s2⟩, sc⟩, S, _⟩; have S6 := Lib.hid S; clear S))
              all_goals go_wp2
              all_goals go_roundw
              all_goals first
                | exact ⟨k + 1, j, by omega, by go_num, rfl, hj1, hj2, S6⟩
                | (simp [intOf]; omega)
            · obtain ⟨f1, f2, f3, f4⟩ := Fw.out h0
              have hj0 : j = 0 := hjf.out.trans f3
              have hj2 := Lib.hid f4.symm
              have f1 := Lib.hid f1
              subst hj0
              subst f2
              have hL0 : ((L : Int) == 0) = false := by simp; omega
              have hL1 : ((L : Int) != 0) = true := by simp; omega
              have hL2 : decide ((0 : Int) < (L : Int)) = true := by simp; omega
              clear Fn Fw hjf f3 f4
              go_wp2
              go_region_held3 (fun w' => w'.cell? ⟨w1.heap.size, 0, none⟩ = some (dp bd) ∧ w'.cell? ⟨w1.heap.size, 1, none⟩ = some (lp bl) ∧ w'.cell? ⟨w1.heap.size, 2, none⟩ = some (.int .i64 0) ∧ w'.cell? (ad.add k) = some (.int .i64 nn)) (first | go_keep | (refine ⟨?_, ?_, ?_, ?_⟩ <;> assumption)) (first
                | (go_at_call 16; (with_reducible refine CA.out.mono ?_); rintro e w6 ⟨B2, c2, rfl, ⟨⟨s0, s1, s2⟩, sc⟩, _, CM2⟩; have CM2 := Lib.hid (CM2 f1.out)))
              all_goals go_wp2_with (go_at_call 18; (with_reducible refine CM2.out.mono ?_); rintro e w7 ⟨rfl, S⟩; have S7 := Lib.hid S; clear S)
              all_goals go_roundw
              all_goals first
                | exact ⟨k + 1, 1, by omega, by go_num, by go_num, by omega, hj2, S7⟩
                | (simp [intOf]; omega)
          · obtain rfl : k = q' := by omega
            have B7 := Lib.hid (show Below w.heap.size w wr from by
              obtain ⟨d, V, _⟩ := HS.out.ex
              exact V.bel)
            by_cases hr : rows = []
            · have hj0 : j = 0 := hj.out.trans (Fe.out hr k)
              have hn0 : n = 0 := by rw [← HN.out, hr]; rfl
              subst hj0
              subst hn0
              clear HS RO Fn Fw Fq Fe hj
              go_wp2
              go_ret
              exact ⟨by trivial, B7.out⟩
            · have hj0 : j = 1 := hj.out.trans (Fq.out hr)
              subst hj0
              clear HS RO Fn Fw Fq Fe hj
              go_wp2
              go_ret
              exact ⟨by trivial, B7.out⟩
    · clear hb CL HL CMay
      go_wp2_with (go_at_call 28; refine (flives _).mono ?_; rintro e w1 ⟨rfl, b⟩)
      go_ret
      exact ⟨by trivial, b⟩
end Go.Proofs.YtkbapoeilcapfaaGreat
