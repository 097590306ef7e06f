/- SpillDoes: every call of writers and readers, in every order. -/
import Derived.Test.YtkbapoeilcapfaaGreatME
import Derived.Test.YtkbapoeilcapfaaGreatMK
import Derived.SliceStrings
import Derived.Deep.Slices
import Derived.Deep.Fields
import Derived.ChangeArms
import Derived.OrdersHeld
/- the disk: Meter. -/
namespace Go.Proofs.YtkbapoeilcapfaaGreat
open Go.RowKit Go.Maps
set_option linter.unusedVariables false
set_option linter.unusedSimpArgs false
set_option maxRecDepth 6000

section
variable {w : World} {bd bm bf : Nat} {V : Int → Value} {R : Int} {F : List Int} {s : Ds}
abbrev mtr (s : Ds) : Value := .agg #[.int .i64 s.reads, .int .i64 s.writes, .int .i64 s.used, .int .i64 s.peak]
theorem dmeter (H : Dsk w bd bm bf V R F s) : Calls Tryz.prog 25 #[dp bd] w fun e w' => e = .returned (mtr s) ∧ Below w.heap.size w w' := by
  have HR := Lib.hid (dready (H.turn ((Turn.refl (fun _ => False) w).alloc (.cells #[.int .i64 0, .int .i64 0, .int .i64 0, .int .i64 0] 64)) (fun _ _ => id)))
  obtain ⟨c0, c1, c2, c3, c4, c5, c6, c7, c8, hb⟩ := H.cells
  clear H
  go_enter Tryz.func25, Tryz.ntmps25
  go_wp2_with (go_at_call 56; refine HR.out.mono ?_; rintro e w1 ⟨rfl, hw⟩; obtain rfl := hw.symm; clear hw)
  exact ⟨rfl, _, results_cell_row (p := 2) (ty := 64) rfl _ _ w.heap.size 64 _ (0, 0) _ rfl (heap_alloc_new w _) Tryz.underlying64 rfl (by kernel_rfl), rfl, (Below.refl _ _).alloc (Nat.le_refl _) _⟩
end
section
variable {w : World} {S : Nat → Prop} {bd : Nat} {R : Int} {F : List Int} {s : Ds}
theorem d_meter (H : DR bd R F s w S) : Calls Tryz.prog 25 #[dp bd] w fun e w' => e = .returned (mtr s) ∧ Below w.heap.size w w' := by
  obtain ⟨bm, bf, V, h, rfl⟩ := H
  exact dmeter h
end
theorem n_meter (w : World) : Calls Tryz.prog 25 #[NP] w fun e w' => e = .returned (.agg #[.int .i64 0, .int .i64 0, .int .i64 0, .int .i64 0]) ∧ Below w.heap.size w w' := by
  have HR := Lib.hid dready_nil
  go_enter Tryz.func25, Tryz.ntmps25
  go_wp2_with (go_at_call 56; refine (HR.out _).mono ?_; rintro e w1 ⟨rfl, hw⟩; obtain rfl := hw.symm; clear hw)
  exact ⟨rfl, _, results_cell_row (p := 2) (ty := 64) rfl _ _ w.heap.size 64 _ (0, 0) _ rfl (heap_alloc_new w _) Tryz.underlying64 rfl (by kernel_rfl), rfl, (Below.refl _ _).alloc (Nat.le_refl _) _⟩
section
variable {w0 w : World} {Fr : Res} {bd : Nat} {R : Int} {F : List Int} {s : Ds}
theorem v_meter (g : Good Fr) (H : In w0 w (star (DR bd R F s) Fr)) : Calls Tryz.prog 25 #[dp bd] w fun e w' => e = .returned (mtr s) ∧ Below w.heap.size w w' ∧ In w0 w' (star (DR bd R F s) Fr) :=
  H.left.get fun S h1 => (d_meter h1).mono fun e w' h => ⟨h.1, h.2, H.below (star_good (DR_good _ _ _ _) g) h.2⟩
end
end Go.Proofs.YtkbapoeilcapfaaGreat

/- SpillDoes: writers and readers side by side. -/
namespace Go.Proofs.YtkbapoeilcapfaaGreat
open Go.RowKit Go.Maps
set_option linter.unusedVariables false
set_option linter.unusedSimpArgs false
set_option maxRecDepth 6000

/-- A writer and the document's. -/
structure Wq where
  b : Nat
  c : Nat
  x : Ws
  y : Ws
structure Wq.ok (p : Wq) : Prop where
  n : p.x.n = p.y.n
  file : p.x.file = p.y.file
  ended : p.x.ended = p.y.ended
  same : p.x.ended = false → p.x = p.y
/-- A reader and the document's. -/
structure Rq where
  b : Nat
  c : Nat
  y : Rs
section
variable {R : Int} {F : List Int} {d : Ds} {h n : Int} {x : Ws} {r : List V} {p : Wq}
theorem put_ended (hx : x.ended = true) : x.putE R F d r = 6 ∧ x.putD R F d r = d ∧ x.putX R F d r = x := by
  have hs : x.stop r = 6 := if_pos hx
  refine ⟨?_, ?_, ?_⟩
  · unfold Ws.putE; rw [hs, if_pos (by decide)]
  · unfold Ws.putD; rw [hs, if_pos (by decide)]
  · unfold Ws.putX; rw [hs, if_pos (by decide)]
theorem Wq.ok.put (k : p.ok) : p.x.putE R F d r = p.y.putE R F d r ∧ p.x.putD R F d r = p.y.putD R F d r ∧ Wq.ok ⟨p.b, p.c, p.x.putX R F d r, p.y.putX R F d r⟩ := by
  cases hx : p.x.ended with
  | true =>
    obtain ⟨a1, a2, a3⟩ := put_ended (R := R) (F := F) (d := d) (r := r) hx
    obtain ⟨b1, b2, b3⟩ := put_ended (R := R) (F := F) (d := d) (r := r) (x := p.y) (by rw [← k.ended]; exact hx)
    rw [a1, a2, a3, b1, b2, b3]
    exact ⟨rfl, rfl, k.n, k.file, k.ended, k.same⟩
  | false =>
    have e := k.same hx
    rw [e]
    exact ⟨rfl, rfl, rfl, rfl, rfl, fun _ => rfl⟩
theorem Wq.ok.done (k : p.ok) : p.x.doneN R F d = p.y.doneN R F d ∧ p.x.doneE R F d = p.y.doneE R F d ∧ p.x.doneD R F d = p.y.doneD R F d ∧ p.x.endH h = p.y.endH h ∧ Wq.ok ⟨p.b, p.c, p.x.doneX R F d, p.y.yDoneX R F d⟩ := by
  cases hx : p.x.ended with
  | true =>
    have hy : p.y.ended = true := by rw [← k.ended]; exact hx
    have e1 : p.x.doneX R F d = p.x := if_pos hx
    have e2 : p.y.yDoneX R F d = p.y := if_pos hy
    refine ⟨?_, ?_, ?_, ?_, ?_⟩
    · unfold Ws.doneN Ws.doneE; rw [if_pos hx, if_pos hy, if_neg (by decide), if_neg (by decide)]
    · unfold Ws.doneE; rw [if_pos hx, if_pos hy]
    · unfold Ws.doneD; rw [if_pos hx, if_pos hy]
    · unfold Ws.endH; rw [if_pos hx, if_pos hy]
    · rw [e1, e2]
      exact ⟨k.n, k.file, k.ended, k.same⟩
  | false =>
    have e := k.same hx
    have hy : ¬ p.y.ended = true := by rw [← k.ended, hx]; decide
    rw [e]
    refine ⟨rfl, rfl, rfl, rfl, ?_⟩
    have e1 : p.y.doneX R F d = ⟨p.y.file, p.y.n, p.y.flushE R F d, true, []⟩ := if_neg hy
    have e2 : p.y.yDoneX R F d = if p.y.wrong ≠ 0 then ⟨p.y.file, p.y.n, p.y.wrong, true, p.y.rows⟩ else ⟨p.y.file, p.y.n, p.y.flushE R F d, true, []⟩ := if_neg hy
    rw [e1, e2]
    split
    · exact ⟨rfl, rfl, rfl, fun h => by cases h⟩
    · exact ⟨rfl, rfl, rfl, fun h => by cases h⟩
theorem Wq.ok.drop (k : p.ok) : p.x.dropD d = p.y.dropD d ∧ p.x.endH h = p.y.endH h ∧ Wq.ok ⟨p.b, p.c, p.x.dropX, p.y.yX⟩ := by
  cases hx : p.x.ended with
  | true =>
    have hy : p.y.ended = true := by rw [← k.ended]; exact hx
    have e1 : p.x.dropX = p.x := if_pos hx
    have e2 : p.y.yX = p.y := if_pos hy
    refine ⟨?_, ?_, ?_⟩
    · unfold Ws.dropD; rw [if_pos hx, if_pos hy]
    · unfold Ws.endH; rw [if_pos hx, if_pos hy]
    · rw [e1, e2]
      exact ⟨k.n, k.file, k.ended, k.same⟩
  | false =>
    have e := k.same hx
    have hy : ¬ p.y.ended = true := by rw [← k.ended, hx]; decide
    rw [e]
    refine ⟨rfl, rfl, ?_⟩
    have e1 : p.y.dropX = ⟨p.y.file, p.y.n, 6, true, p.y.rows⟩ := if_neg hy
    have e2 : p.y.yX = ⟨p.y.file, p.y.n, p.y.wrong, true, p.y.rows⟩ := if_neg hy
    rw [e1, e2]
    exact ⟨rfl, rfl, rfl, fun h => by cases h⟩
theorem done_n : (x.doneX R F d).n = x.n := by unfold Ws.doneX; split <;> rfl
theorem drop_n : x.dropX.n = x.n := by unfold Ws.dropX; split <;> rfl
end
abbrev WP (w0 : World) (bd bl bx bm : Nat) (p : Wq) : Res := star (WR p.b bd bl p.x) (WX w0 p.c bx bm p.y)
theorem WP_good (w0 : World) (bd bl bx bm : Nat) (p : Wq) : Good (WP w0 bd bl bx bm p) := star_good (WR_good _ _ _ _) (WX_good _ _ _ _ _)
abbrev RP (bd bl bx bm : Nat) (p : Rq) : Res := star (RR p.b bd bl p.y (fun _ => True)) (RX p.c bx bm p.y (fun _ => True))
theorem RP_good (bd bl bx bm : Nat) (p : Rq) : Good (RP bd bl bx bm p) := star_good (RR_good _ _ _ _ _) (RX_good _ _ _ _ _)
/-- Where the four lists lie. -/
structure Q4 where
  Aw : Option Addr
  cw : Nat
  Av : Option Addr
  cv : Nat
  Ar : Option Addr
  cr : Nat
  As : Option Addr
  cs : Nat
abbrev plObj (bd bl bx bm : Nat) (q : Q4) (n m : Nat) : Obj := .cells #[dp bd, lp bl, .int .i64 0, dp bx, dp bm, .int .i64 0, .slice q.Aw n q.cw, .slice q.Av n q.cv, .slice q.Ar m q.cr, .slice q.As m q.cs, .bool false] 59 (0, 0)
abbrev wVs (ws : List Wq) : List Value := ws.map fun p => wp_ p.b
abbrev vVs (ws : List Wq) : List Value := ws.map fun p => wp_ p.c
abbrev rVs (rs : List Rq) : List Value := rs.map fun p => rp_ p.b
abbrev sVs (rs : List Rq) : List Value := rs.map fun p => rp_ p.c
abbrev RowsQ (q : Q4) (ws : List Wq) (rs : List Rq) (X : Res) : Res :=
  star (rowR 88 1 (.slice q.Aw ws.length q.cw) ws.length (wVs ws)) (star (rowR 108 1 (.slice q.Av ws.length q.cv) ws.length (vVs ws)) (star (rowR 93 1 (.slice q.Ar rs.length q.cr) rs.length (rVs rs)) (star (rowR 111 1 (.slice q.As rs.length q.cs) rs.length (sVs rs)) X)))
abbrev TT (bq bd bl bx bm : Nat) (q : Q4) (ws : List Wq) (rs : List Rq) (X : Res) : Res := star (blkR bq (plObj bd bl bx bm q ws.length rs.length)) (RowsQ q ws rs X)
section
variable {w0 w W : World} {bd bl bx bm bq bo : Nat} {R : Int} {F : List Int} {G : Int} {d d2 : Ds} {h h2 : Int} {ws l1 l2 : List Wq} {rs m1 m2 : List Rq} {p : Wq} {x x2 y y2 : Ws} {q : Q4} {X Y BX : Res}
theorem TT_good (g : Good X) : Good (TT bq bd bl bx bm q ws rs X) := star_good (blkR_good _ _) (star_good (rowR_good _ _ _ _ _) (star_good (rowR_good _ _ _ _ _) (star_good (rowR_good _ _ _ _ _) (star_good (rowR_good _ _ _ _ _) g))))
/-- The whole, a box ahead. -/
abbrev BS (w0 : World) (bq bd bl bx bm : Nat) (R : Int) (F : List Int) (G : Int) (d : Ds) (h : Int) (ws : List Wq) (rs : List Rq) (q : Q4) (BX X : Res) : Res :=
  star (PL bd bl R F G d h) (star BX (star (PX bx bm R F G d h) (star (each (WP w0 bd bl bx bm) ws) (star (each (RP bd bl bx bm) rs) (TT bq bd bl bx bm q ws rs X)))))
theorem BS_good (gB : Good BX) (g : Good X) : Good (BS w0 bq bd bl bx bm R F G d h ws rs q BX X) :=
  star_good (PL_good _ _ _ _ _ _ _) (star_good gB (star_good (PX_good _ _ _ _ _ _ _) (star_good (each_good (WP_good _ _ _ _ _) _) (star_good (each_good (RP_good _ _ _ _) _) (TT_good g)))))
/-- One writer of the list apart. -/
theorem W_out (V : In w0 W (star (PL bd bl R F G d h) (star BX (star (PX bx bm R F G d2 h2) (star (each (WP w0 bd bl bx bm) (l1 ++ p :: l2)) Y))))) :
    In w0 W (star (PL bd bl R F G d h) (star (WR p.b bd bl p.x) (star (PX bx bm R F G d2 h2) (star (WX w0 p.c bx bm p.y) (star (each (WP w0 bd bl bx bm) (l1 ++ l2)) (star BX Y)))))) :=
  V.imp fun S h => star_mono h (fun _ => id) (fun S h => by
    have h1 := star_mono (pull3 h) (fun _ h => each_out h) (fun _ => id)
    have h2 := star_assoc (star_assoc h1)
    exact star_mono h2 (fun _ => id) (fun _ h => pull4 h))
theorem W_mid (V : In w0 W (star (PL bd bl R F G d h) (star (WR p.b bd bl x) (star (PX bx bm R F G d2 h2) (star (WX w0 p.c bx bm y) X))))) :
    In w0 W (star (PX bx bm R F G d2 h2) (star (WX w0 p.c bx bm y) (star (PL bd bl R F G d h) (star (WR p.b bd bl x) X)))) :=
  V.imp fun S h => star_mono (pull3 h) (fun _ => id) (fun _ h => pull3 h)
theorem W_in (V : In w0 W (star (PX bx bm R F G d2 h2) (star (WX w0 p.c bx bm y) (star (PL bd bl R F G d h) (star (WR p.b bd bl x) (star (each (WP w0 bd bl bx bm) (l1 ++ l2)) (star BX Y))))))) :
    In w0 W (star (PL bd bl R F G d h) (star BX (star (PX bx bm R F G d2 h2) (star (each (WP w0 bd bl bx bm) (l1 ++ ⟨p.b, p.c, x, y⟩ :: l2)) Y)))) :=
  V.imp fun S h => star_mono (pull3 h) (fun _ => id) (fun S h => star_mono (pull5 h) (fun _ => id) (fun S h => star_mono h (fun _ => id) (fun S h =>
    star_mono (star_assoc' (star_assoc' (star_swap h))) (fun _ h => each_in h) (fun _ => id))))
theorem wVs_upd : wVs (l1 ++ ⟨p.b, p.c, x, y⟩ :: l2) = wVs (l1 ++ p :: l2) := by simp
theorem vVs_upd : vVs (l1 ++ ⟨p.b, p.c, x, y⟩ :: l2) = vVs (l1 ++ p :: l2) := by simp
theorem TT_upd {S : Nat → Prop} (V : TT bq bd bl bx bm q (l1 ++ p :: l2) rs X W S) : TT bq bd bl bx bm q (l1 ++ ⟨p.b, p.c, x, y⟩ :: l2) rs X W S := by
  have e : (l1 ++ (⟨p.b, p.c, x, y⟩ : Wq) :: l2).length = (l1 ++ p :: l2).length := by simp
  unfold TT RowsQ
  rw [wVs_upd, vVs_upd, e]
  exact V
end
end Go.Proofs.YtkbapoeilcapfaaGreat

/- SpillDoes: calls of a writer. -/
namespace Go.Proofs.YtkbapoeilcapfaaGreat
open Go.RowKit Go.Maps
set_option linter.unusedVariables false
set_option linter.unusedSimpArgs false
set_option maxRecDepth 6000

abbrev oObj (k N : Int) (C : Option Addr) (m cc : Nat) : Obj := .cells #[.int .i64 k, .int .i64 N, .slice C m cc] 52 (0, 0)
abbrev oV (k N : Int) (C : Option Addr) (m cc : Nat) : Value := .agg #[.int .i64 k, .int .i64 N, .slice C m cc]
/-- What is known of the lists after so many calls. -/
structure SO (K : Nat) (d : Ds) (ws : List Wq) (rs : List Rq) : Prop where
  le : d.le K
  ok : ∀ p ∈ ws, p.ok
  num : ∀ p ∈ ws, p.x.n ≤ K
  lw : ws.length ≤ K
  lr : rs.length ≤ K
section
variable {w0 w W : World} {bd bl bx bm bq bo : Nat} {R : Int} {F : List Int} {G : Int} {d d2 : Ds} {h h2 : Int} {ws l1 l2 : List Wq} {rs m1 m2 : List Rq} {p : Wq} {x x2 y y2 : Ws} {q : Q4} {X Y BX : Res} {K : Nat} {o : Obj} {k N : Int} {C : Option Addr} {m cc : Nat} {r : List V}
theorem SO.up (S : SO K d ws rs) : SO (K + 1) d ws rs := ⟨S.le.mono (by omega), S.ok, fun p hp => by have := S.num p hp; omega, by have := S.lw; omega, by have := S.lr; omega⟩
theorem SO.at (S : SO K d (l1 ++ p :: l2) rs) : p.ok ∧ p.x.n ≤ K ∧ p.y.n ≤ K := by
  have h1 := S.ok p (by simp)
  have h2 := S.num p (by simp)
  exact ⟨h1, h2, by rw [← h1.n]; exact h2⟩
theorem SO.set (S : SO K d (l1 ++ p :: l2) rs) (hd : d2.le (K + 1)) (hk : Wq.ok ⟨p.b, p.c, x, y⟩) (hn : x.n ≤ K + 1) : SO (K + 1) d2 (l1 ++ ⟨p.b, p.c, x, y⟩ :: l2) rs := by
  refine ⟨hd, fun p' hp => ?_, fun p' hp => ?_, by have := S.lw; simp at this ⊢; omega, by have := S.lr; omega⟩
  · rcases List.mem_append.1 hp with e | e
    · exact S.ok p' (by simp [e])
    · rcases List.mem_cons.1 e with e | e
      · rw [e]; exact hk
      · exact S.ok p' (by simp [e])
  · rcases List.mem_append.1 hp with e | e
    · have := S.num p' (by simp [e]); omega
    · rcases List.mem_cons.1 e with e | e
      · rw [e]; exact_mod_cast hn
      · have := S.num p' (by simp [e]); omega
/-- What a call of both leaves. -/
def DoP (w0 : World) (bq bd bl bx bm : Nat) (R : Int) (F : List Int) (G : Int) (K : Nat) (BX X : Res) (e : Ending) (w' : World) : Prop :=
  e = .returned (.bool true) ∧ ∃ d h ws rs q, SO K d ws rs ∧ In w0 w' (BS w0 bq bd bl bx bm R F G d h ws rs q BX X)
theorem B_push (gB : Good BX) (g : Good X) (V : In w0 W (BS w0 bq bd bl bx bm R F G d h ws rs q BX X)) (o : Obj) : In w0 (W.alloc o) (BS w0 bq bd bl bx bm R F G d h ws rs q (star (blkR W.heap.size o) BX) X) :=
  (In.pushB V (BS_good gB g) o).imp fun S h => star_mono h (fun _ => id) (fun _ h => star_assoc' h)
theorem B_pop (V : In w0 W (BS w0 bq bd bl bx bm R F G d h ws rs q (star (blkR bo o) BX) X)) : In w0 W (BS w0 bq bd bl bx bm R F G d h ws rs q BX X) :=
  In.drop (V.imp fun S h => star_mono h (fun _ => id) (fun _ h => star_assoc h))
theorem B_tt (V : In w0 W (BS w0 bq bd bl bx bm R F G d h ws rs q BX X)) : In w0 W (TT bq bd bl bx bm q ws rs X) := V.right.right.right.right.right
theorem B_box (V : In w0 W (BS w0 bq bd bl bx bm R F G d h ws rs q (star (blkR bo (oObj k N C m cc)) BX) X)) : W.cell? ⟨bo, 0, none⟩ = some (.int .i64 k) ∧ W.cell? ⟨bo, 1, none⟩ = some (.int .i64 N) ∧ W.cell? ⟨bo, 2, none⟩ = some (.slice C m cc) := by
  have h := (V.right.left.imp fun S h => star_comm h).right.get fun S h => h.1
  exact ⟨cell_of_blk h 0, cell_of_blk h 1, cell_of_blk h 2⟩
theorem T_cells (V : In w0 W (TT bq bd bl bx bm q ws rs X)) : (W.cell? ⟨bq, 0, none⟩ = some (dp bd) ∧ W.cell? ⟨bq, 1, none⟩ = some (lp bl) ∧ W.cell? ⟨bq, 2, none⟩ = some (.int .i64 0)) ∧ (W.cell? ⟨bq, 3, none⟩ = some (dp bx) ∧ W.cell? ⟨bq, 4, none⟩ = some (dp bm) ∧ W.cell? ⟨bq, 5, none⟩ = some (.int .i64 0)) ∧
    W.cell? ⟨bq, 6, none⟩ = some (.slice q.Aw ws.length q.cw) ∧ W.cell? ⟨bq, 7, none⟩ = some (.slice q.Av ws.length q.cv) ∧ W.cell? ⟨bq, 8, none⟩ = some (.slice q.Ar rs.length q.cr) ∧ W.cell? ⟨bq, 9, none⟩ = some (.slice q.As rs.length q.cs) := by
  have h := V.left.get fun S h => h.1
  exact ⟨⟨cell_of_blk h 0, cell_of_blk h 1, cell_of_blk h 2⟩, ⟨cell_of_blk h 3, cell_of_blk h 4, cell_of_blk h 5⟩, cell_of_blk h 6, cell_of_blk h 7, cell_of_blk h 8, cell_of_blk h 9⟩
/-- The pair of writers at a place. -/
theorem T_w (V : In w0 W (TT bq bd bl bx bm q (l1 ++ p :: l2) rs X)) : ∃ a b, q.Aw = some a ∧ q.Av = some b ∧ W.cell? (a.add l1.length) = some (wp_ p.b) ∧ W.cell? (b.add l1.length) = some (wp_ p.c) := by
  have h1 := V.right.left.get fun S h => h.1
  have h2 := V.right.right.left.get fun S h => h.1
  have hl : l1.length < (l1 ++ p :: l2).length := by simp
  obtain ⟨a, e1, k1⟩ := (Rd1.of_own h1).2.at_ hl
  obtain ⟨b, e2, k2⟩ := (Rd1.of_own h2).2.at_ hl
  refine ⟨a, b, e1, e2, ?_, ?_⟩
  · rw [k1]; simp
  · rw [k2]; simp
theorem WX_n {F' : Res} (V : In w0 W (star (WX w0 bo bx bm y) F')) : W.cell? ⟨bo, 5, none⟩ = some (.int .i64 y.n) := by
  obtain ⟨⟨S, ⟨S1, S2, ⟨_, A, k, c, hds, _, T1, T2, hb, _⟩, _⟩, _⟩, _⟩ := V
  exact cell_of_blk hb.1 5
/-- What is asked behind a call. -/
structure Aft (w' : World) (pb pc : Nat) (N : Int) (Fin : Ending → World → Prop) : Prop where
  cell : w'.cell? ⟨pc, 5, none⟩ = some (.int .i64 N)
  len : ∀ n, Calls Tryz.prog 39 #[wp_ pb] (w'.drewN n) fun e w2 => e = .returned (.int .i64 N) ∧ w2 = w'.drewN n
  fin : ∀ n, Fin (.returned (.bool true)) (w'.drewN n)
theorem aft (gB : Good BX) (g : Good X) (S : SO (K + 1) d (l1 ++ ⟨p.b, p.c, x, y⟩ :: l2) rs) (V : In w0 W (BS w0 bq bd bl bx bm R F G d h (l1 ++ ⟨p.b, p.c, x, y⟩ :: l2) rs q (star (blkR bo o) BX) X)) :
    Aft W p.b p.c x.n (DoP w0 bq bd bl bx bm R F G (K + 1) BX X) := by
  have gV := BS_good (w0 := w0) (bq := bq) (bd := bd) (bl := bl) (bx := bx) (bm := bm) (R := R) (F := F) (G := G) (d := d) (h := h) (ws := l1 ++ ⟨p.b, p.c, x, y⟩ :: l2) (rs := rs) (q := q) (star_good (blkR_good bo o) gB) g
  have hn : x.n = y.n := (S.ok ⟨p.b, p.c, x, y⟩ (by simp)).n
  refine ⟨?_, fun n => ?_, fun n => ⟨rfl, d, h, _, rs, q, S, B_pop (in_drewN gV V n)⟩⟩
  · rw [hn]
    exact WX_n (W_mid (p := ⟨p.b, p.c, x, y⟩) (W_out (p := ⟨p.b, p.c, x, y⟩) V)).right
  · have V1 := (W_out (p := ⟨p.b, p.c, x, y⟩) (in_drewN gV V n)).right
    exact w_len (star_good (PX_good _ _ _ _ _ _ _) (star_good (WX_good _ _ _ _ _) (star_good (each_good (WP_good _ _ _ _ _) _) (star_good (star_good (blkR_good _ _) gB) (star_good (each_good (RP_good _ _ _ _) _) (TT_good g)))))) V1
abbrev Mdl (w0 : World) (bq bd bl bx bm : Nat) (R : Int) (F : List Int) (G : Int) (d : Ds) (h : Int) (d2 : Ds) (h2 : Int) (x y : Ws) (l1 : List Wq) (p : Wq) (l2 : List Wq) (rs : List Rq) (q : Q4) (BX X : Res) : Res :=
  star (PX bx bm R F G d2 h2) (star (WX w0 p.c bx bm y) (star (PL bd bl R F G d h) (star (WR p.b bd bl x) (star (each (WP w0 bd bl bx bm) (l1 ++ l2)) (star BX (star (each (RP bd bl bx bm) rs) (TT bq bd bl bx bm q (l1 ++ p :: l2) rs X)))))))
theorem Mdl_tail (gB : Good BX) (g : Good X) : Good (star (each (WP w0 bd bl bx bm) (l1 ++ l2)) (star BX (star (each (RP bd bl bx bm) rs) (TT bq bd bl bx bm q (l1 ++ p :: l2) rs X)))) :=
  star_good (each_good (WP_good _ _ _ _ _) _) (star_good gB (star_good (each_good (RP_good _ _ _ _) _) (TT_good g)))
theorem Mdl_box (V : In w0 W (Mdl w0 bq bd bl bx bm R F G d h d2 h2 x y l1 p l2 rs q (star (blkR bo (oObj k N C m cc)) BX) X)) : W.cell? ⟨bo, 2, none⟩ = some (.slice C m cc) := by
  have h := (V.right.right.right.right.right.left.imp fun S h => star_comm h).right.get fun S h => h.1
  exact cell_of_blk h 2
theorem Mdl_in (V : In w0 W (Mdl w0 bq bd bl bx bm R F G d h d h x y l1 p l2 rs q BX X)) : In w0 W (BS w0 bq bd bl bx bm R F G d h (l1 ++ ⟨p.b, p.c, x, y⟩ :: l2) rs q BX X) :=
  W_in (p := p) (V.imp fun S h => star_mono h (fun _ => id) (fun _ h => star_mono h (fun _ => id) (fun _ h => star_mono h (fun _ => id) (fun _ h => star_mono h (fun _ => id) (fun _ h => star_mono h (fun _ => id) (fun _ h => star_mono h (fun _ => id) (fun _ h => star_mono h (fun _ => id) (fun _ h => TT_upd h))))))))
/-- Put of both. -/
theorem d_put (gB : Good BX) (g : Good X) (S : SO K d (l1 ++ p :: l2) rs) (hK : K ≤ 1000) (HR : ∀ W, Below w0.heap.size w0 W → RdV W C m r) (V : In w0 W (BS w0 bq bd bl bx bm R F G d h (l1 ++ p :: l2) rs q (star (blkR bo (oObj k N C m cc)) BX) X)) :
    Calls Tryz.prog 38 #[wp_ p.b, .slice C m cc] W fun e w' => e = .returned (.int .i64 (p.x.putE R F d r)) ∧ w'.cell? ⟨bo, 2, none⟩ = some (.slice C m cc) ∧ In w0 w' (Mdl w0 bq bd bl bx bm R F G (p.x.putD R F d r) h d h (p.x.putX R F d r) p.y l1 p l2 rs q (star (blkR bo (oObj k N C m cc)) BX) X) := by
  obtain ⟨h1, h2, h3⟩ := S.at
  have hle := S.le.2
  refine (w_put (star_good (PX_good _ _ _ _ _ _ _) (star_good (WX_good _ _ _ _ _) (Mdl_tail (star_good (blkR_good _ _) gB) g))) (W_out V) (fun W hW => HR W hW.bel) (by omega) (by omega)).mono fun e w' hh => ?_
  unfold PutP at hh
  have h4 := W_mid (p := p) hh.2
  exact ⟨hh.1, Mdl_box h4, h4⟩
theorem d_yput (gB : Good BX) (g : Good X) (S : SO K d (l1 ++ p :: l2) rs) (hK : K ≤ 1000) (HR : ∀ W, Below w0.heap.size w0 W → RdV W C m r) (V : In w0 W (Mdl w0 bq bd bl bx bm R F G (p.x.putD R F d r) h d h (p.x.putX R F d r) p.y l1 p l2 rs q (star (blkR bo (oObj k N C m cc)) BX) X)) :
    Calls Tryz.prog 49 #[wp_ p.c, .slice C m cc] W fun e w' => e = .returned (.int .i64 (p.x.putE R F d r)) ∧ w'.cell? ⟨bo, 2, none⟩ = some (.slice C m cc) ∧ Aft w' p.b p.c (p.x.putX R F d r).n (DoP w0 bq bd bl bx bm R F G (K + 1) BX X) := by
  obtain ⟨h1, h2, h3⟩ := S.at
  have hle := S.le.2
  obtain ⟨e1, e2, e3⟩ := h1.put (R := R) (F := F) (d := d) (r := r)
  refine (yput (star_good (PL_good _ _ _ _ _ _ _) (star_good (WR_good _ _ _ _) (Mdl_tail (star_good (blkR_good _ _) gB) g))) V HR (by omega) (by omega)).mono fun e w' hh => ?_
  unfold YPutP at hh
  obtain ⟨k1, k2⟩ := hh
  rw [← e1] at k1
  rw [← e2] at k2
  have hn := (put_n (R := R) (F := F) (d := d) (x := p.x) (r := r)).1
  exact ⟨k1, (B_box (Mdl_in k2)).2.2, aft gB g (S.set (by have := le_put (R := R) (F := F) (x := p.x) (r := r) S.le; exact_mod_cast this) e3 (by omega)) (Mdl_in k2)⟩
theorem d_done (gB : Good BX) (g : Good X) (S : SO K d (l1 ++ p :: l2) rs) (hK : K ≤ 1000) (V : In w0 W (BS w0 bq bd bl bx bm R F G d h (l1 ++ p :: l2) rs q BX X)) :
    Calls Tryz.prog 40 #[wp_ p.b] W fun e w' => e = .returned (.tuple #[.int .i64 (p.x.doneN R F d), .int .i64 (p.x.doneE R F d)]) ∧ In w0 w' (Mdl w0 bq bd bl bx bm R F G (p.x.doneD R F d) (p.x.endH h) d h (p.x.doneX R F d) p.y l1 p l2 rs q BX X) := by
  have hle := S.le.2
  refine (w_done (star_good (PX_good _ _ _ _ _ _ _) (star_good (WX_good _ _ _ _ _) (Mdl_tail gB g))) (W_out V) (by omega)).mono fun e w' hh => ?_
  unfold DoneP at hh
  exact ⟨hh.1, W_mid (p := p) hh.2⟩
theorem d_ydone (gB : Good BX) (g : Good X) (S : SO K d (l1 ++ p :: l2) rs) (hK : K ≤ 1000) (V : In w0 W (Mdl w0 bq bd bl bx bm R F G (p.x.doneD R F d) (p.x.endH h) d h (p.x.doneX R F d) p.y l1 p l2 rs q (star (blkR bo o) BX) X)) :
    Calls Tryz.prog 51 #[wp_ p.c] W fun e w' => e = .returned (.tuple #[.int .i64 (p.x.doneN R F d), .int .i64 (p.x.doneE R F d)]) ∧ Aft w' p.b p.c (p.x.doneX R F d).n (DoP w0 bq bd bl bx bm R F G (K + 1) BX X) := by
  obtain ⟨h1, h2, h3⟩ := S.at
  have hle := S.le.2
  obtain ⟨e1, e2, e3, e4, e5⟩ := h1.done (R := R) (F := F) (d := d) (h := h)
  refine (ydone (star_good (PL_good _ _ _ _ _ _ _) (star_good (WR_good _ _ _ _) (Mdl_tail (star_good (blkR_good _ _) gB) g))) V (by omega)).mono fun e w' hh => ?_
  unfold YDoneP at hh
  obtain ⟨k1, k2⟩ := hh
  rw [← e1, ← e2] at k1
  rw [← e3, ← e4] at k2
  have hn := done_n (R := R) (F := F) (d := d) (x := p.x)
  exact ⟨k1, aft gB g (S.set (by have := le_done (R := R) (F := F) (x := p.x) S.le; exact_mod_cast this) e5 (by rw [hn]; omega)) (Mdl_in k2)⟩
theorem d_drop (gB : Good BX) (g : Good X) (V : In w0 W (BS w0 bq bd bl bx bm R F G d h (l1 ++ p :: l2) rs q BX X)) :
    Calls Tryz.prog 47 #[wp_ p.b] W fun e w' => e = .returned (.tuple #[]) ∧ In w0 w' (Mdl w0 bq bd bl bx bm R F G (p.x.dropD d) (p.x.endH h) d h p.x.dropX p.y l1 p l2 rs q BX X) := by
  refine (w_drop (star_good (PX_good _ _ _ _ _ _ _) (star_good (WX_good _ _ _ _ _) (Mdl_tail gB g))) (W_out V)).mono fun e w' hh => ?_
  unfold DropP at hh
  exact ⟨hh.1, W_mid (p := p) hh.2⟩
theorem d_ydrop (gB : Good BX) (g : Good X) (S : SO K d (l1 ++ p :: l2) rs) (V : In w0 W (Mdl w0 bq bd bl bx bm R F G (p.x.dropD d) (p.x.endH h) d h p.x.dropX p.y l1 p l2 rs q (star (blkR bo o) BX) X)) :
    Calls Tryz.prog 50 #[wp_ p.c] W fun e w' => e = .returned (.tuple #[]) ∧ Aft w' p.b p.c p.x.dropX.n (DoP w0 bq bd bl bx bm R F G (K + 1) BX X) := by
  obtain ⟨h1, h2, h3⟩ := S.at
  obtain ⟨e3, e4, e5⟩ := h1.drop (d := d) (h := h)
  refine (ydrop (star_good (PL_good _ _ _ _ _ _ _) (star_good (WR_good _ _ _ _) (Mdl_tail (star_good (blkR_good _ _) gB) g))) V).mono fun e w' hh => ?_
  obtain ⟨k1, k2⟩ := hh
  rw [← e3, ← e4] at k2
  have hn := drop_n (x := p.x)
  exact ⟨k1, aft gB g (S.set (by have := le_drop (x := p.x) S.le; exact this.mono (by omega)) e5 (by rw [hn]; omega)) (Mdl_in k2)⟩
end
end Go.Proofs.YtkbapoeilcapfaaGreat

/- SpillDoes: play.writer. -/
namespace Go.Proofs.YtkbapoeilcapfaaGreat
open Go.RowKit Go.Maps
set_option linter.unusedVariables false
set_option linter.unusedSimpArgs false
set_option maxRecDepth 6000

abbrev qp (bq : Nat) : Value := .pointer (some ⟨bq, 0, none⟩)
section
variable {w0 w W : World} {bd bl bx bm bq bo : Nat} {R : Int} {F : List Int} {G : Int} {d d2 : Ds} {h h2 : Int} {ws l1 l2 : List Wq} {rs : List Rq} {p : Wq} {q : Q4} {X BX : Res} {K : Nat} {k N : Int} {C : Option Addr} {m cc : Nat} {r : List V}
theorem writer_out (gB : Good BX) (g : Good X) (S : SO K d ws rs) (V : In w0 w (BS w0 bq bd bl bx bm R F G d h ws rs q BX X)) (hN : N < 0 ∨ (ws.length : Int) ≤ N) :
    Calls Tryz.prog 60 #[qp bq, oV k N C m cc] w (DoP w0 bq bd bl bx bm R F G (K + 1) BX X) := by
  have V1 := B_push gB g V (oObj k N C m cc)
  have gV := BS_good (w0 := w0) (bq := bq) (bd := bd) (bl := bl) (bx := bx) (bm := bm) (R := R) (F := F) (G := G) (d := d) (h := h) (ws := ws) (rs := rs) (q := q) (star_good (blkR_good w.heap.size (oObj k N C m cc)) gB) g
  have E0 := Lib.hid (fun n => show DoP w0 bq bd bl bx bm R F G (K + 1) BX X (.returned (.bool true)) ((w.alloc (oObj k N C m cc)).drewN n) from ⟨rfl, d, h, ws, rs, q, S.up, B_pop (in_drewN gV V1 n)⟩)
  obtain ⟨_, _, c6, _⟩ := T_cells (B_tt V1)
  obtain ⟨n, hn⟩ : ∃ n, n = ws.length := ⟨_, rfl⟩
  rw [← hn] at c6 hN
  clear V V1 gV S hn
  by_cases h0 : N < 0
  · have h1 : decide (N < 0) = true := by simpa using h0
    clear hN
    go_enter Tryz.func60, Tryz.ntmps60
    go_wp2
    go_quiet (fail)
    go_wp2
    go_ret
    exact E0.out _
  · have h1 : decide (N < 0) = false := by simpa using h0
    have h2 : (n : Int) ≤ N := by omega
    have h3 : decide ((n : Int) ≤ N) = true := by simpa using h2
    clear hN
    go_enter Tryz.func60, Tryz.ntmps60
    go_wp2
    go_quiet (fail)
    go_wp2
    go_ret
    exact E0.out _
set_option maxHeartbeats 4000000 in
theorem writer_in (gB : Good BX) (g : Good X) (hK : K ≤ 1000) (HR : ∀ W, Below w0.heap.size w0 W → RdV W C m r) (S : SO K d (l1 ++ p :: l2) rs) (V : In w0 w (BS w0 bq bd bl bx bm R F G d h (l1 ++ p :: l2) rs q BX X)) :
    Calls Tryz.prog 60 #[qp bq, oV k (l1.length : Int) C m cc] w (DoP w0 bq bd bl bx bm R F G (K + 1) BX X) := by
  have V1 := B_push gB g V (oObj k (l1.length : Int) C m cc)
  have gV := BS_good (w0 := w0) (bq := bq) (bd := bd) (bl := bl) (bx := bx) (bm := bm) (R := R) (F := F) (G := G) (d := d) (h := h) (ws := l1 ++ p :: l2) (rs := rs) (q := q) (star_good (blkR_good w.heap.size (oObj k (l1.length : Int) C m cc)) gB) g
  obtain ⟨_, _, c6, c7, _⟩ := T_cells (B_tt V1)
  obtain ⟨a, b, ea, eb, ca, cb⟩ := T_w (B_tt V1)
  rw [ea] at c6
  rw [eb] at c7
  have hnl := S.lw
  obtain ⟨n, hn⟩ : ∃ n, n = (l1 ++ p :: l2).length := ⟨_, rfl⟩
  have hil : l1.length < n := by rw [hn]; simp
  rw [← hn] at c6 c7 hnl
  have C1 := Lib.hid (fun n => d_put gB g S hK HR (in_drewN gV V1 n))
  have C2 := Lib.hid (fun W V => d_yput (w0 := w0) (W := W) (bq := bq) (bd := bd) (bl := bl) (bx := bx) (bm := bm) (R := R) (F := F) (G := G) (d := d) (h := h) (k := k) (N := (l1.length : Int)) (cc := cc) (bo := w.heap.size) (q := q) gB g S hK HR V)
  have C3 := Lib.hid (fun n => d_done (star_good (blkR_good w.heap.size (oObj k (l1.length : Int) C m cc)) gB) g S hK (in_drewN gV V1 n))
  have C4 := Lib.hid (fun W V => d_ydone (w0 := w0) (W := W) (bq := bq) (bd := bd) (bl := bl) (bx := bx) (bm := bm) (R := R) (F := F) (G := G) (d := d) (h := h) (o := (oObj k (l1.length : Int) C m cc)) (bo := w.heap.size) (q := q) gB g S hK V)
  have C5 := Lib.hid (fun n => d_drop (star_good (blkR_good w.heap.size (oObj k (l1.length : Int) C m cc)) gB) g (in_drewN gV V1 n))
  have C6 := Lib.hid (fun W V => d_ydrop (w0 := w0) (W := W) (bq := bq) (bd := bd) (bl := bl) (bx := bx) (bm := bm) (R := R) (F := F) (G := G) (d := d) (h := h) (o := (oObj k (l1.length : Int) C m cc)) (bo := w.heap.size) (q := q) gB g S V)
  obtain ⟨i, hi⟩ : ∃ i, i = l1.length := ⟨_, rfl⟩
  have hia : a.add l1.length = a.add i := by rw [hi]
  have hib : b.add l1.length = b.add i := by rw [hi]
  rw [hia] at ca
  rw [hib] at cb
  rw [← hi] at hil
  simp only [← hi] at C1 C2 C3 C4 C5 C6 c6 c7 ca cb ⊢
  have h1 : decide ((i : Int) < 0) = false := by simp
  have h2 : decide ((n : Int) ≤ (i : Int)) = false := by simp; omega
  have h3 : ¬ (i : Int) < 0 := by omega
  have h4 : ¬ (n : Int) ≤ (i : Int) := by omega
  have h5 : (0 : Int) ≤ (i : Int) := by omega
  have h6 : (i : Int) < (n : Int) := by omega
  have hn64 : n ≤ 9223372036854775807 := by omega
  clear V V1 gV hn hi hia hib HR ea eb
  by_cases k2 : k = 2
  · subst k2
    clear C3 C4 C5 C6
    obtain ⟨E, hE⟩ : ∃ E, E = p.x.putE R F d r := ⟨_, rfl⟩
    simp only [← hE] at C1 C2
    clear hE S
    go_enter Tryz.func60, Tryz.ntmps60
    go_wp2
    go_quiet (fail)
    go_wp2
    go_quiet (fail)
    go_wp2
    go_region_held3 (fun w' => w'.cell? ⟨w.heap.size, 2, none⟩ = some (.slice C m cc)) (first | go_keep | assumption) (first
      | (go_at_call 38; (with_reducible refine (C1.out _).mono ?_); rintro e w2 ⟨rfl, s2, V⟩; have V2 := Lib.hid V; clear V)
      | (go_at_call 49; (with_reducible refine (C2.out _ V2.out).mono ?_); rintro e w3 ⟨rfl, t2, A⟩; have A3 := Lib.hid A; have ac := A.cell; clear A))
    all_goals go_wp2
    all_goals go_quiet ((go_at_call 39; exact Calls.quiet_of_same (A3.out.len _)))
    all_goals go_wp2
    all_goals go_ret
    all_goals exact A3.out.fin _
  · by_cases k3 : k = 3
    · subst k3
      clear C1 C2 C5 C6
      obtain ⟨E, hE⟩ : ∃ E, E = p.x.doneE R F d := ⟨_, rfl⟩
      obtain ⟨M, hM⟩ : ∃ M, M = p.x.doneN R F d := ⟨_, rfl⟩
      simp only [← hE, ← hM] at C3 C4
      clear hE hM S
      go_enter Tryz.func60, Tryz.ntmps60
      go_wp2
      go_quiet (fail)
      go_wp2
      go_quiet (fail)
      go_wp2_with (first
        | (go_at_call 40; (with_reducible refine (C3.out _).mono ?_); rintro e w2 ⟨rfl, V⟩; have V2 := Lib.hid V; clear V)
        | (go_at_call 51; (with_reducible refine (C4.out _ V2.out).mono ?_); rintro e w3 ⟨rfl, A⟩; have A3 := Lib.hid A; have ac := A.cell; clear A))
      go_quiet ((go_at_call 39; exact Calls.quiet_of_same (A3.out.len _)))
      go_wp2
      go_ret
      exact A3.out.fin _
    · have h7 : (k == 2) = false := by simpa using k2
      have h8 : (k == 3) = false := by simpa using k3
      clear C1 C2 C3 C4 S
      go_enter Tryz.func60, Tryz.ntmps60
      go_wp2
      go_quiet (fail)
      go_wp2
      go_quiet (fail)
      go_wp2_with (first
        | (go_at_call 47; (with_reducible refine (C5.out _).mono ?_); rintro e w2 ⟨rfl, V⟩; have V2 := Lib.hid V; clear V)
        | (go_at_call 50; (with_reducible refine (C6.out _ V2.out).mono ?_); rintro e w3 ⟨rfl, A⟩; have A3 := Lib.hid A; have ac := A.cell; clear A))
      go_quiet ((go_at_call 39; exact Calls.quiet_of_same (A3.out.len _)))
      go_wp2
      go_ret
      exact A3.out.fin _
end
end Go.Proofs.YtkbapoeilcapfaaGreat

/- SpillDoes: play.reader. -/
namespace Go.Proofs.YtkbapoeilcapfaaGreat
open Go.RowKit Go.Maps
set_option linter.unusedVariables false
set_option linter.unusedSimpArgs false
set_option maxRecDepth 6000

section
variable {w0 w W : World} {bd bl bx bm bq bo : Nat} {R : Int} {F : List Int} {G : Int} {d d2 : Ds} {h h2 : Int} {ws : List Wq} {rs m1 m2 : List Rq} {p : Rq} {y y2 : Rs} {q : Q4} {X Y BX E : Res} {K : Nat} {o : Obj} {k N : Int} {C : Option Addr} {m cc : Nat} {r : List V} {Q1 Q2 : World → Prop}
theorem SO.setR (S : SO K d ws (m1 ++ p :: m2)) (hd : d2.le (K + 1)) (y : Rs) : SO (K + 1) d2 ws (m1 ++ ⟨p.b, p.c, y⟩ :: m2) :=
  ⟨hd, S.ok, fun p hp => by have := S.num p hp; omega, by have := S.lw; omega, by have := S.lr; simp at this ⊢; omega⟩
theorem R_out (V : In w0 W (star (PL bd bl R F G d h) (star BX (star (PX bx bm R F G d2 h2) (star E (star (each (RP bd bl bx bm) (m1 ++ p :: m2)) Y)))))) :
    In w0 W (star (PL bd bl R F G d h) (star (RR p.b bd bl p.y (fun _ => True)) (star (PX bx bm R F G d2 h2) (star (RX p.c bx bm p.y (fun _ => True)) (star (each (RP bd bl bx bm) (m1 ++ m2)) (star BX (star E Y))))))) :=
  V.imp fun S h => star_mono h (fun _ => id) (fun S h => by
    have h1 := star_mono (pull4 h) (fun _ h => each_out h) (fun _ => id)
    have h2 := star_assoc (star_assoc h1)
    exact star_mono h2 (fun _ => id) (fun _ h => pull4 h))
theorem R_mid (V : In w0 W (star (PL bd bl R F G d h) (star (RR p.b bd bl y Q1) (star (PX bx bm R F G d2 h2) (star (RX p.c bx bm y2 Q2) X))))) :
    In w0 W (star (PX bx bm R F G d2 h2) (star (RX p.c bx bm y2 Q2) (star (PL bd bl R F G d h) (star (RR p.b bd bl y Q1) X)))) :=
  V.imp fun S h => star_mono (pull3 h) (fun _ => id) (fun _ h => pull3 h)
theorem R_in (V : In w0 W (star (PX bx bm R F G d2 h2) (star (RX p.c bx bm y (fun _ => True)) (star (PL bd bl R F G d h) (star (RR p.b bd bl y (fun _ => True)) (star (each (RP bd bl bx bm) (m1 ++ m2)) (star BX (star E Y)))))))) :
    In w0 W (star (PL bd bl R F G d h) (star BX (star (PX bx bm R F G d2 h2) (star E (star (each (RP bd bl bx bm) (m1 ++ ⟨p.b, p.c, y⟩ :: m2)) Y))))) :=
  V.imp fun S h => star_mono (pull3 h) (fun _ => id) (fun S h => star_mono (pull5 h) (fun _ => id) (fun S h => star_mono h (fun _ => id) (fun S h => star_mono (pull4 h) (fun _ => id) (fun S h =>
    star_mono (star_assoc' (star_assoc' (star_swap h))) (fun _ h => each_in h) (fun _ => id)))))
theorem TT_updR {S : Nat → Prop} (V : TT bq bd bl bx bm q ws (m1 ++ p :: m2) X W S) : TT bq bd bl bx bm q ws (m1 ++ ⟨p.b, p.c, y⟩ :: m2) X W S := by
  have e : (m1 ++ (⟨p.b, p.c, y⟩ : Rq) :: m2).length = (m1 ++ p :: m2).length := by simp
  have e1 : rVs (m1 ++ ⟨p.b, p.c, y⟩ :: m2) = rVs (m1 ++ p :: m2) := by simp
  have e2 : sVs (m1 ++ ⟨p.b, p.c, y⟩ :: m2) = sVs (m1 ++ p :: m2) := by simp
  unfold TT RowsQ
  rw [e1, e2, e]
  exact V
theorem T_r (V : In w0 W (TT bq bd bl bx bm q ws (m1 ++ p :: m2) X)) : ∃ a b, q.Ar = some a ∧ q.As = some b ∧ W.cell? (a.add m1.length) = some (rp_ p.b) ∧ W.cell? (b.add m1.length) = some (rp_ p.c) := by
  have h1 := V.right.right.right.left.get fun S h => h.1
  have h2 := V.right.right.right.right.left.get fun S h => h.1
  have hl : m1.length < (m1 ++ p :: m2).length := by simp
  obtain ⟨a, e1, k1⟩ := (Rd1.of_own h1).2.at_ hl
  obtain ⟨b, e2, k2⟩ := (Rd1.of_own h2).2.at_ hl
  refine ⟨a, b, e1, e2, ?_, ?_⟩
  · rw [k1]; simp
  · rw [k2]; simp
abbrev RMd (w0 : World) (bq bd bl bx bm : Nat) (R : Int) (F : List Int) (G : Int) (d : Ds) (h : Int) (d2 : Ds) (h2 : Int) (y y2 : Rs) (Q1 Q2 : World → Prop) (ws : List Wq) (m1 : List Rq) (p : Rq) (m2 : List Rq) (q : Q4) (BX X : Res) : Res :=
  star (PX bx bm R F G d2 h2) (star (RX p.c bx bm y2 Q2) (star (PL bd bl R F G d h) (star (RR p.b bd bl y Q1) (star (each (RP bd bl bx bm) (m1 ++ m2)) (star BX (star (each (WP w0 bd bl bx bm) ws) (TT bq bd bl bx bm q ws (m1 ++ p :: m2) X)))))))
theorem RMd_tail (gB : Good BX) (g : Good X) : Good (star (each (RP bd bl bx bm) (m1 ++ m2)) (star BX (star (each (WP w0 bd bl bx bm) ws) (TT bq bd bl bx bm q ws (m1 ++ p :: m2) X)))) :=
  star_good (each_good (RP_good _ _ _ _) _) (star_good gB (star_good (each_good (WP_good _ _ _ _ _) _) (TT_good g)))
theorem RMd_good (gB : Good BX) (g : Good X) : Good (RMd w0 bq bd bl bx bm R F G d h d2 h2 y y2 Q1 Q2 ws m1 p m2 q BX X) :=
  star_good (PX_good _ _ _ _ _ _ _) (star_good (RX_good _ _ _ _ _) (star_good (PL_good _ _ _ _ _ _ _) (star_good (RR_good _ _ _ _ _) (RMd_tail gB g))))
/-- What is looked up ahead of the calls. -/
abbrev Lk (W : World) (bq bo n : Nat) (N : Int) (a b : Addr) (q : Q4) (i : Nat) (p : Rq) : Prop := W.cell? ⟨bq, 8, none⟩ = some (.slice (some a) n q.cr) ∧ W.cell? ⟨bq, 9, none⟩ = some (.slice (some b) n q.cs) ∧ W.cell? ⟨bo, 1, none⟩ = some (.int .i64 N) ∧ W.cell? (a.add i) = some (rp_ p.b) ∧ W.cell? (b.add i) = some (rp_ p.c)
theorem RMd_cells {a b : Addr} (ea : q.Ar = some a) (eb : q.As = some b) (V : In w0 W (RMd w0 bq bd bl bx bm R F G d h d2 h2 y y2 Q1 Q2 ws m1 p m2 q (star (blkR bo (oObj k N C m cc)) BX) X)) : Lk W bq bo (m1 ++ p :: m2).length N a b q m1.length p := by
  have V1 := V.right.right.right.right.right
  have h := (V1.left.imp fun S h => star_comm h).right.get fun S h => h.1
  have V2 := V1.right.right
  obtain ⟨_, _, _, _, c8, c9⟩ := T_cells V2
  obtain ⟨a', b', ea', eb', k1, k2⟩ := T_r V2
  rw [ea] at ea' c8
  rw [eb] at eb' c9
  injection ea' with ea'
  injection eb' with eb'
  subst ea' eb'
  exact ⟨c8, c9, cell_of_blk h 1, k1, k2⟩
theorem RMd_in (V : In w0 W (RMd w0 bq bd bl bx bm R F G d h d h y y (fun _ => True) (fun _ => True) ws m1 p m2 q BX X)) : In w0 W (BS w0 bq bd bl bx bm R F G d h ws (m1 ++ ⟨p.b, p.c, y⟩ :: m2) q BX X) :=
  R_in (p := p) (V.imp fun S h => star_mono h (fun _ => id) (fun _ h => star_mono h (fun _ => id) (fun _ h => star_mono h (fun _ => id) (fun _ h => star_mono h (fun _ => id) (fun _ h => star_mono h (fun _ => id) (fun _ h => star_mono h (fun _ => id) (fun _ h => star_mono h (fun _ => id) (fun _ h => TT_updR h))))))))
theorem r_closing (gB : Good BX) (g : Good X) {a b : Addr} (ea : q.Ar = some a) (eb : q.As = some b) (V : In w0 W (BS w0 bq bd bl bx bm R F G d h ws (m1 ++ p :: m2) q (star (blkR bo (oObj k N C m cc)) BX) X)) :
    Calls Tryz.prog 43 #[rp_ p.b] W fun e w' => e = .returned (.tuple #[]) ∧ Lk w' bq bo (m1 ++ p :: m2).length N a b q m1.length p ∧ In w0 w' (RMd w0 bq bd bl bx bm R F G d (p.y.closeH h) d h p.y.closeX p.y (fun _ => True) (fun _ => True) ws m1 p m2 q (star (blkR bo (oObj k N C m cc)) BX) X) := by
  refine (r_close (star_good (PX_good _ _ _ _ _ _ _) (star_good (RX_good _ _ _ _ _) (RMd_tail (star_good (blkR_good _ _) gB) g))) (R_out V)).mono fun e w' hh => ?_
  unfold CloseP at hh
  have h4 := R_mid (p := p) hh.2
  exact ⟨hh.1, RMd_cells ea eb h4, h4⟩
theorem x_closing (gB : Good BX) (g : Good X) {a b : Addr} (ea : q.Ar = some a) (eb : q.As = some b) (S : SO K d ws (m1 ++ p :: m2)) (V : In w0 W (RMd w0 bq bd bl bx bm R F G d (p.y.closeH h) d h p.y.closeX p.y (fun _ => True) (fun _ => True) ws m1 p m2 q (star (blkR bo (oObj k N C m cc)) BX) X)) :
    Calls Tryz.prog 55 #[rp_ p.c] W fun e w' => e = .returned (.tuple #[]) ∧ Lk w' bq bo (m1 ++ p :: m2).length N a b q m1.length p ∧ DoP w0 bq bd bl bx bm R F G (K + 1) BX X (.returned (.bool true)) w' := by
  refine (xclose (star_good (PL_good _ _ _ _ _ _ _) (star_good (RR_good _ _ _ _ _) (RMd_tail (star_good (blkR_good _ _) gB) g))) V).mono fun e w' hh => ?_
  unfold XCloseP at hh
  have h4 := RMd_in hh.2
  exact ⟨hh.1, RMd_cells ea eb hh.2, rfl, d, _, ws, _, q, S.setR (S.le.mono (by omega)) _, B_pop h4⟩
abbrev QR (B : Option Addr) (m : Nat) (r : List V) (W : World) : Prop := True ∧ RdV W B m r
theorem r_nexting_s (gB : Good BX) (g : Good X) {a b : Addr} (ea : q.Ar = some a) (eb : q.As = some b) (S : SO K d ws (m1 ++ p :: m2)) (hK : K ≤ 1000) (hn : (p.y.next F d).row = some r) (V : In w0 W (BS w0 bq bd bl bx bm R F G d h ws (m1 ++ p :: m2) q (star (blkR bo (oObj k N C m cc)) BX) X)) :
    Calls Tryz.prog 42 #[rp_ p.b] W fun e w' => ∃ B m' c', e = .returned (.tuple #[.slice B m' c', .bool true, .int .i64 0]) ∧ Lk w' bq bo (m1 ++ p :: m2).length N a b q m1.length p ∧ In w0 w' (RMd w0 bq bd bl bx bm R F G (p.y.next F d).d h d h (p.y.next F d).x p.y (QR B m' r) (fun _ => True) ws m1 p m2 q (star (blkR bo (oObj k N C m cc)) BX) X) := by
  have hle := S.le.2
  refine (r_next_some (star_good (PX_good _ _ _ _ _ _ _) (star_good (RX_good _ _ _ _ _) (RMd_tail (star_good (blkR_good _ _) gB) g))) (R_out V) (by omega) hn).mono fun e w' hh => ?_
  obtain ⟨B, m', c', h1, h2⟩ := hh
  have h4 := R_mid (p := p) h2
  exact ⟨B, m', c', h1, RMd_cells ea eb h4, h4⟩
theorem x_nexting_s (gB : Good BX) (g : Good X) {a b : Addr} (ea : q.Ar = some a) (eb : q.As = some b) {B : Option Addr} {mB : Nat} (S : SO K d ws (m1 ++ p :: m2)) (hK : K ≤ 1000) (hn : (p.y.next F d).row = some r) (V : In w0 W (RMd w0 bq bd bl bx bm R F G (p.y.next F d).d h d h (p.y.next F d).x p.y (QR B mB r) (fun _ => True) ws m1 p m2 q (star (blkR bo (oObj k N C m cc)) BX) X)) :
    Calls Tryz.prog 54 #[rp_ p.c] W fun e w' => ∃ B' m' c', e = .returned (.tuple #[.slice B' m' c', .bool true, .int .i64 0]) ∧ Lk w' bq bo (m1 ++ p :: m2).length N a b q m1.length p ∧ (mB = m' ∧ RdV w' B mB r ∧ RdV w' B' m' r) ∧ ∀ u, Below w'.heap.size w' u → DoP w0 bq bd bl bx bm R F G (K + 1) BX X (.returned (.bool true)) u := by
  have hle := S.le.2
  refine (x_next_some (star_good (PL_good _ _ _ _ _ _ _) (star_good (RR_good _ _ _ _ _) (RMd_tail (star_good (blkR_good _ _) gB) g))) V (by omega) hn).mono fun e w' hh => ?_
  obtain ⟨B', m', c', h1, h2⟩ := hh
  have q2 : RdV w' B' m' r := ((RX_rd h2).right.left.get fun S h => rd_get h).2
  have V2 := h2.right.right
  have q1 : RdV w' B mB r := ((RR_rd V2).right.left.get fun S h => rd_get h).2
  have h3 := RX_imp (Q' := fun _ => True) h2 (fun _ _ => trivial)
  have h4 := h3.imp fun S h => star_mono h (fun _ => id) (fun _ h => star_mono h (fun _ => id) (fun _ h => star_mono h (fun _ => id) (fun S h => star_mono h (fun S ⟨k, A, n, c, hds, h⟩ => (⟨k, A, n, c, hds, star_mono h (fun _ => id) (fun _ h => rd_imp h fun w q => ⟨q.1, trivial⟩)⟩ : RR p.b bd bl (p.y.next F d).x (fun _ => True) w' S)) (fun _ => id))))
  have h5 := RMd_in h4
  have gF := BS_good (w0 := w0) (bq := bq) (bd := bd) (bl := bl) (bx := bx) (bm := bm) (R := R) (F := F) (G := G) (d := (p.y.next F d).d) (h := h) (ws := ws) (rs := m1 ++ ⟨p.b, p.c, (p.y.next F d).x⟩ :: m2) (q := q) gB g
  refine ⟨B', m', c', h1, RMd_cells ea eb h2, ⟨q1.len.symm.trans q2.len, q1, q2⟩, fun u hu => ⟨rfl, _, h, ws, _, q, S.setR (by have := le_next (F := F) (y := p.y) S.le; exact_mod_cast this) _, In.below (B_pop h5) gF hu⟩⟩
theorem r_nexting_n (gB : Good BX) (g : Good X) {a b : Addr} (ea : q.Ar = some a) (eb : q.As = some b) (S : SO K d ws (m1 ++ p :: m2)) (hK : K ≤ 1000) (hn : (p.y.next F d).row = none) (V : In w0 W (BS w0 bq bd bl bx bm R F G d h ws (m1 ++ p :: m2) q (star (blkR bo (oObj k N C m cc)) BX) X)) :
    Calls Tryz.prog 42 #[rp_ p.b] W fun e w' => e = .returned (.tuple #[.slice none 0 0, .bool false, .int .i64 (p.y.next F d).e]) ∧ Lk w' bq bo (m1 ++ p :: m2).length N a b q m1.length p ∧ In w0 w' (RMd w0 bq bd bl bx bm R F G (p.y.next F d).d h d h (p.y.next F d).x p.y (fun _ => True) (fun _ => True) ws m1 p m2 q (star (blkR bo (oObj k N C m cc)) BX) X) := by
  have hle := S.le.2
  refine (r_next_none (star_good (PX_good _ _ _ _ _ _ _) (star_good (RX_good _ _ _ _ _) (RMd_tail (star_good (blkR_good _ _) gB) g))) (R_out V) (by omega) hn).mono fun e w' hh => ?_
  unfold NoneP at hh
  have h4 := R_mid (p := p) hh.2
  exact ⟨hh.1, RMd_cells ea eb h4, h4⟩
theorem x_nexting_n (gB : Good BX) (g : Good X) {a b : Addr} (ea : q.Ar = some a) (eb : q.As = some b) (S : SO K d ws (m1 ++ p :: m2)) (hK : K ≤ 1000) (hn : (p.y.next F d).row = none) (V : In w0 W (RMd w0 bq bd bl bx bm R F G (p.y.next F d).d h d h (p.y.next F d).x p.y (fun _ => True) (fun _ => True) ws m1 p m2 q (star (blkR bo (oObj k N C m cc)) BX) X)) :
    Calls Tryz.prog 54 #[rp_ p.c] W fun e w' => e = .returned (.tuple #[.slice none 0 0, .bool false, .int .i64 (p.y.next F d).e]) ∧ Lk w' bq bo (m1 ++ p :: m2).length N a b q m1.length p ∧ ∀ u, Below w'.heap.size w' u → DoP w0 bq bd bl bx bm R F G (K + 1) BX X (.returned (.bool true)) u := by
  have hle := S.le.2
  refine (x_next_none (star_good (PL_good _ _ _ _ _ _ _) (star_good (RR_good _ _ _ _ _) (RMd_tail (star_good (blkR_good _ _) gB) g))) V (by omega) hn).mono fun e w' hh => ?_
  unfold XNoneP at hh
  have h5 := RMd_in hh.2
  have gF := BS_good (w0 := w0) (bq := bq) (bd := bd) (bl := bl) (bx := bx) (bm := bm) (R := R) (F := F) (G := G) (d := (p.y.next F d).d) (h := h) (ws := ws) (rs := m1 ++ ⟨p.b, p.c, (p.y.next F d).x⟩ :: m2) (q := q) gB g
  exact ⟨hh.1, RMd_cells ea eb hh.2, fun u hu => ⟨rfl, _, h, ws, _, q, S.setR (by have := le_next (F := F) (y := p.y) S.le; exact_mod_cast this) _, In.below (B_pop h5) gF hu⟩⟩
end
end Go.Proofs.YtkbapoeilcapfaaGreat

/- SpillDoes: play.reader. -/
namespace Go.Proofs.YtkbapoeilcapfaaGreat
open Go.RowKit Go.Maps
set_option linter.unusedVariables false
set_option linter.unusedSimpArgs false
set_option maxRecDepth 6000

section
variable {w0 w W : World} {bd bl bx bm bq bo : Nat} {R : Int} {F : List Int} {G : Int} {d d2 : Ds} {h h2 : Int} {ws : List Wq} {rs m1 m2 : List Rq} {p : Rq} {q : Q4} {X BX : Res} {K : Nat} {k N : Int} {C : Option Addr} {m cc : Nat} {r : List V}
theorem reader_out (gB : Good BX) (g : Good X) (S : SO K d ws rs) (V : In w0 w (BS w0 bq bd bl bx bm R F G d h ws rs q BX X)) (hN : N < 0 ∨ (rs.length : Int) ≤ N) :
    Calls Tryz.prog 59 #[qp bq, oV k N C m cc] w (DoP w0 bq bd bl bx bm R F G (K + 1) BX X) := by
  have V1 := B_push gB g V (oObj k N C m cc)
  have gV := BS_good (w0 := w0) (bq := bq) (bd := bd) (bl := bl) (bx := bx) (bm := bm) (R := R) (F := F) (G := G) (d := d) (h := h) (ws := ws) (rs := rs) (q := q) (star_good (blkR_good w.heap.size (oObj k N C m cc)) gB) g
  have E0 := Lib.hid (fun n => show DoP w0 bq bd bl bx bm R F G (K + 1) BX X (.returned (.bool true)) ((w.alloc (oObj k N C m cc)).drewN n) from ⟨rfl, d, h, ws, rs, q, S.up, B_pop (in_drewN gV V1 n)⟩)
  obtain ⟨_, _, _, _, c8, _⟩ := T_cells (B_tt V1)
  obtain ⟨n, hn⟩ : ∃ n, n = rs.length := ⟨_, rfl⟩
  rw [← hn] at c8 hN
  clear V V1 gV S hn
  by_cases h0 : N < 0
  · have h1 : decide (N < 0) = true := by simpa using h0
    clear hN
    go_enter Tryz.func59, Tryz.ntmps59
    go_wp2
    go_quiet (fail)
    go_wp2
    go_ret
    exact E0.out _
  · have h1 : decide (N < 0) = false := by simpa using h0
    have h2 : (n : Int) ≤ N := by omega
    have h3 : decide ((n : Int) ≤ N) = true := by simpa using h2
    clear hN
    go_enter Tryz.func59, Tryz.ntmps59
    go_wp2
    go_quiet (fail)
    go_wp2
    go_ret
    exact E0.out _
set_option maxHeartbeats 4000000 in
theorem reader_in (gB : Good BX) (g : Good X) (hK : K ≤ 1000) (S : SO K d ws (m1 ++ p :: m2)) (V : In w0 w (BS w0 bq bd bl bx bm R F G d h ws (m1 ++ p :: m2) q BX X)) :
    Calls Tryz.prog 59 #[qp bq, oV k (m1.length : Int) C m cc] w (DoP w0 bq bd bl bx bm R F G (K + 1) BX X) := by
  have V1 := B_push gB g V (oObj k (m1.length : Int) C m cc)
  have gV := BS_good (w0 := w0) (bq := bq) (bd := bd) (bl := bl) (bx := bx) (bm := bm) (R := R) (F := F) (G := G) (d := d) (h := h) (ws := ws) (rs := m1 ++ p :: m2) (q := q) (star_good (blkR_good w.heap.size (oObj k (m1.length : Int) C m cc)) gB) g
  obtain ⟨_, _, _, _, c8, c9⟩ := T_cells (B_tt V1)
  obtain ⟨a, b, ea, eb, ca, cb⟩ := T_r (B_tt V1)
  rw [ea] at c8
  rw [eb] at c9
  have hnl := S.lr
  have C1 := Lib.hid (fun n => r_closing gB g ea eb (in_drewN gV V1 n))
  have C2 := Lib.hid (fun (W : World) V => x_closing (w0 := w0) (W := W.drew) (bq := bq) (bd := bd) (bl := bl) (bx := bx) (bm := bm) (R := R) (F := F) (G := G) (d := d) (h := h) (k := k) (N := (m1.length : Int)) (C := C) (m := m) (cc := cc) (bo := w.heap.size) (q := q) gB g ea eb S (in_drew (RMd_good (star_good (blkR_good _ _) gB) g) V))
  have C5 := Lib.hid (fun n (hn : (p.y.next F d).row = none) => r_nexting_n gB g ea eb S hK hn (in_drewN gV V1 n))
  have C6 := Lib.hid (fun (hn : (p.y.next F d).row = none) (W : World) V => x_nexting_n (w0 := w0) (W := W.drew) (bq := bq) (bd := bd) (bl := bl) (bx := bx) (bm := bm) (R := R) (F := F) (G := G) (d := d) (h := h) (k := k) (N := (m1.length : Int)) (C := C) (m := m) (cc := cc) (bo := w.heap.size) (q := q) gB g ea eb S hK hn (in_drew (RMd_good (star_good (blkR_good _ _) gB) g) V))
  have C3 := Lib.hid (fun n r (hn : (p.y.next F d).row = some r) => r_nexting_s gB g ea eb S hK hn (in_drewN gV V1 n))
  have C4 := Lib.hid (fun r (hn : (p.y.next F d).row = some r) (B : Option Addr) (mB : Nat) (W : World) V => x_nexting_s (w0 := w0) (W := W.drew) (bq := bq) (bd := bd) (bl := bl) (bx := bx) (bm := bm) (R := R) (F := F) (G := G) (d := d) (h := h) (k := k) (N := (m1.length : Int)) (C := C) (m := m) (cc := cc) (bo := w.heap.size) (q := q) (B := B) (mB := mB) gB g ea eb S hK hn (in_drew (RMd_good (star_good (blkR_good _ _) gB) g) V))
  obtain ⟨n, hn⟩ : ∃ n, n = (m1 ++ p :: m2).length := ⟨_, rfl⟩
  have hil : m1.length < n := by rw [hn]; simp
  simp only [← hn] at C1 C2 C3 C4 C5 C6 c8 c9 hnl
  obtain ⟨i, hi⟩ : ∃ i, i = m1.length := ⟨_, rfl⟩
  have hia : a.add m1.length = a.add i := by rw [hi]
  have hib : b.add m1.length = b.add i := by rw [hi]
  rw [hia] at ca
  rw [hib] at cb
  rw [← hi] at hil
  simp only [← hi] at C1 C2 C3 C4 C5 C6 c8 c9 ca cb ⊢
  have h1 : decide ((i : Int) < 0) = false := by simp
  have h2 : decide ((n : Int) ≤ (i : Int)) = false := by simp; omega
  have h3 : ¬ (i : Int) < 0 := by omega
  have h4 : ¬ (n : Int) ≤ (i : Int) := by omega
  have h5 : (0 : Int) ≤ (i : Int) := by omega
  have h6 : (i : Int) < (n : Int) := by omega
  have hn64 : n ≤ 9223372036854775807 := by omega
  have co : (w.alloc (oObj k (i : Int) C m cc)).cell? ⟨w.heap.size, 1, none⟩ = some (.int .i64 (i : Int)) := by rw [hi]; exact (B_box V1).2.1
  clear V V1 gV hn hi hia hib ea eb S
  by_cases k7 : k = 7
  · subst k7
    clear C3 C4 C5 C6
    go_enter Tryz.func59, Tryz.ntmps59
    go_wp2
    go_quiet (fail)
    go_wp2
    go_region_held3 (fun w' => w'.cell? ⟨bq, 8, none⟩ = some (.slice (some a) n q.cr) ∧ w'.cell? ⟨bq, 9, none⟩ = some (.slice (some b) n q.cs) ∧ w'.cell? ⟨w.heap.size, 1, none⟩ = some (.int .i64 (i : Int)) ∧ w'.cell? (a.add i) = some (rp_ p.b) ∧ w'.cell? (b.add i) = some (rp_ p.c)) (first | go_keep | (refine ⟨?_, ?_, ?_, ?_, ?_⟩ <;> assumption)) (first
      | (go_at_call 43; (with_reducible refine (C1.out _).mono ?_); rintro e w2 ⟨rfl, ⟨s8, s9, s1, sa, sb⟩, V⟩; have V2 := Lib.hid V; clear V))
    all_goals go_wp2
    all_goals go_region_held3 (fun w' => w'.cell? ⟨bq, 8, none⟩ = some (.slice (some a) n q.cr) ∧ w'.cell? ⟨bq, 9, none⟩ = some (.slice (some b) n q.cs) ∧ w'.cell? ⟨w.heap.size, 1, none⟩ = some (.int .i64 (i : Int)) ∧ w'.cell? (a.add i) = some (rp_ p.b) ∧ w'.cell? (b.add i) = some (rp_ p.c)) (first | go_keep | (refine ⟨?_, ?_, ?_, ?_, ?_⟩ <;> assumption)) (first
      | (go_at_call 55; (with_reducible refine (C2.out _ V2.out).mono ?_); rintro e w3 ⟨rfl, ⟨t8, t9, t1, ta, tb⟩, V⟩; have V3 := Lib.hid V; clear V))
    all_goals go_wp2
    all_goals go_ret
    all_goals exact V3.out
  · have h7 : (k == 7) = false := by simpa using k7
    clear C1 C2
    cases hrow : (p.y.next F d).row with
    | none =>
      have C5 := Lib.hid (fun n => C5.out n hrow)
      have C6 := Lib.hid (fun W V => C6.out hrow W V)
      clear C3 C4
      have CS := Lib.hid (fun W => same_same (w := W) (A := none) (A2 := none) (n := 0) (c := 0) (c2 := 0) [] (RdV.nil W) (RdV.nil W))
      obtain ⟨E, hE⟩ : ∃ E, E = (p.y.next F d).e := ⟨_, rfl⟩
      simp only [← hE] at C5 C6
      clear hE hrow
      go_enter Tryz.func59, Tryz.ntmps59
      go_wp2
      go_quiet (fail)
      go_wp2
      go_region_held3 (fun w' => w'.cell? ⟨bq, 8, none⟩ = some (.slice (some a) n q.cr) ∧ w'.cell? ⟨bq, 9, none⟩ = some (.slice (some b) n q.cs) ∧ w'.cell? ⟨w.heap.size, 1, none⟩ = some (.int .i64 (i : Int)) ∧ w'.cell? (a.add i) = some (rp_ p.b) ∧ w'.cell? (b.add i) = some (rp_ p.c)) (first | go_keep | (refine ⟨?_, ?_, ?_, ?_, ?_⟩ <;> assumption)) (first
        | (go_at_call 42; (with_reducible refine (C5.out _).mono ?_); rintro e w2 ⟨rfl, ⟨s8, s9, s1, sa, sb⟩, V⟩; have V2 := Lib.hid V; clear V))
      all_goals go_wp2
      all_goals go_region_held3 (fun w' => w'.cell? ⟨bq, 8, none⟩ = some (.slice (some a) n q.cr) ∧ w'.cell? ⟨bq, 9, none⟩ = some (.slice (some b) n q.cs) ∧ w'.cell? ⟨w.heap.size, 1, none⟩ = some (.int .i64 (i : Int)) ∧ w'.cell? (a.add i) = some (rp_ p.b) ∧ w'.cell? (b.add i) = some (rp_ p.c)) (first | go_keep | (refine ⟨?_, ?_, ?_, ?_, ?_⟩ <;> assumption)) (first
        | (go_at_call 54; (with_reducible refine (C6.out _ V2.out).mono ?_); rintro e w3 ⟨rfl, ⟨t8, t9, t1, ta, tb⟩, V⟩; have V3 := Lib.hid V; clear V))
      all_goals go_wp2_with (go_at_call 44; (with_reducible refine (CS.out _).mono ?_); rintro e w4 ⟨rfl, b4⟩; have V4 := Lib.hid (V3.out _ b4); clear b4)
      all_goals go_ret
      all_goals exact V4.out
    | some r =>
      have C3 := Lib.hid (fun n => C3.out n r hrow)
      have C4 := Lib.hid (fun B mB W V => C4.out r hrow B mB W V)
      clear C5 C6
      have CS := Lib.hid (fun W A A2 n c c2 h1 h2 => same_same (w := W) (A := A) (A2 := A2) (n := n) (c := c) (c2 := c2) r h1 h2)
      clear hrow
      go_enter Tryz.func59, Tryz.ntmps59
      go_wp2
      go_quiet (fail)
      go_wp2
      go_region_held3 (fun w' => w'.cell? ⟨bq, 8, none⟩ = some (.slice (some a) n q.cr) ∧ w'.cell? ⟨bq, 9, none⟩ = some (.slice (some b) n q.cs) ∧ w'.cell? ⟨w.heap.size, 1, none⟩ = some (.int .i64 (i : Int)) ∧ w'.cell? (a.add i) = some (rp_ p.b) ∧ w'.cell? (b.add i) = some (rp_ p.c)) (first | go_keep | (refine ⟨?_, ?_, ?_, ?_, ?_⟩ <;> assumption)) (first
        | (go_at_call 42; (with_reducible refine (C3.out _).mono ?_); rintro e w2 ⟨B, mB, cB, rfl, ⟨s8, s9, s1, sa, sb⟩, V⟩; have V2 := Lib.hid V; clear V))
      all_goals go_wp2
      all_goals go_region_held3 (fun w' => w'.cell? ⟨bq, 8, none⟩ = some (.slice (some a) n q.cr) ∧ w'.cell? ⟨bq, 9, none⟩ = some (.slice (some b) n q.cs) ∧ w'.cell? ⟨w.heap.size, 1, none⟩ = some (.int .i64 (i : Int)) ∧ w'.cell? (a.add i) = some (rp_ p.b) ∧ w'.cell? (b.add i) = some (rp_ p.c)) (first | go_keep | (refine ⟨?_, ?_, ?_, ?_, ?_⟩ <;> assumption)) (first
        | (go_at_call 54; (with_reducible refine (C4.out _ _ _ V2.out).mono ?_); rintro e w3 ⟨B', m', c', rfl, ⟨t8, t9, t1, ta, tb⟩, ⟨em, q1, q2⟩, V⟩; subst em; have Q3 := Lib.hid (And.intro q1 q2); have V3 := Lib.hid V; clear V q1 q2))
      all_goals go_wp2_with (go_at_call 44; (with_reducible refine (CS.out _ _ _ _ _ _ Q3.out.1 Q3.out.2).mono ?_); rintro e w4 ⟨rfl, b4⟩; have V4 := Lib.hid (V3.out _ b4); clear b4)
      all_goals go_ret
      all_goals exact V4.out
end
end Go.Proofs.YtkbapoeilcapfaaGreat

/- SpillDoes: play.do: new writers. -/
namespace Go.Proofs.YtkbapoeilcapfaaGreat
open Go.RowKit Go.Maps
set_option linter.unusedVariables false
set_option linter.unusedSimpArgs false
set_option maxRecDepth 6000

theorem star_comm_eq (A B : Res) : star A B = star B A := by
  funext w S
  exact propext ⟨star_comm, star_comm⟩
theorem star_assoc_eq (A B C : Res) : star (star A B) C = star A (star B C) := by
  funext w S
  exact propext ⟨star_assoc, star_assoc'⟩
instance : Std.Commutative (α := Res) star := ⟨star_comm_eq⟩
instance : Std.Associative (α := Res) star := ⟨star_assoc_eq⟩
theorem In.ac {w0 w : World} {A B : Res} (V : In w0 w A) (h : A = B) : In w0 w B := h ▸ V
abbrev plO (bd bl bx bm : Nat) (sw sv sr ss : Value) : Obj := .cells #[dp bd, lp bl, .int .i64 0, dp bx, dp bm, .int .i64 0, sw, sv, sr, ss, .bool false] 59 (0, 0)
section
variable {w0 w W : World} {bd bl bx bm bq bo bw bv : Nat} {R : Int} {F : List Int} {G : Int} {d d2 : Ds} {h h2 : Int} {ws : List Wq} {rs m1 m2 : List Rq} {q : Q4} {X BX : Res} {K : Nat} {k N : Int} {C : Option Addr} {m cc : Nat} {r : List V} {sw sv sr ss : Value}
abbrev PC (W : World) (bq bd bl bx bm : Nat) : Prop := (W.cell? ⟨bq, 0, none⟩ = some (dp bd) ∧ W.cell? ⟨bq, 1, none⟩ = some (lp bl) ∧ W.cell? ⟨bq, 2, none⟩ = some (.int .i64 0)) ∧ (W.cell? ⟨bq, 3, none⟩ = some (dp bx) ∧ W.cell? ⟨bq, 4, none⟩ = some (dp bm) ∧ W.cell? ⟨bq, 5, none⟩ = some (.int .i64 0))
theorem B_pc (V : In w0 W (BS w0 bq bd bl bx bm R F G d h ws rs q BX X)) : PC W bq bd bl bx bm := ⟨(T_cells (B_tt V)).1, (T_cells (B_tt V)).2.1⟩
theorem d_wr_no (gB : Good BX) (g : Good X) (S : SO K d ws rs) (hK : K ≤ 1000) (hE : wrE G d h ≠ 0) (V : In w0 W (BS w0 bq bd bl bx bm R F G d h ws rs q BX X)) :
    Calls Tryz.prog 37 #[pv bd bl] W fun e w' => e = .returned (.tuple #[.pointer none, .int .i64 (wrE G d h)]) ∧ PC w' bq bd bl bx bm ∧ In w0 w' (BS w0 bq bd bl bx bm R F G d h ws rs q BX X) := by
  have hle := S.le.1
  have gF := BS_good (w0 := w0) (bq := bq) (bd := bd) (bl := bl) (bx := bx) (bm := bm) (R := R) (F := F) (G := G) (d := d) (h := h) (ws := ws) (rs := rs) (q := q) gB g
  have gT : Good (star BX (star (PX bx bm R F G d h) (star (each (WP w0 bd bl bx bm) ws) (star (each (RP bd bl bx bm) rs) (TT bq bd bl bx bm q ws rs X))))) :=
    star_good gB (star_good (PX_good _ _ _ _ _ _ _) (star_good (each_good (WP_good _ _ _ _ _) _) (star_good (each_good (RP_good _ _ _ _) _) (TT_good g))))
  unfold wrE at hE ⊢
  by_cases hG : G ≤ h
  · rw [if_pos hG]
    exact (writer_a gT V hG).mono fun e w' hh => ⟨hh.1, B_pc hh.2, hh.2⟩
  · rw [if_neg hG] at hE ⊢
    exact (writer_b gT V hG (by omega) hE).mono fun e w' hh => ⟨hh.1, B_pc hh.2, hh.2⟩
abbrev BR (w0 : World) (bq bd bl bx bm : Nat) (R : Int) (F : List Int) (G : Int) (d : Ds) (h : Int) (ws : List Wq) (rs : List Rq) (q : Q4) (BX X : Res) : Res :=
  star (PX bx bm R F G d h) (star (PL bd bl R F G d h) (star BX (star (each (WP w0 bd bl bx bm) ws) (star (each (RP bd bl bx bm) rs) (TT bq bd bl bx bm q ws rs X)))))
theorem BR_of (V : In w0 W (BS w0 bq bd bl bx bm R F G d h ws rs q BX X)) : In w0 W (BR w0 bq bd bl bx bm R F G d h ws rs q BX X) := V.imp fun S h => pull3 h
theorem BR_to (V : In w0 W (BR w0 bq bd bl bx bm R F G d h ws rs q BX X)) : In w0 W (BS w0 bq bd bl bx bm R F G d h ws rs q BX X) := V.imp fun S h => push3 h
theorem x_wr_no (gB : Good BX) (g : Good X) (S : SO K d ws rs) (hK : K ≤ 1000) (hE : wrE G d h ≠ 0) (V : In w0 W (BS w0 bq bd bl bx bm R F G d h ws rs q BX X)) :
    Calls Tryz.prog 48 #[pvx bx bm] W fun e w' => e = .returned (.tuple #[.pointer none, .int .i64 (wrE G d h)]) ∧ In w0 w' (BS w0 bq bd bl bx bm R F G d h ws rs q BX X) := by
  have hle := S.le.1
  have gT : Good (star (PL bd bl R F G d h) (star BX (star (each (WP w0 bd bl bx bm) ws) (star (each (RP bd bl bx bm) rs) (TT bq bd bl bx bm q ws rs X))))) :=
    star_good (PL_good _ _ _ _ _ _ _) (star_good gB (star_good (each_good (WP_good _ _ _ _ _) _) (star_good (each_good (RP_good _ _ _ _) _) (TT_good g))))
  unfold wrE at hE ⊢
  by_cases hG : G ≤ h
  · rw [if_pos hG]
    exact (ywriter_a gT (BR_of V) hG).mono fun e w' hh => ⟨hh.1, BR_to hh.2⟩
  · rw [if_neg hG] at hE ⊢
    exact (ywriter_b gT (BR_of V) hG (by omega) hE).mono fun e w' hh => ⟨hh.1, BR_to hh.2⟩
abbrev N1 (w0 : World) (bw bq bd bl bx bm : Nat) (R : Int) (F : List Int) (G : Int) (d : Ds) (h : Int) (ws : List Wq) (rs : List Rq) (q : Q4) (BX X : Res) : Res :=
  star (PL bd bl R F G d.create (h + 1)) (star (WR bw bd bl (wrX d)) (star BX (star (PX bx bm R F G d h) (star (each (WP w0 bd bl bx bm) ws) (star (each (RP bd bl bx bm) rs) (TT bq bd bl bx bm q ws rs X))))))
theorem d_wr_yes (gB : Good BX) (g : Good X) (S : SO K d ws rs) (hK : K ≤ 1000) (hE : wrE G d h = 0) (V : In w0 W (BS w0 bq bd bl bx bm R F G d h ws rs q BX X)) :
    Calls Tryz.prog 37 #[pv bd bl] W fun e w' => ∃ bw, e = .returned (.tuple #[wp_ bw, .int .i64 0]) ∧ PC w' bq bd bl bx bm ∧ In w0 w' (N1 w0 bw bq bd bl bx bm R F G d h ws rs q BX X) := by
  have hle := S.le.1
  have gT : Good (star BX (star (PX bx bm R F G d h) (star (each (WP w0 bd bl bx bm) ws) (star (each (RP bd bl bx bm) rs) (TT bq bd bl bx bm q ws rs X))))) :=
    star_good gB (star_good (PX_good _ _ _ _ _ _ _) (star_good (each_good (WP_good _ _ _ _ _) _) (star_good (each_good (RP_good _ _ _ _) _) (TT_good g))))
  unfold wrE at hE
  by_cases hG : G ≤ h
  · rw [if_pos hG] at hE; cases hE
  · rw [if_neg hG] at hE
    refine (writer_c gT V hG (by omega) hE).mono fun e w' hh => ?_
    obtain ⟨bw, h1, h2⟩ := hh
    have h3 := T_cells h2.right.right.right.right.right.right
    exact ⟨bw, h1, ⟨h3.1, h3.2.1⟩, h2⟩
abbrev rwR (v : Value) (n : Nat) (xs : List Value) : Res := rowR 88 1 v n xs
abbrev rvR (v : Value) (n : Nat) (xs : List Value) : Res := rowR 108 1 v n xs
abbrev rrR (v : Value) (n : Nat) (xs : List Value) : Res := rowR 93 1 v n xs
abbrev rsR (v : Value) (n : Nat) (xs : List Value) : Res := rowR 111 1 v n xs
/-- What lies beside the writers' lists while they grow. -/
abbrev ZW (w0 : World) (bw bv bd bl bx bm : Nat) (R : Int) (F : List Int) (G : Int) (d : Ds) (h : Int) (ws : List Wq) (rs : List Rq) (q : Q4) (BX X : Res) : Res :=
  star (PL bd bl R F G d.create (h + 1)) (star BX (star (PX bx bm R F G d.create (h + 1)) (star (WP w0 bd bl bx bm ⟨bw, bv, wrX d, wrX d⟩) (star (each (WP w0 bd bl bx bm) ws) (star (each (RP bd bl bx bm) rs) (star (rrR (.slice q.Ar rs.length q.cr) rs.length (rVs rs)) (star (rsR (.slice q.As rs.length q.cs) rs.length (sVs rs)) X)))))))
theorem ZW_good (gB : Good BX) (g : Good X) : Good (ZW w0 bw bv bd bl bx bm R F G d h ws rs q BX X) :=
  star_good (PL_good _ _ _ _ _ _ _) (star_good gB (star_good (PX_good _ _ _ _ _ _ _) (star_good (WP_good _ _ _ _ _ _) (star_good (each_good (WP_good _ _ _ _ _) _) (star_good (each_good (RP_good _ _ _ _) _) (star_good (rowR_good _ _ _ _ _) (star_good (rowR_good _ _ _ _ _) g)))))))
theorem x_wr_yes (gB : Good BX) (g : Good X) (S : SO K d ws rs) (hK : K ≤ 1000) (hE : wrE G d h = 0) (V : In w0 W (N1 w0 bw bq bd bl bx bm R F G d h ws rs q BX X)) :
    Calls Tryz.prog 48 #[pvx bx bm] W fun e w' => ∃ bv, e = .returned (.tuple #[wp_ bv, .int .i64 0]) ∧
      In w0 w' (star (rwR (.slice q.Aw ws.length q.cw) ws.length (wVs ws)) (star (blkR bq (plObj bd bl bx bm q ws.length rs.length)) (star (rvR (.slice q.Av ws.length q.cv) ws.length (vVs ws)) (ZW w0 bw bv bd bl bx bm R F G d h ws rs q BX X)))) := by
  have hle := S.le.1
  have gT : Good (star (PL bd bl R F G d.create (h + 1)) (star (WR bw bd bl (wrX d)) (star BX (star (each (WP w0 bd bl bx bm) ws) (star (each (RP bd bl bx bm) rs) (TT bq bd bl bx bm q ws rs X)))))) :=
    star_good (PL_good _ _ _ _ _ _ _) (star_good (WR_good _ _ _ _) (star_good gB (star_good (each_good (WP_good _ _ _ _ _) _) (star_good (each_good (RP_good _ _ _ _) _) (TT_good g)))))
  have V1 : In w0 W (star (PX bx bm R F G d h) (star (PL bd bl R F G d.create (h + 1)) (star (WR bw bd bl (wrX d)) (star BX (star (each (WP w0 bd bl bx bm) ws) (star (each (RP bd bl bx bm) rs) (TT bq bd bl bx bm q ws rs X))))))) := V.imp fun S h => pull4 h
  unfold wrE at hE
  by_cases hG : G ≤ h
  · rw [if_pos hG] at hE; cases hE
  · rw [if_neg hG] at hE
    refine (ywriter_c gT V1 hG (by omega) hE).mono fun e w' hh => ?_
    obtain ⟨bv, h1, h2⟩ := hh
    exact ⟨bv, h1, h2.ac (by dsimp only [TT, RowsQ, ZW, WP, rwR, rvR, rrR, rsR, plObj]; ac_rfl)⟩
theorem w_done_in (V : In w0 W (star (blkR bq (plO bd bl bx bm sw sv (.slice q.Ar rs.length q.cr) (.slice q.As rs.length q.cs))) (star (rwR sw (ws.length + 1) (wVs ws ++ [wp_ bw])) (star (rvR sv (ws.length + 1) (vVs ws ++ [wp_ bv])) (ZW w0 bw bv bd bl bx bm R F G d h ws rs q BX X))))) :
    ∃ q', In w0 W (BS w0 bq bd bl bx bm R F G d.create (h + 1) (ws ++ [⟨bw, bv, wrX d, wrX d⟩]) rs q' BX X) := by
  obtain ⟨Aw, cw, rfl⟩ := own_slice (V.right.left.get fun S h => h.1)
  obtain ⟨Av, cv, rfl⟩ := own_slice (V.right.right.left.get fun S h => h.1)
  refine ⟨⟨Aw, cw, Av, cv, q.Ar, q.cr, q.As, q.cs⟩, ?_⟩
  have e1 : (ws ++ [(⟨bw, bv, wrX d, wrX d⟩ : Wq)]).length = ws.length + 1 := by simp
  have e2 : wVs (ws ++ [⟨bw, bv, wrX d, wrX d⟩]) = wVs ws ++ [wp_ bw] := by simp
  have e3 : vVs (ws ++ [⟨bw, bv, wrX d, wrX d⟩]) = vVs ws ++ [wp_ bv] := by simp
  have V2 : In w0 W (star (star (WP w0 bd bl bx bm ⟨bw, bv, wrX d, wrX d⟩) (each (WP w0 bd bl bx bm) ws)) (star (PL bd bl R F G d.create (h + 1)) (star BX (star (PX bx bm R F G d.create (h + 1)) (star (each (RP bd bl bx bm) rs) (star (blkR bq (plO bd bl bx bm (.slice Aw (ws.length + 1) cw) (.slice Av (ws.length + 1) cv) (.slice q.Ar rs.length q.cr) (.slice q.As rs.length q.cs))) (star (rwR (.slice Aw (ws.length + 1) cw) (ws.length + 1) (wVs ws ++ [wp_ bw])) (star (rvR (.slice Av (ws.length + 1) cv) (ws.length + 1) (vVs ws ++ [wp_ bv])) (star (rrR (.slice q.Ar rs.length q.cr) rs.length (rVs rs)) (star (rsR (.slice q.As rs.length q.cs) rs.length (sVs rs)) X)))))))))) := V.ac (by dsimp only [ZW]; ac_rfl)
  have V3 := V2.imp fun S h => star_mono h (fun S h => each_in (l1 := ws) (l2 := []) (by rw [List.append_nil]; exact h)) (fun _ => id)
  unfold BS TT RowsQ
  rw [e1, e2, e3]
  refine V3.ac ?_
  dsimp only [plObj, plO, rwR, rvR, rrR, rsR]
  ac_rfl
end
end Go.Proofs.YtkbapoeilcapfaaGreat

/- SpillDoes: play.do, a new writer. -/
namespace Go.Proofs.YtkbapoeilcapfaaGreat
open Go.RowKit Go.Maps
set_option linter.unusedVariables false
set_option linter.unusedSimpArgs false
set_option maxRecDepth 6000

theorem info_pw : (Tryz.prog.info? 88).map (fun i => (i.zero, i.size, i.bytes)) = some (some (.pointer none), 1, 8) := by kernel_rfl
theorem info_pv : (Tryz.prog.info? 108).map (fun i => (i.zero, i.size, i.bytes)) = some (some (.pointer none), 1, 8) := by kernel_rfl
theorem info_pr : (Tryz.prog.info? 93).map (fun i => (i.zero, i.size, i.bytes)) = some (some (.pointer none), 1, 8) := by kernel_rfl
theorem info_ps : (Tryz.prog.info? 111).map (fun i => (i.zero, i.size, i.bytes)) = some (some (.pointer none), 1, 8) := by kernel_rfl
section
variable {w0 w W : World} {bd bl bx bm bq bo bw bv : Nat} {R : Int} {F : List Int} {G : Int} {d d2 : Ds} {h h2 : Int} {ws : List Wq} {rs m1 m2 : List Rq} {q : Q4} {X BX : Res} {K : Nat} {k N : Int} {C : Option Addr} {m cc : Nat} {r : List V} {sw sv sr ss : Value}
theorem SO.newW (S : SO K d ws rs) : SO (K + 1) d.create (ws ++ [⟨bw, bv, wrX d, wrX d⟩]) rs := by
  refine ⟨by have := le_create S.le; exact_mod_cast this, fun p hp => ?_, fun p hp => ?_, by have := S.lw; simp; omega, by have := S.lr; omega⟩
  · rcases List.mem_append.1 hp with e | e
    · exact S.ok p e
    · rw [List.mem_singleton.1 e]
      exact ⟨rfl, rfl, rfl, fun _ => rfl⟩
  · rcases List.mem_append.1 hp with e | e
    · have := S.num p e; omega
    · rw [List.mem_singleton.1 e]
      show (0 : Int) ≤ _
      omega
theorem dop_pop {o : Obj} {e : Ending} (D : DoP w0 bq bd bl bx bm R F G K (star (blkR bo o) BX) X e w) : DoP w0 bq bd bl bx bm R F G K BX X e w := by
  obtain ⟨h1, d, h, ws, rs, q, S, V⟩ := D
  exact ⟨h1, d, h, ws, rs, q, S, B_pop V⟩
theorem do_wr_no (gB : Good BX) (g : Good X) (hK : K ≤ 1000) (S : SO K d ws rs) (hE : wrE G d h ≠ 0) (V : In w0 w (BS w0 bq bd bl bx bm R F G d h ws rs q BX X)) :
    Calls Tryz.prog 22 #[qp bq, oV 1 N C m cc] w (DoP w0 bq bd bl bx bm R F G (K + 1) BX X) := by
  have V1 := B_push gB g V (oObj 1 N C m cc)
  have gB1 : Good (star (blkR w.heap.size (oObj 1 N C m cc)) BX) := star_good (blkR_good _ _) gB
  obtain ⟨⟨c0, c1, c2⟩, c3, c4, c5⟩ := B_pc V1
  have C1 := Lib.hid (d_wr_no gB1 g S hK hE V1)
  have C2 := Lib.hid (fun W V => (x_wr_no (w0 := w0) (W := W) (bq := bq) (bd := bd) (bl := bl) (bx := bx) (bm := bm) (R := R) (F := F) (G := G) (d := d) (h := h) (q := q) gB1 g S hK hE V).mono fun (e : Ending) (w' : World) hh => show e = .returned (.tuple #[.pointer none, .int .i64 (wrE G d h)]) ∧ DoP w0 bq bd bl bx bm R F G (K + 1) BX X (.returned (.bool true)) w' from ⟨hh.1, rfl, d, h, ws, rs, q, S.up, B_pop hh.2⟩)
  obtain ⟨E, hEE⟩ : ∃ E, E = wrE G d h := ⟨_, rfl⟩
  rw [← hEE] at C1
  simp only [← hEE] at C2
  clear V V1 hE hEE S
  go_enter Tryz.func22, Tryz.ntmps22
  go_wp2_with (first
    | (go_at_call 37; (with_reducible refine C1.out.mono ?_); rintro e w2 ⟨rfl, ⟨⟨k0, k1, k2⟩, k3, k4, k5⟩, V⟩; have V2 := Lib.hid V; clear V)
    | (go_at_call 48; (with_reducible refine (C2.out _ V2.out).mono ?_); rintro e w3 ⟨rfl, V⟩; have V3 := Lib.hid V; clear V))
  go_ret
  exact V3.out
set_option maxHeartbeats 4000000 in
theorem do_wr_yes (gB : Good BX) (g : Good X) (hK : K ≤ 1000) (S : SO K d ws rs) (hE : wrE G d h = 0) (V : In w0 w (BS w0 bq bd bl bx bm R F G d h ws rs q BX X)) :
    Calls Tryz.prog 22 #[qp bq, oV 1 N C m cc] w (DoP w0 bq bd bl bx bm R F G (K + 1) BX X) := by
  have V1 := B_push gB g V (oObj 1 N C m cc)
  have gB1 : Good (star (blkR w.heap.size (oObj 1 N C m cc)) BX) := star_good (blkR_good _ _) gB
  obtain ⟨⟨c0, c1, c2⟩, c3, c4, c5⟩ := B_pc V1
  have C1 := Lib.hid (d_wr_yes gB1 g S hK hE V1)
  have hlw := S.lw
  have gZ := Lib.hid (fun bw bv => ZW_good (w0 := w0) (bw := bw) (bv := bv) (bd := bd) (bl := bl) (bx := bx) (bm := bm) (R := R) (F := F) (G := G) (d := d) (h := h) (ws := ws) (rs := rs) (q := q) gB1 g)
  have C2 := Lib.hid (fun W bw V => (x_wr_yes (w0 := w0) (W := W) (bw := bw) (bq := bq) (bd := bd) (bl := bl) (bx := bx) (bm := bm) (R := R) (F := F) (G := G) (d := d) (h := h) (q := q) gB1 g S hK hE V))
  have G1 := Lib.hid (fun bw bv w3 w4 v1 (V : In w0 w3 (star (rwR (.slice q.Aw ws.length q.cw) ws.length (wVs ws)) (star (blkR bq (plObj bd bl bx bm q ws.length rs.length)) (star (rvR (.slice q.Av ws.length q.cv) ws.length (vVs ws)) (ZW w0 bw bv bd bl bx bm R F G d h ws rs q (star (blkR w.heap.size (oObj 1 N C m cc)) BX) X)))))
      (h1 : w4.ownsRow 0 88 1 v1 (ws.length + 1) (wVs ws ++ [wp_ bw])) (ht : Turn (fun k => (Value.slice q.Aw ws.length q.cw).ownBlock = some k) w3 w4) (hor : v1.ownBlock = (Value.slice q.Aw ws.length q.cw).ownBlock ∨ ∃ b, v1.ownBlock = some b ∧ w3.heap.size ≤ b) =>
    show (∃ A c, v1 = .slice A (ws.length + 1) c) ∧ (w4.cell? ⟨bq, 6, none⟩ = some (.slice q.Aw ws.length q.cw) ∧ w4.cell? ⟨bq, 7, none⟩ = some (.slice q.Av ws.length q.cv) ∧ w4.frozen? ⟨bq, 6, none⟩ = false ∧ w4.frozen? ⟨bq, 7, none⟩ = false) ∧
      ((w4.setCell ⟨bq, 6, none⟩ v1).cell? ⟨bq, 7, none⟩ = some (.slice q.Av ws.length q.cv) ∧ (w4.setCell ⟨bq, 6, none⟩ v1).ownsRow 0 108 1 (.slice q.Av ws.length q.cv) ws.length (vVs ws)) ∧
      In w0 (w4.setCell ⟨bq, 6, none⟩ v1) (star (rvR (.slice q.Av ws.length q.cv) ws.length (vVs ws)) (star (blkR bq (plO bd bl bx bm v1 (.slice q.Av ws.length q.cv) (.slice q.Ar rs.length q.cr) (.slice q.As rs.length q.cs))) (star (rwR v1 (ws.length + 1) (wVs ws ++ [wp_ bw])) (ZW w0 bw bv bd bl bx bm R F G d h ws rs q (star (blkR w.heap.size (oObj 1 N C m cc)) BX) X)))) from by
    have gz := gZ.out bw bv
    have V4 := (V.grow (star_good (blkR_good _ _) (star_good (rowR_good _ _ _ _ _) gz)) h1 ht hor).swap
    have hb := V4.left.get fun S h => h.1
    have V5 : In w0 (w4.setCell ⟨bq, 6, none⟩ v1) (star (blkR bq (plO bd bl bx bm v1 (.slice q.Av ws.length q.cv) (.slice q.Ar rs.length q.cr) (.slice q.As rs.length q.cs))) (star (rwR v1 (ws.length + 1) (wVs ws ++ [wp_ bw])) (star (rvR (.slice q.Av ws.length q.cv) ws.length (vVs ws)) (ZW w0 bw bv bd bl bx bm R F G d h ws rs q (star (blkR w.heap.size (oObj 1 N C m cc)) BX) X)))) :=
      V4.put (star_good (rowR_good _ _ _ _ _) (star_good (rowR_good _ _ _ _ _) gz)) 6 v1
    have hb2 := V5.left.get fun S h => h.1
    exact ⟨own_slice h1, ⟨cell_of_blk hb 6, cell_of_blk hb 7, free_of_blk hb 6, free_of_blk hb 7⟩, ⟨cell_of_blk hb2 7, V5.right.right.left.get fun S h => h.1⟩, V5.imp fun S h => pull3 h⟩)
  have G2 := Lib.hid (fun bw bv w3 w4 v0 v1 (V : In w0 w3 (star (rvR (.slice q.Av ws.length q.cv) ws.length (vVs ws)) (star (blkR bq (plO bd bl bx bm v0 (.slice q.Av ws.length q.cv) (.slice q.Ar rs.length q.cr) (.slice q.As rs.length q.cs))) (star (rwR v0 (ws.length + 1) (wVs ws ++ [wp_ bw])) (ZW w0 bw bv bd bl bx bm R F G d h ws rs q (star (blkR w.heap.size (oObj 1 N C m cc)) BX) X)))))
      (h1 : w4.ownsRow 0 108 1 v1 (ws.length + 1) (vVs ws ++ [wp_ bv])) (ht : Turn (fun k => (Value.slice q.Av ws.length q.cv).ownBlock = some k) w3 w4) (hor : v1.ownBlock = (Value.slice q.Av ws.length q.cv).ownBlock ∨ ∃ b, v1.ownBlock = some b ∧ w3.heap.size ≤ b) =>
    show (∃ A c, v1 = .slice A (ws.length + 1) c) ∧ (w4.cell? ⟨bq, 7, none⟩ = some (.slice q.Av ws.length q.cv) ∧ w4.frozen? ⟨bq, 7, none⟩ = false) ∧
      DoP w0 bq bd bl bx bm R F G (K + 1) BX X (.returned (.bool true)) (w4.setCell ⟨bq, 7, none⟩ v1) from by
    have gz := gZ.out bw bv
    have V4 := (V.grow (star_good (blkR_good _ _) (star_good (rowR_good _ _ _ _ _) gz)) h1 ht hor).swap
    have hb := V4.left.get fun S h => h.1
    have V5 : In w0 (w4.setCell ⟨bq, 7, none⟩ v1) (star (blkR bq (plO bd bl bx bm v0 v1 (.slice q.Ar rs.length q.cr) (.slice q.As rs.length q.cs))) (star (rvR v1 (ws.length + 1) (vVs ws ++ [wp_ bv])) (star (rwR v0 (ws.length + 1) (wVs ws ++ [wp_ bw])) (ZW w0 bw bv bd bl bx bm R F G d h ws rs q (star (blkR w.heap.size (oObj 1 N C m cc)) BX) X)))) :=
      V4.put (star_good (rowR_good _ _ _ _ _) (star_good (rowR_good _ _ _ _ _) gz)) 7 v1
    obtain ⟨q', V'⟩ := w_done_in (V5.imp fun S h => star_mono h (fun _ => id) (fun _ h => star_swap h))
    exact ⟨own_slice h1, ⟨cell_of_blk hb 7, free_of_blk hb 7⟩, rfl, _, _, _, rs, q', S.newW, B_pop V'⟩)
  obtain ⟨n, hn⟩ : ∃ n, n = ws.length := ⟨_, rfl⟩
  rw [← hn] at hlw
  simp only [← hn] at C2 G1 G2
  have hn64 : n ≤ 1000 := by omega
  clear V V1 hE hn S gB gB1 gZ
  go_enter Tryz.func22, Tryz.ntmps22
  go_wp2_with (first
    | (go_at_call 37; (with_reducible refine C1.out.mono ?_); rintro e w2 ⟨bw, rfl, ⟨⟨k0, k1, k2⟩, k3, k4, k5⟩, V⟩; have V2 := Lib.hid V; clear V)
    | (go_at_call 48; (with_reducible refine (C2.out _ _ V2.out).mono ?_); rintro e w3 ⟨bv, rfl, V⟩; have HO := Lib.hid (V.left.get fun S h => h.1); have hb := V.right.left.get fun S h => h.1; have a6 := cell_of_blk hb 6; have a7 := cell_of_blk hb 7; have f6 := free_of_blk hb 6; have f7 := free_of_blk hb 7; have V3 := Lib.hid V; clear V hb)
    | (at_builtin; refine wp_append1 (W := w3) 0 rfl (.tmp 49) (.tmp 51) 54 88 (.pointer none) 1 8 rfl Tryz.underlying54 info_pw rfl (by omega) (by omega) (.slice q.Aw n q.cw) n _ [wp_ bw] rfl rfl (by simp) rfl (by simp [Value.oneCell']) HO.out (by omega) (by omega) ?_; intro v1 w4 h4 t4 hor; obtain ⟨⟨A1, c1, rfl⟩, ⟨b6, b7, g6, g7⟩, ⟨d7, HO2⟩, V4⟩ := G1.out _ _ _ _ _ V3.out h4 t4 hor; have V4 := Lib.hid V4; have HO2 := Lib.hid HO2; clear h4 t4 hor V3 HO)
    | (at_builtin; refine wp_append1 (W := w4.setCell ⟨bq, 6, none⟩ (.slice A1 (n + 1) c1)) 0 rfl (.tmp 59) (.tmp 61) 55 108 (.pointer none) 1 8 rfl Tryz.underlying55 info_pv rfl (by omega) (by omega) (.slice q.Av n q.cv) n _ [wp_ bv] rfl rfl (by simp) rfl (by simp [Value.oneCell']) HO2.out (by omega) (by omega) ?_; intro v1 w6 h6 t6 hor; obtain ⟨⟨A2, c2, rfl⟩, ⟨j7, i7⟩, D⟩ := G2.out _ _ _ _ _ _ V4.out h6 t6 hor; have D6 := Lib.hid D; clear h6 t6 hor V4 HO2 D))
  go_ret
  exact D6.out
end
end Go.Proofs.YtkbapoeilcapfaaGreat

/- SpillDoes: play.do, a new reader. -/
namespace Go.Proofs.YtkbapoeilcapfaaGreat
open Go.RowKit Go.Maps
set_option linter.unusedVariables false
set_option linter.unusedSimpArgs false
set_option maxRecDepth 6000

section
variable {w0 w W : World} {bd bl bx bm bq bo br bs : Nat} {R : Int} {F : List Int} {G : Int} {d d2 : Ds} {h h2 : Int} {ws : List Wq} {rs m1 m2 : List Rq} {q : Q4} {X BX : Res} {K : Nat} {k N : Int} {C : Option Addr} {m cc : Nat} {r : List V} {sw sv sr ss : Value}
theorem SO.newR (S : SO K d ws rs) : SO (K + 1) d ws (rs ++ [⟨br, bs, rs0 N⟩]) := ⟨S.le.mono (by omega), S.ok, fun p hp => by have := S.num p hp; omega, by have := S.lw; omega, by have := S.lr; simp; omega⟩
abbrev PD5 (W : World) (bq bo bd bl bx bm : Nat) (N : Int) : Prop := W.cell? ⟨bq, 0, none⟩ = some (dp bd) ∧ W.cell? ⟨bq, 1, none⟩ = some (lp bl) ∧ W.cell? ⟨bq, 2, none⟩ = some (.int .i64 0) ∧ W.cell? ⟨bq, 3, none⟩ = some (dp bx) ∧ W.cell? ⟨bq, 4, none⟩ = some (dp bm) ∧ W.cell? ⟨bq, 5, none⟩ = some (.int .i64 0) ∧ W.cell? ⟨bo, 1, none⟩ = some (.int .i64 N)
theorem pd5 {Y : Res} (V : In w0 W (TT bq bd bl bx bm q ws rs X)) (V2 : In w0 W (star (star (blkR bo (oObj k N C m cc)) BX) Y)) : PD5 W bq bo bd bl bx bm N := by
  obtain ⟨⟨c0, c1, c2⟩, ⟨c3, c4, c5⟩, _⟩ := T_cells V
  have h := (V2.left.imp fun S h => star_comm h).right.get fun S h => h.1
  exact ⟨c0, c1, c2, c3, c4, c5, cell_of_blk h 1⟩
theorem B_pd5 (V : In w0 W (BS w0 bq bd bl bx bm R F G d h ws rs q (star (blkR bo (oObj k N C m cc)) BX) X)) : PD5 W bq bo bd bl bx bm N := pd5 (B_tt V) V.right
theorem d_rr_no (gB : Good BX) (g : Good X) (hw : (Lit.int .i64 N).wf = true) (hE : rrE G d h N ≠ 0) (V : In w0 W (BS w0 bq bd bl bx bm R F G d h ws rs q (star (blkR bo (oObj k N C m cc)) BX) X)) :
    Calls Tryz.prog 41 #[pv bd bl, .int .i64 N] W fun e w' => e = .returned (.tuple #[.pointer none, .int .i64 (rrE G d h N)]) ∧ PD5 w' bq bo bd bl bx bm N ∧ In w0 w' (BS w0 bq bd bl bx bm R F G d h ws rs q (star (blkR bo (oObj k N C m cc)) BX) X) := by
  have gT : Good (star (star (blkR bo (oObj k N C m cc)) BX) (star (PX bx bm R F G d h) (star (each (WP w0 bd bl bx bm) ws) (star (each (RP bd bl bx bm) rs) (TT bq bd bl bx bm q ws rs X))))) :=
    star_good (star_good (blkR_good _ _) gB) (star_good (PX_good _ _ _ _ _ _ _) (star_good (each_good (WP_good _ _ _ _ _) _) (star_good (each_good (RP_good _ _ _ _) _) (TT_good g))))
  unfold rrE at hE ⊢
  cases hf : d.find N with
  | none =>
    rw [if_pos (by rfl)]
    exact (reader_a gT V hw hf).mono fun e w' hh => ⟨hh.1, B_pd5 hh.2, hh.2⟩
  | some l =>
    rw [hf, if_neg (by simp)] at hE
    rw [if_neg (by simp)]
    by_cases hG : G ≤ h
    · rw [if_pos hG]
      exact (reader_b gT V hw hf hG).mono fun e w' hh => ⟨hh.1, B_pd5 hh.2, hh.2⟩
    · rw [if_neg hG] at hE
      exact absurd rfl hE
theorem x_rr_no (gB : Good BX) (g : Good X) (hE : rrE G d h N ≠ 0) (V : In w0 W (BS w0 bq bd bl bx bm R F G d h ws rs q (star (blkR bo (oObj k N C m cc)) BX) X)) :
    Calls Tryz.prog 53 #[pvx bx bm, .int .i64 N] W fun e w' => e = .returned (.tuple #[.pointer none, .int .i64 (rrE G d h N)]) ∧ PD5 w' bq bo bd bl bx bm N ∧ In w0 w' (BS w0 bq bd bl bx bm R F G d h ws rs q (star (blkR bo (oObj k N C m cc)) BX) X) := by
  have gT : Good (star (PL bd bl R F G d h) (star (star (blkR bo (oObj k N C m cc)) BX) (star (each (WP w0 bd bl bx bm) ws) (star (each (RP bd bl bx bm) rs) (TT bq bd bl bx bm q ws rs X))))) :=
    star_good (PL_good _ _ _ _ _ _ _) (star_good (star_good (blkR_good _ _) gB) (star_good (each_good (WP_good _ _ _ _ _) _) (star_good (each_good (RP_good _ _ _ _) _) (TT_good g))))
  unfold rrE at hE ⊢
  cases hf : d.find N with
  | none =>
    rw [if_pos (by rfl)]
    exact (xreader_a gT (BR_of V) hf).mono fun e w' hh => ⟨hh.1, B_pd5 (BR_to hh.2), BR_to hh.2⟩
  | some l =>
    rw [hf, if_neg (by simp)] at hE
    rw [if_neg (by simp)]
    by_cases hG : G ≤ h
    · rw [if_pos hG]
      exact (xreader_b gT (BR_of V) hf hG).mono fun e w' hh => ⟨hh.1, B_pd5 (BR_to hh.2), BR_to hh.2⟩
    · rw [if_neg hG] at hE
      exact absurd rfl hE
theorem rr_zero (hE : rrE G d h N = 0) : ∃ l, d.find N = some l ∧ ¬ G ≤ h := by
  unfold rrE at hE
  cases hf : d.find N with
  | none => rw [hf] at hE; cases hE
  | some l =>
    rw [hf, if_neg (by simp)] at hE
    exact ⟨l, rfl, fun hG => by rw [if_pos hG] at hE; cases hE⟩
abbrev M1 (w0 : World) (br bq bd bl bx bm : Nat) (R : Int) (F : List Int) (G : Int) (d : Ds) (h : Int) (N : Int) (ws : List Wq) (rs : List Rq) (q : Q4) (BX X : Res) : Res :=
  star (PL bd bl R F G d (h + 1)) (star (RR br bd bl (rs0 N) (fun _ => True)) (star BX (star (PX bx bm R F G d h) (star (each (WP w0 bd bl bx bm) ws) (star (each (RP bd bl bx bm) rs) (TT bq bd bl bx bm q ws rs X))))))
theorem M1_good (gB : Good BX) (g : Good X) : Good (M1 w0 br bq bd bl bx bm R F G d h N ws rs q BX X) :=
  star_good (PL_good _ _ _ _ _ _ _) (star_good (RR_good _ _ _ _ _) (star_good gB (star_good (PX_good _ _ _ _ _ _ _) (star_good (each_good (WP_good _ _ _ _ _) _) (star_good (each_good (RP_good _ _ _ _) _) (TT_good g))))))
theorem d_rr_yes (gB : Good BX) (g : Good X) (hw : (Lit.int .i64 N).wf = true) (hE : rrE G d h N = 0) (V : In w0 W (BS w0 bq bd bl bx bm R F G d h ws rs q (star (blkR bo (oObj k N C m cc)) BX) X)) :
    Calls Tryz.prog 41 #[pv bd bl, .int .i64 N] W fun e w' => ∃ br, e = .returned (.tuple #[rp_ br, .int .i64 0]) ∧ PD5 w' bq bo bd bl bx bm N ∧ In w0 w' (M1 w0 br bq bd bl bx bm R F G d h N ws rs q (star (blkR bo (oObj k N C m cc)) BX) X) := by
  have gT : Good (star (star (blkR bo (oObj k N C m cc)) BX) (star (PX bx bm R F G d h) (star (each (WP w0 bd bl bx bm) ws) (star (each (RP bd bl bx bm) rs) (TT bq bd bl bx bm q ws rs X))))) :=
    star_good (star_good (blkR_good _ _) gB) (star_good (PX_good _ _ _ _ _ _ _) (star_good (each_good (WP_good _ _ _ _ _) _) (star_good (each_good (RP_good _ _ _ _) _) (TT_good g))))
  obtain ⟨l, hf, hG⟩ := rr_zero hE
  refine (reader_c gT V hw hf hG).mono fun e w' hh => ?_
  obtain ⟨br, h1, h2⟩ := hh
  exact ⟨br, h1, pd5 h2.right.right.right.right.right.right h2.right.right, h2⟩
/-- What lies beside the readers' lists while they grow. -/
abbrev ZR (w0 : World) (br bs bd bl bx bm : Nat) (R : Int) (F : List Int) (G : Int) (d : Ds) (h : Int) (N : Int) (ws : List Wq) (rs : List Rq) (q : Q4) (BX X : Res) : Res :=
  star (PL bd bl R F G d (h + 1)) (star BX (star (PX bx bm R F G d (h + 1)) (star (RP bd bl bx bm ⟨br, bs, rs0 N⟩) (star (each (WP w0 bd bl bx bm) ws) (star (each (RP bd bl bx bm) rs) (star (rwR (.slice q.Aw ws.length q.cw) ws.length (wVs ws)) (star (rvR (.slice q.Av ws.length q.cv) ws.length (vVs ws)) X)))))))
theorem ZR_good (gB : Good BX) (g : Good X) : Good (ZR w0 br bs bd bl bx bm R F G d h N ws rs q BX X) :=
  star_good (PL_good _ _ _ _ _ _ _) (star_good gB (star_good (PX_good _ _ _ _ _ _ _) (star_good (RP_good _ _ _ _ _) (star_good (each_good (WP_good _ _ _ _ _) _) (star_good (each_good (RP_good _ _ _ _) _) (star_good (rowR_good _ _ _ _ _) (star_good (rowR_good _ _ _ _ _) g)))))))
theorem x_rr_yes (gB : Good BX) (g : Good X) (hw : (Lit.int .i64 N).wf = true) (hE : rrE G d h N = 0) (V : In w0 W (M1 w0 br bq bd bl bx bm R F G d h N ws rs q (star (blkR bo (oObj k N C m cc)) BX) X)) :
    Calls Tryz.prog 53 #[pvx bx bm, .int .i64 N] W fun e w' => ∃ bs, e = .returned (.tuple #[rp_ bs, .int .i64 0]) ∧ PD5 w' bq bo bd bl bx bm N ∧
      In w0 w' (star (rrR (.slice q.Ar rs.length q.cr) rs.length (rVs rs)) (star (blkR bq (plObj bd bl bx bm q ws.length rs.length)) (star (rsR (.slice q.As rs.length q.cs) rs.length (sVs rs)) (ZR w0 br bs bd bl bx bm R F G d h N ws rs q (star (blkR bo (oObj k N C m cc)) BX) X)))) := by
  have gT : Good (star (PL bd bl R F G d (h + 1)) (star (RR br bd bl (rs0 N) (fun _ => True)) (star (star (blkR bo (oObj k N C m cc)) BX) (star (each (WP w0 bd bl bx bm) ws) (star (each (RP bd bl bx bm) rs) (TT bq bd bl bx bm q ws rs X)))))) :=
    star_good (PL_good _ _ _ _ _ _ _) (star_good (RR_good _ _ _ _ _) (star_good (star_good (blkR_good _ _) gB) (star_good (each_good (WP_good _ _ _ _ _) _) (star_good (each_good (RP_good _ _ _ _) _) (TT_good g)))))
  have V1 : In w0 W (star (PX bx bm R F G d h) (star (PL bd bl R F G d (h + 1)) (star (RR br bd bl (rs0 N) (fun _ => True)) (star (star (blkR bo (oObj k N C m cc)) BX) (star (each (WP w0 bd bl bx bm) ws) (star (each (RP bd bl bx bm) rs) (TT bq bd bl bx bm q ws rs X))))))) := V.imp fun S h => pull4 h
  obtain ⟨l, hf, hG⟩ := rr_zero hE
  refine (xreader_c gT V1 hw hf hG).mono fun e w' hh => ?_
  obtain ⟨bs, h1, h2⟩ := hh
  refine ⟨bs, h1, pd5 h2.right.right.right.right.right.right.right h2.right.right.right.right, h2.ac ?_⟩
  generalize star (blkR bo (oObj k N C m cc)) BX = BY
  dsimp only [TT, RowsQ, ZR, RP, rwR, rvR, rrR, rsR, plObj]
  ac_rfl
theorem r_done_in (V : In w0 W (star (blkR bq (plO bd bl bx bm (.slice q.Aw ws.length q.cw) (.slice q.Av ws.length q.cv) sr ss)) (star (rrR sr (rs.length + 1) (rVs rs ++ [rp_ br])) (star (rsR ss (rs.length + 1) (sVs rs ++ [rp_ bs])) (ZR w0 br bs bd bl bx bm R F G d h N ws rs q BX X))))) :
    ∃ q', In w0 W (BS w0 bq bd bl bx bm R F G d (h + 1) ws (rs ++ [⟨br, bs, rs0 N⟩]) q' BX X) := by
  obtain ⟨Ar, cr, rfl⟩ := own_slice (V.right.left.get fun S h => h.1)
  obtain ⟨As, cs, rfl⟩ := own_slice (V.right.right.left.get fun S h => h.1)
  refine ⟨⟨q.Aw, q.cw, q.Av, q.cv, Ar, cr, As, cs⟩, ?_⟩
  have e1 : (rs ++ [(⟨br, bs, rs0 N⟩ : Rq)]).length = rs.length + 1 := by simp
  have e2 : rVs (rs ++ [⟨br, bs, rs0 N⟩]) = rVs rs ++ [rp_ br] := by simp
  have e3 : sVs (rs ++ [⟨br, bs, rs0 N⟩]) = sVs rs ++ [rp_ bs] := by simp
  have V2 : In w0 W (star (star (RP bd bl bx bm ⟨br, bs, rs0 N⟩) (each (RP bd bl bx bm) rs)) (star (PL bd bl R F G d (h + 1)) (star BX (star (PX bx bm R F G d (h + 1)) (star (each (WP w0 bd bl bx bm) ws) (star (blkR bq (plO bd bl bx bm (.slice q.Aw ws.length q.cw) (.slice q.Av ws.length q.cv) (.slice Ar (rs.length + 1) cr) (.slice As (rs.length + 1) cs))) (star (rwR (.slice q.Aw ws.length q.cw) ws.length (wVs ws)) (star (rvR (.slice q.Av ws.length q.cv) ws.length (vVs ws)) (star (rrR (.slice Ar (rs.length + 1) cr) (rs.length + 1) (rVs rs ++ [rp_ br])) (star (rsR (.slice As (rs.length + 1) cs) (rs.length + 1) (sVs rs ++ [rp_ bs])) X)))))))))) := V.ac (by dsimp only [ZR]; ac_rfl)
  have V3 := V2.imp fun S h => star_mono h (fun S h => each_in (l1 := rs) (l2 := []) (by rw [List.append_nil]; exact h)) (fun _ => id)
  unfold BS TT RowsQ
  rw [e1, e2, e3]
  refine V3.ac ?_
  dsimp only [plObj, plO, rwR, rvR, rrR, rsR]
  ac_rfl
theorem do_rr_no (gB : Good BX) (g : Good X) (S : SO K d ws rs) (hw : (Lit.int .i64 N).wf = true) (hE : rrE G d h N ≠ 0) (V : In w0 w (BS w0 bq bd bl bx bm R F G d h ws rs q BX X)) :
    Calls Tryz.prog 22 #[qp bq, oV 5 N C m cc] w (DoP w0 bq bd bl bx bm R F G (K + 1) BX X) := by
  have V1 := B_push gB g V (oObj 5 N C m cc)
  have gB1 : Good (star (blkR w.heap.size (oObj 5 N C m cc)) BX) := star_good (blkR_good _ _) gB
  have gV := BS_good (w0 := w0) (bq := bq) (bd := bd) (bl := bl) (bx := bx) (bm := bm) (R := R) (F := F) (G := G) (d := d) (h := h) (ws := ws) (rs := rs) (q := q) gB1 g
  obtain ⟨c0, c1, c2, c3, c4, c5, co⟩ := B_pd5 V1
  have C1 := Lib.hid (d_rr_no gB g hw hE (in_drew gV V1))
  have C2 := Lib.hid (fun (W : World) V => (x_rr_no (w0 := w0) (W := W.drew) (bq := bq) (bd := bd) (bl := bl) (bx := bx) (bm := bm) (R := R) (F := F) (G := G) (d := d) (h := h) (q := q) (k := 5) (C := C) (m := m) (cc := cc) (bo := w.heap.size) gB g hE (in_drew gV V)).mono fun (e : Ending) (w' : World) hh => show e = .returned (.tuple #[.pointer none, .int .i64 (rrE G d h N)]) ∧ PD5 w' bq w.heap.size bd bl bx bm N ∧ DoP w0 bq bd bl bx bm R F G (K + 1) BX X (.returned (.bool true)) w' from ⟨hh.1, hh.2.1, rfl, d, h, ws, rs, q, S.up, B_pop hh.2.2⟩)
  obtain ⟨E, hEE⟩ : ∃ E, E = rrE G d h N := ⟨_, rfl⟩
  simp only [← hEE] at C1 C2
  clear V V1 hE hEE S gV gB1 hw
  go_enter Tryz.func22, Tryz.ntmps22
  go_wp2
  go_region_held3 (fun w' => w'.cell? ⟨bq, 0, none⟩ = some (dp bd) ∧ w'.cell? ⟨bq, 1, none⟩ = some (lp bl) ∧ w'.cell? ⟨bq, 2, none⟩ = some (.int .i64 0) ∧ w'.cell? ⟨bq, 3, none⟩ = some (dp bx) ∧ w'.cell? ⟨bq, 4, none⟩ = some (dp bm) ∧ w'.cell? ⟨bq, 5, none⟩ = some (.int .i64 0) ∧ w'.cell? ⟨w.heap.size, 1, none⟩ = some (.int .i64 N)) (first | go_keep | (refine ⟨?_, ?_, ?_, ?_, ?_, ?_, ?_⟩ <;> assumption)) (first
    | (go_at_call 41; (with_reducible refine C1.out.mono ?_); rintro e w2 ⟨rfl, ⟨s0, s1, s2, s3, s4, s5, so⟩, V⟩; have V2 := Lib.hid V; clear V))
  all_goals go_wp2
  all_goals go_region_held3 (fun w' => w'.cell? ⟨bq, 0, none⟩ = some (dp bd) ∧ w'.cell? ⟨bq, 1, none⟩ = some (lp bl) ∧ w'.cell? ⟨bq, 2, none⟩ = some (.int .i64 0) ∧ w'.cell? ⟨bq, 3, none⟩ = some (dp bx) ∧ w'.cell? ⟨bq, 4, none⟩ = some (dp bm) ∧ w'.cell? ⟨bq, 5, none⟩ = some (.int .i64 0) ∧ w'.cell? ⟨w.heap.size, 1, none⟩ = some (.int .i64 N)) (first | go_keep | (refine ⟨?_, ?_, ?_, ?_, ?_, ?_, ?_⟩ <;> assumption)) (first
    | (go_at_call 53; (with_reducible refine (C2.out _ V2.out).mono ?_); rintro e w3 ⟨rfl, ⟨t0, t1, t2, t3, t4, t5, to⟩, V⟩; have V3 := Lib.hid V; clear V))
  all_goals go_wp2
  all_goals go_ret
  all_goals exact V3.out
set_option maxHeartbeats 4000000 in
theorem do_rr_yes (gB : Good BX) (g : Good X) (hK : K ≤ 1000) (S : SO K d ws rs) (hw : (Lit.int .i64 N).wf = true) (hE : rrE G d h N = 0) (V : In w0 w (BS w0 bq bd bl bx bm R F G d h ws rs q BX X)) :
    Calls Tryz.prog 22 #[qp bq, oV 5 N C m cc] w (DoP w0 bq bd bl bx bm R F G (K + 1) BX X) := by
  have V1 := B_push gB g V (oObj 5 N C m cc)
  have gB1 : Good (star (blkR w.heap.size (oObj 5 N C m cc)) BX) := star_good (blkR_good _ _) gB
  have gV := BS_good (w0 := w0) (bq := bq) (bd := bd) (bl := bl) (bx := bx) (bm := bm) (R := R) (F := F) (G := G) (d := d) (h := h) (ws := ws) (rs := rs) (q := q) gB1 g
  obtain ⟨c0, c1, c2, c3, c4, c5, co⟩ := B_pd5 V1
  have C1 := Lib.hid (d_rr_yes gB g hw hE (in_drew gV V1))
  have hlr := S.lr
  have gZ := Lib.hid (fun bw bv => ZR_good (w0 := w0) (br := bw) (bs := bv) (N := N) (bd := bd) (bl := bl) (bx := bx) (bm := bm) (R := R) (F := F) (G := G) (d := d) (h := h) (ws := ws) (rs := rs) (q := q) gB1 g)
  have C2 := Lib.hid (fun (W : World) (bw : Nat) V => (x_rr_yes (w0 := w0) (W := W.drew) (br := bw) (bq := bq) (bd := bd) (bl := bl) (bx := bx) (bm := bm) (R := R) (F := F) (G := G) (d := d) (h := h) (ws := ws) (rs := rs) (q := q) (k := 5) (C := C) (m := m) (cc := cc) (bo := w.heap.size) gB g hw hE (in_drew (M1_good gB1 g) V)))
  have G1 := Lib.hid (fun bw bv w3 w4 v1 (V : In w0 w3 (star (rrR (.slice q.Ar rs.length q.cr) rs.length (rVs rs)) (star (blkR bq (plObj bd bl bx bm q ws.length rs.length)) (star (rsR (.slice q.As rs.length q.cs) rs.length (sVs rs)) (ZR w0 bw bv bd bl bx bm R F G d h N ws rs q (star (blkR w.heap.size (oObj 5 N C m cc)) BX) X)))))
      (h1 : w4.ownsRow 0 93 1 v1 (rs.length + 1) (rVs rs ++ [rp_ bw])) (ht : Turn (fun k => (Value.slice q.Ar rs.length q.cr).ownBlock = some k) w3 w4) (hor : v1.ownBlock = (Value.slice q.Ar rs.length q.cr).ownBlock ∨ ∃ b, v1.ownBlock = some b ∧ w3.heap.size ≤ b) =>
    show (∃ A c, v1 = .slice A (rs.length + 1) c) ∧ (w4.cell? ⟨bq, 8, none⟩ = some (.slice q.Ar rs.length q.cr) ∧ w4.cell? ⟨bq, 9, none⟩ = some (.slice q.As rs.length q.cs) ∧ w4.frozen? ⟨bq, 8, none⟩ = false ∧ w4.frozen? ⟨bq, 9, none⟩ = false) ∧
      ((w4.setCell ⟨bq, 8, none⟩ v1).cell? ⟨bq, 9, none⟩ = some (.slice q.As rs.length q.cs) ∧ (w4.setCell ⟨bq, 8, none⟩ v1).ownsRow 0 111 1 (.slice q.As rs.length q.cs) rs.length (sVs rs)) ∧
      In w0 (w4.setCell ⟨bq, 8, none⟩ v1) (star (rsR (.slice q.As rs.length q.cs) rs.length (sVs rs)) (star (blkR bq (plO bd bl bx bm (.slice q.Aw ws.length q.cw) (.slice q.Av ws.length q.cv) v1 (.slice q.As rs.length q.cs))) (star (rrR v1 (rs.length + 1) (rVs rs ++ [rp_ bw])) (ZR w0 bw bv bd bl bx bm R F G d h N ws rs q (star (blkR w.heap.size (oObj 5 N C m cc)) BX) X)))) from by
    have gz := gZ.out bw bv
    have V4 := (V.grow (star_good (blkR_good _ _) (star_good (rowR_good _ _ _ _ _) gz)) h1 ht hor).swap
    have hb := V4.left.get fun S h => h.1
    have V5 : In w0 (w4.setCell ⟨bq, 8, none⟩ v1) (star (blkR bq (plO bd bl bx bm (.slice q.Aw ws.length q.cw) (.slice q.Av ws.length q.cv) v1 (.slice q.As rs.length q.cs))) (star (rrR v1 (rs.length + 1) (rVs rs ++ [rp_ bw])) (star (rsR (.slice q.As rs.length q.cs) rs.length (sVs rs)) (ZR w0 bw bv bd bl bx bm R F G d h N ws rs q (star (blkR w.heap.size (oObj 5 N C m cc)) BX) X)))) :=
      V4.put (star_good (rowR_good _ _ _ _ _) (star_good (rowR_good _ _ _ _ _) gz)) 8 v1
    have hb2 := V5.left.get fun S h => h.1
    exact ⟨own_slice h1, ⟨cell_of_blk hb 8, cell_of_blk hb 9, free_of_blk hb 8, free_of_blk hb 9⟩, ⟨cell_of_blk hb2 9, V5.right.right.left.get fun S h => h.1⟩, V5.imp fun S h => pull3 h⟩)
  have G2 := Lib.hid (fun bw bv w3 w4 v0 v1 (V : In w0 w3 (star (rsR (.slice q.As rs.length q.cs) rs.length (sVs rs)) (star (blkR bq (plO bd bl bx bm (.slice q.Aw ws.length q.cw) (.slice q.Av ws.length q.cv) v0 (.slice q.As rs.length q.cs))) (star (rrR v0 (rs.length + 1) (rVs rs ++ [rp_ bw])) (ZR w0 bw bv bd bl bx bm R F G d h N ws rs q (star (blkR w.heap.size (oObj 5 N C m cc)) BX) X)))))
      (h1 : w4.ownsRow 0 111 1 v1 (rs.length + 1) (sVs rs ++ [rp_ bv])) (ht : Turn (fun k => (Value.slice q.As rs.length q.cs).ownBlock = some k) w3 w4) (hor : v1.ownBlock = (Value.slice q.As rs.length q.cs).ownBlock ∨ ∃ b, v1.ownBlock = some b ∧ w3.heap.size ≤ b) =>
    show (∃ A c, v1 = .slice A (rs.length + 1) c) ∧ (w4.cell? ⟨bq, 9, none⟩ = some (.slice q.As rs.length q.cs) ∧ w4.frozen? ⟨bq, 9, none⟩ = false) ∧
      DoP w0 bq bd bl bx bm R F G (K + 1) BX X (.returned (.bool true)) (w4.setCell ⟨bq, 9, none⟩ v1) from by
    have gz := gZ.out bw bv
    have V4 := (V.grow (star_good (blkR_good _ _) (star_good (rowR_good _ _ _ _ _) gz)) h1 ht hor).swap
    have hb := V4.left.get fun S h => h.1
    have V5 : In w0 (w4.setCell ⟨bq, 9, none⟩ v1) (star (blkR bq (plO bd bl bx bm (.slice q.Aw ws.length q.cw) (.slice q.Av ws.length q.cv) v0 v1)) (star (rsR v1 (rs.length + 1) (sVs rs ++ [rp_ bv])) (star (rrR v0 (rs.length + 1) (rVs rs ++ [rp_ bw])) (ZR w0 bw bv bd bl bx bm R F G d h N ws rs q (star (blkR w.heap.size (oObj 5 N C m cc)) BX) X)))) :=
      V4.put (star_good (rowR_good _ _ _ _ _) (star_good (rowR_good _ _ _ _ _) gz)) 9 v1
    obtain ⟨q', V'⟩ := r_done_in (V5.imp fun S h => star_mono h (fun _ => id) (fun _ h => star_swap h))
    exact ⟨own_slice h1, ⟨cell_of_blk hb 9, free_of_blk hb 9⟩, rfl, _, _, ws, _, q', S.newR, B_pop V'⟩)
  obtain ⟨n, hn⟩ : ∃ n, n = rs.length := ⟨_, rfl⟩
  rw [← hn] at hlr
  simp only [← hn] at C2 G1 G2
  have hn64 : n ≤ 1000 := by omega
  clear V V1 hE hn S gB gB1 gZ gV hw
  go_enter Tryz.func22, Tryz.ntmps22
  go_wp2
  go_region_held3 (fun w' => w'.cell? ⟨bq, 0, none⟩ = some (dp bd) ∧ w'.cell? ⟨bq, 1, none⟩ = some (lp bl) ∧ w'.cell? ⟨bq, 2, none⟩ = some (.int .i64 0) ∧ w'.cell? ⟨bq, 3, none⟩ = some (dp bx) ∧ w'.cell? ⟨bq, 4, none⟩ = some (dp bm) ∧ w'.cell? ⟨bq, 5, none⟩ = some (.int .i64 0) ∧ w'.cell? ⟨w.heap.size, 1, none⟩ = some (.int .i64 N)) (first | go_keep | (refine ⟨?_, ?_, ?_, ?_, ?_, ?_, ?_⟩ <;> assumption)) (first
    | (go_at_call 41; (with_reducible refine C1.out.mono ?_); rintro e w2 ⟨bw, rfl, ⟨s0, s1, s2, s3, s4, s5, so⟩, V⟩; have V2 := Lib.hid V; clear V))
  all_goals go_wp2
  all_goals go_region_held3 (fun w' => w'.cell? ⟨bq, 0, none⟩ = some (dp bd) ∧ w'.cell? ⟨bq, 1, none⟩ = some (lp bl) ∧ w'.cell? ⟨bq, 2, none⟩ = some (.int .i64 0) ∧ w'.cell? ⟨bq, 3, none⟩ = some (dp bx) ∧ w'.cell? ⟨bq, 4, none⟩ = some (dp bm) ∧ w'.cell? ⟨bq, 5, none⟩ = some (.int .i64 0) ∧ w'.cell? ⟨w.heap.size, 1, none⟩ = some (.int .i64 N)) (first | go_keep | (refine ⟨?_, ?_, ?_, ?_, ?_, ?_, ?_⟩ <;> assumption)) (first
    | (go_at_call 53; (with_reducible refine (C2.out _ _ V2.out).mono ?_); rintro e w3 ⟨bv, rfl, ⟨t0, t1, t2, t3, t4, t5, to⟩, V⟩; have HO := Lib.hid (V.left.get fun S h => h.1); have hb := V.right.left.get fun S h => h.1; have a6 := cell_of_blk hb 8; have a7 := cell_of_blk hb 9; have f6 := free_of_blk hb 8; have f7 := free_of_blk hb 9; have V3 := Lib.hid V; clear V hb))
  all_goals go_wp2_with (first
    | (at_builtin; refine wp_append1 (W := w3) 0 rfl (.tmp 103) (.tmp 105) 56 93 (.pointer none) 1 8 rfl Tryz.underlying56 info_pr rfl (by omega) (by omega) (.slice q.Ar n q.cr) n _ [rp_ bw] rfl rfl (by simp) rfl (by simp [Value.oneCell']) HO.out (by omega) (by omega) ?_; intro v1 w4 h4 t4 hor; obtain ⟨⟨A1, c1, rfl⟩, ⟨b6, b7, g6, g7⟩, ⟨d7, HO2⟩, V4⟩ := G1.out _ _ _ _ _ V3.out h4 t4 hor; have V4 := Lib.hid V4; have HO2 := Lib.hid HO2; clear h4 t4 hor V3 HO)
    | (at_builtin; refine wp_append1 (W := w4.setCell ⟨bq, 8, none⟩ (.slice A1 (n + 1) c1)) 0 rfl (.tmp 113) (.tmp 115) 57 111 (.pointer none) 1 8 rfl Tryz.underlying57 info_ps rfl (by omega) (by omega) (.slice q.As n q.cs) n _ [rp_ bv] rfl rfl (by simp) rfl (by simp [Value.oneCell']) HO2.out (by omega) (by omega) ?_; intro v1 w6 h6 t6 hor; obtain ⟨⟨A2, c2, rfl⟩, ⟨j7, i7⟩, D⟩ := G2.out _ _ _ _ _ _ V4.out h6 t6 hor; have D6 := Lib.hid D; clear h6 t6 hor V4 HO2 D))
  all_goals go_ret
  all_goals exact D6.out
end
end Go.Proofs.YtkbapoeilcapfaaGreat

/- SpillDoes: play.do. -/
namespace Go.Proofs.YtkbapoeilcapfaaGreat
open Go.RowKit Go.Maps
set_option linter.unusedVariables false
set_option linter.unusedSimpArgs false
set_option maxRecDepth 6000

section
variable {w0 w W : World} {bd bl bx bm bq bo br bs : Nat} {R : Int} {F : List Int} {G : Int} {d d2 : Ds} {h h2 : Int} {ws : List Wq} {rs m1 m2 : List Rq} {q : Q4} {X BX : Res} {K : Nat} {k N : Int} {C : Option Addr} {m cc : Nat} {r : List V}
theorem split_at {α : Type} (l : List α) (N : Int) : (N < 0 ∨ (l.length : Int) ≤ N) ∨ ∃ l1 p l2, l = l1 ++ p :: l2 ∧ N = (l1.length : Int) := by
  by_cases h : N < 0 ∨ (l.length : Int) ≤ N
  · exact .inl h
  · have hl : N.toNat < l.length := by omega
    refine .inr ⟨l.take N.toNat, l[N.toNat], l.drop (N.toNat + 1), ?_, by rw [List.length_take]; omega⟩
    rw [← List.drop_eq_getElem_cons hl, List.take_append_drop]
theorem writer_any (gB : Good BX) (g : Good X) (hK : K ≤ 1000) (HR : ∀ W, Below w0.heap.size w0 W → RdV W C m r) (S : SO K d ws rs) (V : In w0 w (BS w0 bq bd bl bx bm R F G d h ws rs q BX X)) :
    Calls Tryz.prog 60 #[qp bq, oV k N C m cc] w (DoP w0 bq bd bl bx bm R F G (K + 1) BX X) := by
  rcases split_at ws N with h0 | ⟨l1, p, l2, rfl, rfl⟩
  · exact writer_out gB g S V h0
  · exact writer_in gB g hK HR S V
theorem reader_any (gB : Good BX) (g : Good X) (hK : K ≤ 1000) (S : SO K d ws rs) (V : In w0 w (BS w0 bq bd bl bx bm R F G d h ws rs q BX X)) :
    Calls Tryz.prog 59 #[qp bq, oV k N C m cc] w (DoP w0 bq bd bl bx bm R F G (K + 1) BX X) := by
  rcases split_at rs N with h0 | ⟨l1, p, l2, rfl, rfl⟩
  · exact reader_out gB g S V h0
  · exact reader_in gB g hK S V
theorem do_any (gB : Good BX) (g : Good X) (hK : K ≤ 1000) (HR : ∀ W, Below w0.heap.size w0 W → RdV W C m r) (hw : (Lit.int .i64 N).wf = true) (S : SO K d ws rs) (V : In w0 w (BS w0 bq bd bl bx bm R F G d h ws rs q BX X)) :
    Calls Tryz.prog 22 #[qp bq, oV k N C m cc] w (DoP w0 bq bd bl bx bm R F G (K + 1) BX X) := by
  by_cases k1 : k = 1
  · subst k1
    by_cases hE : wrE G d h = 0
    · exact do_wr_yes gB g hK S hE V
    · exact do_wr_no gB g hK S hE V
  by_cases k5 : k = 5
  · subst k5
    by_cases hE : rrE G d h N = 0
    · exact do_rr_yes gB g hK S hw hE V
    · exact do_rr_no gB g S hw hE V
  have V1 := B_push gB g V (oObj k N C m cc)
  have gB1 : Good (star (blkR w.heap.size (oObj k N C m cc)) BX) := star_good (blkR_good _ _) gB
  obtain ⟨b0, b1, b2⟩ := B_box V1
  have g1 : (k == 1) = false := by simpa using k1
  have g5 : (k == 5) = false := by simpa using k5
  have CR := Lib.hid ((reader_any (k := k) (N := N) (C := C) (m := m) (cc := cc) gB1 g hK S V1).mono fun (e : Ending) (w' : World) hh => show e = .returned (.bool true) ∧ DoP w0 bq bd bl bx bm R F G (K + 1) BX X (.returned (.bool true)) w' from ⟨hh.1, by have := dop_pop hh; rw [hh.1] at this; exact this⟩)
  have CW := Lib.hid ((writer_any (k := k) (N := N) (C := C) (m := m) (cc := cc) gB1 g hK HR S V1).mono fun (e : Ending) (w' : World) hh => show e = .returned (.bool true) ∧ DoP w0 bq bd bl bx bm R F G (K + 1) BX X (.returned (.bool true)) w' from ⟨hh.1, by have := dop_pop hh; rw [hh.1] at this; exact this⟩)
  clear V V1 S gB gB1 HR hw
  by_cases k6 : k = 6
  · subst k6
    clear CW k1 k5 g1 g5
    go_enter Tryz.func22, Tryz.ntmps22
    go_wp2_with (go_at_call 59; (with_reducible refine CR.out.mono ?_); rintro e w2 ⟨rfl, V⟩; have V2 := Lib.hid V; clear V)
    go_ret
    exact V2.out
  by_cases k7 : k = 7
  · subst k7
    clear CW k1 k5 g1 g5 k6
    go_enter Tryz.func22, Tryz.ntmps22
    go_wp2_with (go_at_call 59; (with_reducible refine CR.out.mono ?_); rintro e w2 ⟨rfl, V⟩; have V2 := Lib.hid V; clear V)
    go_ret
    exact V2.out
  have g6 : (k == 6) = false := by simpa using k6
  have g7 : (k == 7) = false := by simpa using k7
  clear CR
  go_enter Tryz.func22, Tryz.ntmps22
  go_wp2_with (go_at_call 60; (with_reducible refine CW.out.mono ?_); rintro e w2 ⟨rfl, V⟩; have V2 := Lib.hid V; clear V)
  go_ret
  exact V2.out
end
end Go.Proofs.YtkbapoeilcapfaaGreat

/- SpillDoes: what is asked behind each call. -/
namespace Go.Proofs.YtkbapoeilcapfaaGreat
open Go.RowKit Go.Maps
set_option linter.unusedVariables false
set_option linter.unusedSimpArgs false
set_option maxRecDepth 6000

section
variable {w0 w W : World} {bd bl bx bm bq bp : Nat} {R : Int} {F : List Int} {G : Int} {d : Ds} {h : Int} {ws : List Wq} {rs : List Rq} {q : Q4} {K : Nat}
/-- The whole beside the place's box. -/
abbrev BP (w0 : World) (bq bp bd bl bx bm : Nat) (R : Int) (F : List Int) (G : Int) (d : Ds) (h : Int) (ws : List Wq) (rs : List Rq) (q : Q4) : Res := BS w0 bq bd bl bx bm R F G d h ws rs q (blkR bp (pbox bd bl)) emp
theorem BP_good : Good (BP w0 bq bp bd bl bx bm R F G d h ws rs q) := BS_good (blkR_good _ _) emp_good
abbrev Cst (W : World) (bp bd bl : Nat) : Prop := W.cell? ⟨bp, 0, none⟩ = some (dp bd) ∧ W.cell? ⟨bp, 1, none⟩ = some (lp bl) ∧ W.cell? ⟨bp, 2, none⟩ = some (.int .i64 0)
abbrev Dyn (W : World) (bx : Nat) (LA : Option Addr) (n c : Nat) (d : Ds) : Prop := W.cell? ⟨bx, 2, none⟩ = some (.slice LA n c) ∧ W.cell? ⟨bx, 5, none⟩ = some (.int .i64 d.reads) ∧ W.cell? ⟨bx, 6, none⟩ = some (.int .i64 d.writes) ∧ W.cell? ⟨bx, 7, none⟩ = some (.int .i64 d.used) ∧ W.cell? ⟨bx, 8, none⟩ = some (.int .i64 d.peak)
theorem BP_cst (V : In w0 W (BP w0 bq bp bd bl bx bm R F G d h ws rs q)) : Cst W bp bd bl := by
  have hb := V.right.left.get fun S h => h.1
  exact ⟨cell_of_blk hb 0, cell_of_blk hb 1, cell_of_blk hb 2⟩
theorem BP_dyn (V : In w0 W (BP w0 bq bp bd bl bx bm R F G d h ws rs q)) : ∃ LA c, ∀ W', Below W.heap.size W W' → Cst W' bp bd bl ∧ Dyn W' bx LA d.fs.length c d := by
  obtain ⟨FV, LV, P, Hd, hR⟩ : ∃ FV LV P Hd, Rsk W bx FV LV P Hd R F d := (PX_disk V.right.right).left.get fun S ⟨FV, LV, P, Hd, h, _⟩ => ⟨FV, LV, P, Hd, h⟩
  obtain ⟨LA, c, rfl⟩ := own_slice hR.lst
  obtain ⟨_, _, c2, _, _, c5, c6, c7, c8, hb⟩ := hR.cells
  refine ⟨LA, c, fun W' b => ⟨BP_cst (V.below BP_good b), ?_, ?_, ?_, ?_, ?_⟩⟩
  · exact (b.cell (p := ⟨bx, 2, none⟩) hb).trans c2
  · exact (b.cell (p := ⟨bx, 5, none⟩) hb).trans c5
  · exact (b.cell (p := ⟨bx, 6, none⟩) hb).trans c6
  · exact (b.cell (p := ⟨bx, 7, none⟩) hb).trans c7
  · exact (b.cell (p := ⟨bx, 8, none⟩) hb).trans c8
abbrev TB (w0 : World) (bq bp bd bl bx bm : Nat) (R : Int) (F : List Int) (G : Int) (d : Ds) (h : Int) (ws : List Wq) (rs : List Rq) (q : Q4) : Res := star (blkR bp (pbox bd bl)) (star (PX bx bm R F G d h) (star (each (WP w0 bd bl bx bm) ws) (star (each (RP bd bl bx bm) rs) (TT bq bd bl bx bm q ws rs emp))))
theorem TB_good : Good (TB w0 bq bp bd bl bx bm R F G d h ws rs q) := star_good (blkR_good _ _) (star_good (PX_good _ _ _ _ _ _ _) (star_good (each_good (WP_good _ _ _ _ _) _) (star_good (each_good (RP_good _ _ _ _) _) (TT_good emp_good))))
theorem h_left (V : In w0 W (BP w0 bq bp bd bl bx bm R F G d h ws rs q)) : Calls Tryz.prog 23 #[pv bd bl] W fun e w' => e = .returned (.int .i64 (G - h)) ∧ Below W.heap.size W w' :=
  (s_left TB_good V).mono fun e w' hh => ⟨hh.1, hh.2.1⟩
theorem h_xleft (V : In w0 W (BP w0 bq bp bd bl bx bm R F G d h ws rs q)) : Calls Tryz.prog 24 #[dp bm, .int .i64 0] W fun e w' => e = .returned (.int .i64 (G - h)) ∧ Below W.heap.size W w' := by
  have V1 := (PX_disk V.right.right).swap
  obtain ⟨k, g, pk, k2, H1⟩ := Lo_open V1
  have C := Lo_cells H1
  exact (lx_left k C).mono fun e w' ⟨h1, n, hw⟩ => ⟨h1, by rw [hw]; exact ⟨rfl, rfl, rfl, Nat.le_refl _, fun _ _ => rfl⟩⟩
theorem h_meter (V : In w0 W (BP w0 bq bp bd bl bx bm R F G d h ws rs q)) : Calls Tryz.prog 25 #[dp bd] W fun e w' => e = .returned (mtr d) ∧ Below W.heap.size W w' :=
  (PL_disk V).left.get fun S h1 => d_meter h1
theorem h_files (V : In w0 W (BP w0 bq bp bd bl bx bm R F G d h ws rs q)) : Calls Tryz.prog 26 #[dp bd] W fun e w' => ∃ A c, e = .returned (.slice A d.fs.length c) ∧ Below W.heap.size W w' :=
  (PL_disk V).left.get fun S h1 => (d_files h1 (PL_ok V).1.dok).mono fun e w' ⟨A, c, h1, h2, h3⟩ => ⟨A, c, h1, h3⟩
/-- All that is asked behind a call, of any world above. -/
structure Ask (W : World) (bp bd bl bx bm : Nat) (LA : Option Addr) (n c : Nat) (d : Ds) (H : Int) : Prop where
  at_ : ∀ W', Below W.heap.size W W' → Cst W' bp bd bl ∧ Dyn W' bx LA n c d
  left : ∀ W', Below W.heap.size W W' → Calls Tryz.prog 23 #[pv bd bl] W' fun e w' => e = .returned (.int .i64 H) ∧ Below W.heap.size W w'
  xleft : ∀ W', Below W.heap.size W W' → Calls Tryz.prog 24 #[dp bm, .int .i64 0] W' fun e w' => e = .returned (.int .i64 H) ∧ Below W.heap.size W w'
  meter : ∀ W', Below W.heap.size W W' → Calls Tryz.prog 25 #[dp bd] W' fun e w' => e = .returned (mtr d) ∧ Below W.heap.size W w'
  files : ∀ W', Below W.heap.size W W' → Calls Tryz.prog 26 #[dp bd] W' fun e w' => ∃ A c, e = .returned (.slice A n c) ∧ Below W.heap.size W w'
theorem asks (V : In w0 W (BP w0 bq bp bd bl bx bm R F G d h ws rs q)) : ∃ LA c, Ask W bp bd bl bx bm LA d.fs.length c d (G - h) := by
  obtain ⟨LA, c, hd⟩ := BP_dyn V
  refine ⟨LA, c, hd, fun W' b => ?_, fun W' b => ?_, fun W' b => ?_, fun W' b => ?_⟩
  · exact (h_left (V.below BP_good b)).mono fun e w' hh => ⟨hh.1, b.trans (hh.2.mono b.size)⟩
  · exact (h_xleft (V.below BP_good b)).mono fun e w' hh => ⟨hh.1, b.trans (hh.2.mono b.size)⟩
  · exact (h_meter (V.below BP_good b)).mono fun e w' hh => ⟨hh.1, b.trans (hh.2.mono b.size)⟩
  · exact (h_files (V.below BP_good b)).mono fun e w' ⟨A, c, h1, h2⟩ => ⟨A, c, h1, b.trans (h2.mono b.size)⟩
end
end Go.Proofs.YtkbapoeilcapfaaGreat

/- What comes in to SpillDoes (printed by mkDoI.py from d/DO). -/
namespace Go.Proofs.YtkbapoeilcapfaaGreat
open Go.RowKit Go.ChangeShapes Go.WideShapes Go.Deep
set_option linter.unusedVariables false
set_option linter.unusedSimpArgs false

structure Op3 where
  k : Int
  f : Int
  A : Option Addr
  n : Nat
  c : Nat
  r : List V
structure Op3.wf (w : World) (x : Op3) : Prop where
  k : (Lit.int .i64 x.k).wf = true
  f : (Lit.int .i64 x.f).wf = true
  rd : RdV w x.A x.n x.r
section
variable {H : Type} {enc : TypeId × Value → H} {W : World} {base : Nat} {spare : Nat → Bool} {held : Bool}
theorem len3o {α : Type} : ∀ {cs : List α}, cs.length = 3 → ∃ a b c, cs = [a, b, c]
  | [a, b, c], _ => ⟨a, b, c, rfl⟩
theorem trip {t : TypeId} (f0 f1 f2 : Field) (hu : Tryz.prog.underlying t = some (.struct #[f0, f1, f2])) (hone : oneCellFields Tryz.prog #[f0, f1, f2] = true) (h0 : Tryz.prog.underlying f0.type = some (.int .i64)) (h1 : Tryz.prog.underlying f1.type = some (.int .i64)) (h2 : f2.type = 25) (hC : Tryz.prog.cellsOf t = 3) {n : Nat} {cs : List Value} {y : DataW H × List MemPlace}
    (h : DataW.trod enc Tryz.prog W base spare held n t cs = some y) : ∃ x : Op3, cs = [.int .i64 x.k, .int .i64 x.f, .slice x.A x.n x.c] ∧ x.wf W := by
  obtain ⟨ys, m, _, _, hlen, hyl, hf⟩ := DataW.trod_struct hu h
  obtain ⟨o0, k0⟩ := hone_of hone 0 f0 rfl
  obtain ⟨o1, k1⟩ := hone_of hone 1 f1 rfl
  obtain ⟨o2, k2⟩ := hone_of hone 2 f2 rfl
  obtain ⟨c0, c1, c2, rfl⟩ := len3o (hlen.trans hC)
  obtain ⟨y0, y1, y2, rfl⟩ := len3o hyl
  have e0 := hf 0 f0 rfl
  have e1 := hf 1 f1 rfl
  have e2 := hf 2 f2 rfl
  rw [o0, k0] at e0
  rw [o1, k1] at e1
  rw [o2, k2] at e2
  obtain ⟨a, ea, _, wa⟩ := DataW.trod_int h0 (by simpa using e0)
  obtain ⟨b, eb, _, wb⟩ := DataW.trod_int h1 (by simpa using e1)
  rw [h2] at e2
  obtain ⟨A, l, cp, r, es, hr⟩ := rd_row (by simpa using e2)
  simp at ea eb es
  exact ⟨⟨a, b, A, l, cp, r⟩, by rw [ea, eb, es], wa, wb, hr⟩
theorem op3_cells {n : Nat} {cs : List Value} {y : DataW H × List MemPlace} (h : DataW.trod enc Tryz.prog W base spare held n 52 cs = some y) : ∃ x : Op3, cs = [.int .i64 x.k, .int .i64 x.f, .slice x.A x.n x.c] ∧ x.wf W :=
  trip _ _ _ Tryz.underlying52 (by kernel_rfl) Tryz.underlying3 Tryz.underlying3 rfl (by kernel_rfl) h
/-- Many of them, read. -/
def RdO3 (w : World) (A : Option Addr) (n : Nat) (xs : List Op3) : Prop :=
  xs.length = n ∧ n ≤ 9223372036854775807 ∧ (∀ x ∈ xs, x.wf w) ∧ (0 < n → ∃ ad, A = some ad ∧ ad.block < w.heap.size ∧ ∀ i x, xs[i]? = some x → w.cell? (ad.add (i * 3)) = some (.int .i64 x.k) ∧ w.cell? ((ad.add (i * 3)).add 1) = some (.int .i64 x.f) ∧ w.cell? ((ad.add (i * 3)).add 2) = some (.slice x.A x.n x.c))
theorem Op3.wf0 (w : World) : Op3.wf w ⟨0, 0, none, 0, 0, []⟩ := ⟨by decide, by decide, RdV.nil w⟩
theorem open_S19Op {A : Option Addr} {len cap : Nat} {d : DataW H} {ps : List MemPlace} (h : DataW.Trod enc Tryz.prog W base spare held 50 (.slice A len cap) d ps) : ∃ xs : List Op3, RdO3 W A len xs := by
  obtain ⟨fuel, hf⟩ := h
  rcases open_slice Tryz.underlying50 hf with ⟨hcs, _⟩ | ⟨a, l, c, m, n, D, Pl, hcs, hb, hl, hm, hmm, hx, hi⟩
  · obtain ⟨rfl, rfl, rfl⟩ := slc_in hcs
    exact ⟨[], rfl, by omega, by simp, fun h => absurd h (by omega)⟩
  · obtain ⟨rfl, rfl, rfl⟩ := slc_in hcs
    have hC : Tryz.prog.cellsOf 52 = 3 := by kernel_rfl
    have hlm : len ≤ m := by rw [hmm]; split <;> omega
    have hex : ∀ i, ∃ x : Op3, x.wf W ∧ (i < len → W.cell? (a.add (i * 3)) = some (.int .i64 x.k) ∧ W.cell? ((a.add (i * 3)).add 1) = some (.int .i64 x.f) ∧ W.cell? ((a.add (i * 3)).add 2) = some (.slice x.A x.n x.c)) := fun i => by
      by_cases hil : i < len
      · obtain ⟨cs', hc, ht'⟩ := hi i (by omega)
        rw [hC] at hc
        obtain ⟨x, rfl, hw⟩ := op3_cells ht'
        obtain ⟨_, _, hat⟩ := World.cells?_some hc
        have h0 := hat 0 (by omega)
        have h1 := hat 1 (by omega)
        have h2 := hat 2 (by omega)
        refine ⟨x, hw, fun _ => ⟨?_, h1, h2⟩⟩
        simpa [Addr.add] using h0
      · exact ⟨_, Op3.wf0 W, fun h => absurd h hil⟩
    obtain ⟨f, hf2⟩ := Classical.axiomOfChoice hex
    refine ⟨(List.range len).map f, by simp, by simp only [maxLen] at hm; omega, ?_, fun hn => ⟨a, rfl, ?_, fun i x hx => ?_⟩⟩
    · intro x hx
      obtain ⟨i, _, rfl⟩ := List.mem_map.1 hx
      exact (hf2 i).1
    · have := World.block_lt_of_cell? W _ ((hf2 0).2 hn).1
      rwa [add_blk] at this
    · rw [List.getElem?_map] at hx
      by_cases hil : i < len
      · rw [List.getElem?_range hil] at hx
        obtain rfl : f i = x := by simpa using hx
        exact (hf2 i).2 hil
      · rw [List.getElem?_eq_none (by simpa using hil)] at hx
        cases hx
end
theorem Op3.wf.below {w w' : World} {x : Op3} (h : x.wf w) (hb : Below w.heap.size w w') : x.wf w' := ⟨h.k, h.f, h.rd.below hb⟩
theorem RdO3.below {w w' : World} {A : Option Addr} {n : Nat} {xs : List Op3} (h : RdO3 w A n xs) (hb : Below w.heap.size w w') : RdO3 w' A n xs := by
  refine ⟨h.1, h.2.1, fun x hx => (h.2.2.1 x hx).below hb, fun hn => ?_⟩
  obtain ⟨ad, e, hlt, hc⟩ := h.2.2.2 hn
  refine ⟨ad, e, Nat.lt_of_lt_of_le hlt hb.size, fun i x hx => ?_⟩
  obtain ⟨h0, h1, h2⟩ := hc i x hx
  exact ⟨(hb.cell (by rw [add_blk]; exact hlt)).trans h0, (hb.cell (by rw [add_blk, add_blk]; exact hlt)).trans h1, (hb.cell (by rw [add_blk, add_blk]; exact hlt)).trans h2⟩
theorem RdO3.at_ {w : World} {A : Option Addr} {n : Nat} {xs : List Op3} (h : RdO3 w A n xs) {k : Nat} (hk : k < n) : ∃ (ad : Addr) (x : Op3), xs[k]? = some x ∧ A = some ad ∧ ad.block < w.heap.size ∧ x.wf w ∧ w.cell? (ad.add (k * 3)) = some (.int .i64 x.k) ∧ w.cell? ((ad.add (k * 3)).add 1) = some (.int .i64 x.f) ∧ w.cell? ((ad.add (k * 3)).add 2) = some (.slice x.A x.n x.c) := by
  obtain ⟨ad, e, hlt, hc⟩ := h.2.2.2 (by omega)
  have hl : k < xs.length := by have := h.1; omega
  have := hc k _ (List.getElem?_eq_getElem hl)
  exact ⟨ad, _, List.getElem?_eq_getElem hl, e, hlt, h.2.2.1 _ (List.getElem_mem hl), this⟩
end Go.Proofs.YtkbapoeilcapfaaGreat

/- SpillDoes: the walk. -/
namespace Go.Proofs.YtkbapoeilcapfaaGreat
open Go.RowKit Go.Maps
set_option linter.unusedVariables false
set_option linter.unusedSimpArgs false
set_option maxRecDepth 6000

theorem does_big {w : World} {R G : Int} {A B : Option Addr} {k c n cB : Nat} (h : 100 < k ∨ 120 < n) (hk : k ≤ 9223372036854775807) (hn : n ≤ 9223372036854775807) :
    Calls Tryz.prog 4 #[.int .i64 R, .slice A k c, .int .i64 G, .slice B n cB] w fun e w' => e = .returned (.bool true) ∧ Below w.heap.size w w' := by
  by_cases h1 : 100 < k
  · clear h
    go_enter Tryz.func4, Tryz.ntmps4
    go_wp2_with (go_at_call 9; refine (slives _).mono ?_; rintro e w1 ⟨rfl, b⟩)
    go_ret
    exact ⟨by trivial, b⟩
  · have h2 : 120 < n := by omega
    clear h
    go_enter Tryz.func4, Tryz.ntmps4
    go_wp2_with (go_at_call 9; refine (slives _).mono ?_; rintro e w1 ⟨rfl, b⟩)
    go_ret
    exact ⟨by trivial, b⟩
section
variable {w W : World} {R G : Int} {F : List Int} {A B : Option Addr} {k n c cB bd bl bx bm bp bq : Nat} {hds : List Value} {rows : List (List V)} {d : Ds}
theorem D_lx (C : KC w R G F A k B n hds rows) (V : In w W (star (XR bx R F Ds.new) (star (PL bd bl R F G Ds.new 0) (K1 bp bd bl)))) :
    Calls Tryz.prog 12 #[.int .i64 G] W fun e w' => ∃ bm, e = .returned (dp bm) ∧ In w w' (star (PL bd bl R F G Ds.new 0) (star (PX bx bm R F G Ds.new 0) (K1 bp bd bl))) := by
  refine (lx_new_yes (star_good (XR_good _ _ _ _) (star_good (PL_good _ _ _ _ _ _ _) (K1_good _ _ _))) V C.g.1 C.g.2).mono fun e w' hh => ?_
  obtain ⟨bm, h1, h2⟩ := hh
  have K : SOk R Ds.new ∧ F.length ≤ 9223372036854775807 := ⟨SOk.new C.r.1 C.r.2, by have := C.hr.1; have := C.hk; omega⟩
  exact ⟨bm, h1, (PX_disk' K h2.swap).swap⟩
abbrev q00 : Q4 := ⟨none, 0, none, 0, none, 0, none, 0⟩
theorem D_start (V : In w W (star (PL bd bl R F G Ds.new 0) (star (PX bx bm R F G Ds.new 0) (K1 bp bd bl)))) : In w (W.alloc (plObj bd bl bx bm q00 0 0)) (BP w W.heap.size bp bd bl bx bm R F G Ds.new 0 [] [] q00) := by
  have V1 := V.blk (star_good (PL_good _ _ _ _ _ _ _) (star_good (PX_good _ _ _ _ _ _ _) (K1_good _ _ _))) (plObj bd bl bx bm q00 0 0)
  have V2 : In w (W.alloc (plObj bd bl bx bm q00 0 0)) (star (PL bd bl R F G Ds.new 0) (star (blkR bp (pbox bd bl)) (star (PX bx bm R F G Ds.new 0) (star (blkR W.heap.size (plObj bd bl bx bm q00 0 0)) emp)))) := V1.ac (by dsimp only [K1]; ac_rfl)
  exact V2.imp fun S h => star_mono h (fun _ => id) (fun _ h => star_mono h (fun _ => id) (fun _ h => star_mono h (fun _ => id) (fun _ h => star_comm (star_emp (star_comm (star_emp (star_mono h (fun _ => id) (fun _ h => nil_in (nil_in (nil_in (nil_in h)))))))))))
end
/-- A state of the law's loop. -/
structure DSt (w wr : World) (bq bp bd bl bx bm : Nat) (R : Int) (F : List Int) (G : Int) (K : Nat) : Prop where
  ex : ∃ d h ws rs q, SO K d ws rs ∧ In w wr (BP w bq bp bd bl bx bm R F G d h ws rs q)
theorem wpAnyH_switch {P : Program} {md : Region.Mode} {ops : Array Oper} {Q : Exit → Act → World → Prop} {S S2 : World → Prop} (h : ∀ w, S2 w → S w) : ∀ (fuel : Nat) (listed : Array Bool) (a : Act) (w : World), wpAnyH P md ops Q S2 fuel listed a w → wpAnyH P md ops Q S fuel listed a w
  | 0, _, _, _, H => H
  | fuel + 1, _, _, _, H => ⟨H.1, fun i hi => wpOp_mono (fun a' w' h' => ⟨h _ h'.1, wpAnyH_switch h fuel _ a' w' h'.2⟩) (H.2 i hi)⟩
section
variable {w0 w W w' : World} {R G : Int} {F : List Int} {bd bl bx bm bp bq K : Nat}
theorem DSt.bel (D : DSt w0 W bq bp bd bl bx bm R F G K) : Below w0.heap.size w0 W := by
  obtain ⟨d, h, ws, rs, q, S, V⟩ := D.ex
  exact V.bel
theorem DSt.pc (D : DSt w0 W bq bp bd bl bx bm R F G K) : Cst W bp bd bl := by
  obtain ⟨d, h, ws, rs, q, S, V⟩ := D.ex
  exact BP_cst V
theorem DSt.below (D : DSt w0 W bq bp bd bl bx bm R F G K) (b : Below W.heap.size W w') : DSt w0 w' bq bp bd bl bx bm R F G K := by
  obtain ⟨d, h, ws, rs, q, S, V⟩ := D.ex
  exact ⟨d, h, ws, rs, q, S, V.below BP_good b⟩
theorem DSt.call {k N : Int} {C : Option Addr} {m cc : Nat} {r : List V} (hK : K ≤ 1000) (HR : ∀ W, Below w0.heap.size w0 W → RdV W C m r) (hw : (Lit.int .i64 N).wf = true) (D : DSt w0 W bq bp bd bl bx bm R F G K) :
    Calls Tryz.prog 22 #[qp bq, oV k N C m cc] W.drew fun e w' => e = .returned (.bool true) ∧ ∃ LA Lc nf dd H, Ask w' bp bd bl bx bm LA nf Lc dd H ∧ DSt w0 w' bq bp bd bl bx bm R F G (K + 1) ∧ Below w0.heap.size w0 w' := by
  obtain ⟨d, h, ws, rs, q, S, V⟩ := D.ex
  refine (do_any (k := k) (cc := cc) (blkR_good _ _) emp_good hK HR hw S (in_drew BP_good V)).mono fun e w' hh => ?_
  obtain ⟨h1, d', h', ws', rs', q', S', V'⟩ := hh
  obtain ⟨LA, Lc, A⟩ := asks V'
  exact ⟨h1, LA, Lc, _, _, _, A, ⟨d', h', ws', rs', q', S', V'⟩, V'.bel⟩
end
set_option maxHeartbeats 8000000 in
theorem does_small {w : World} {R G : Int} {F : List Int} {A B : Option Addr} {k c n cB : Nat} {xs : List Op3} (hr : RdI w A k F) (hl : RdO3 w B n xs) (hk : k ≤ 100) (hn : n ≤ 120) :
    Calls Tryz.prog 4 #[.int .i64 R, .slice A k c, .int .i64 G, .slice B n cB] w fun e w' => e = .returned (.bool true) ∧ Below w.heap.size w w' := by
  have hn1 : ¬ 120 < n := by omega
  have hk1 : ¬ 100 < k := by omega
  have HR := Lib.hid hr
  have HL := Lib.hid hl
  clear hr hl
  go_enter Tryz.func4, Tryz.ntmps4
  go_wp2
  go_loopw [9] (fun i wr => ∃ j : Nat, j ≤ n ∧ i = .int .i64 (j : Int) ∧ wr = w) (fun i _ => n - (intOf i).toNat)
  case atStart => exact ⟨0, by omega, rfl, rfl⟩
  case round =>
    obtain ⟨j, hj, rfl, hw⟩ := hrel
    obtain rfl := hw.symm
    clear hw
    by_cases hlt : j < n
    · obtain ⟨ad, x, hx, rfl, hb, hwf, hc0, hc1, hc2⟩ := HL.out.at_ hlt
      have hm := hwf.rd.max
      obtain ⟨xk, xf, xA, xm, xc, xr⟩ := x
      dsimp only at hc0 hc1 hc2 hm
      replace hc2 : w.cell? ⟨(ad.add (j * 3)).block, (ad.add (j * 3)).off + 2, none⟩ = some (.slice xA xm xc) := hc2
      clear hwf hx hb hc0 hc1
      by_cases hm1 : 100 < xm
      · go_wp2_with (go_at_call 9; refine (slives _).mono ?_; rintro e w1 ⟨rfl, b⟩)
        go_ret
        exact ⟨by trivial, b⟩
      · go_wp2
        go_roundw
        case measure => simp [intOf]; omega
        case rel => exact ⟨j + 1, by omega, by go_num, by first | rfl | trivial⟩
    · obtain rfl : n = j := by omega
      by_cases hgood : (0 ≤ R ∧ R ≤ 16384) ∧ (0 ≤ G ∧ G ≤ 16384)
      · have C : KC w R G F A k none 0 [] [] := ⟨HR.out, ⟨⟨rfl, by omega, fun h => absurd h (by omega)⟩, rfl, fun i r hr => by simp at hr⟩, hgood.1, hgood.2, hk, by omega⟩
        have CM := Lib.hid (K_make (c := c) C)
        have CX := Lib.hid (fun W bp bd bl (V : In w W (star (PL bd bl R F G Ds.new 0) (K1 bp bd bl))) => K_xd (c := c) C V)
        have CL := Lib.hid (fun W bp bd bl bx V => D_lx (W := W) (bp := bp) (bd := bd) (bl := bl) (bx := bx) C V)
        have CV := Lib.hid (fun W bp bd bl bx bm (V : In w W (star (PL bd bl R F G Ds.new 0) (star (PX bx bm R F G Ds.new 0) (K1 bp bd bl)))) => (slives W).mono fun (e : Ending) (w' : World) hh => show e = Ending.returned (.bool true) ∧ PB bp bd bl w' ∧ In w w' (star (PL bd bl R F G Ds.new 0) (star (PX bx bm R F G Ds.new 0) (K1 bp bd bl))) from by
          have V2 := V.below (star_good (PL_good _ _ _ _ _ _ _) (star_good (PX_good _ _ _ _ _ _ _) (K1_good _ _ _))) hh.2
          exact ⟨hh.1, K1_cells V2.right, V2⟩)
        clear hgood C HR
        go_wp2_with (first
          | (go_at_call 10; (with_reducible refine CM.out.mono ?_); rintro e w1 ⟨bd, bl, rfl, V⟩; have V1 := Lib.hid V; clear V CM)
          | (go_at_call 11; (with_reducible refine (CX.out _ _ _ _ V1.out).mono ?_); rintro e w3 ⟨bx, rfl, V⟩; have V3 := Lib.hid V; clear V V1 CX)
          | (go_at_call 12; (with_reducible refine (CL.out _ _ _ _ _ V3.out).mono ?_); rintro e w4 ⟨bm, rfl, V⟩; have V4 := Lib.hid V; clear V V3 CL)
          | (go_at_call 9; (with_reducible refine (CV.out _ _ _ _ _ _ V4.out).mono ?_); rintro e w2 ⟨rfl, ⟨k0, k1, k2⟩, V⟩; have V2 := Lib.hid V; clear V V4 CV))
        obtain ⟨VS0, K0⟩ : DSt w (w2.alloc (plObj bd bl bx bm q00 0 0)) w2.heap.size w1.heap.size bd bl bx bm R F G 0 ∧ True := ⟨⟨_, _, _, _, _, ⟨⟨by decide, by decide⟩, by simp, by simp, by simp, by simp⟩, D_start V2.out⟩, trivial⟩
        have VS := Lib.hid VS0
        clear VS0 K0 V2
        have k0' := VS.out.pc
        obtain ⟨z0, z1, z2⟩ := k0'
        obtain ⟨bq, hbq⟩ : ∃ bq, bq = w2.heap.size := ⟨_, rfl⟩
        obtain ⟨bp, hbp⟩ : ∃ bp, bp = w1.heap.size := ⟨_, rfl⟩
        rw [← hbq, ← hbp] at VS
        simp only [← hbq, ← hbp]
        clear hbq hbp z0 z1 z2 k0 k1 k2
        go_loopw [15] (fun v wr => ∃ i : Nat, i ≤ n ∧ v = .int .i64 (i : Int) ∧ Hid (DSt w wr bq bp bd bl bx bm R F G i)) (fun v _ => n - (intOf v).toNat)
        case atStart => exact ⟨0, by omega, rfl, VS⟩
        case round =>
          clear VS
          obtain ⟨i, hi, rfl, HS⟩ := hrel
          by_cases hlt : i < n
          · obtain ⟨ad, x, hx, rfl, hb, hwf, hc0, hc1, hc2⟩ := HL.out.at_ hlt
            have HR9 : ∀ W, Below w.heap.size w W → RdV W x.A x.n x.r := fun W b => hwf.rd.below b
            have CD := Lib.hid (DSt.call (by omega) HR9 hwf.f (k := x.k) (cc := x.c) HS.out)
            have HB := Lib.hid (show (ad.add (i * 3)).block < w.heap.size by rw [add_block]; exact hb)
            have BW := HS.out.bel
            have hBx := HL.out.2.1
            obtain ⟨xk, xf, xA, xm, xc, xr⟩ := x
            dsimp only at hc0 hc1 hc2 CD
            have L0 := Lib.hid hc0
            have L1 := Lib.hid (show w.cell? ⟨(ad.add (i * 3)).block, (ad.add (i * 3)).off + 1, none⟩ = some (.int .i64 xf) from hc1)
            have L2 := Lib.hid (show w.cell? ⟨(ad.add (i * 3)).block, (ad.add (i * 3)).off + 2, none⟩ = some (.slice xA xm xc) from hc2)
            clear hwf hx hb hc0 hc1 hc2 HR9 HS
            go_wp2
            refine wp_region_held (S := fun w' => Below w.heap.size w w') (by kernel_rfl) ?_
            change wpAnyH _ _ _ _ _ _ _ _ (World.drew _)
            have nS : (fun w' => Below w.heap.size w w') wr.drew := ⟨BW.1, BW.2, BW.3, BW.4, BW.5⟩
            refine wpAnyH_take (i := 0) (oi := { dst := some 77, op := .move (.tmp 14), type := _, pos := _, after := _, guard := none }) (v := qp bq) rfl (by kernel_rfl) (by kernel_rfl) (by kernel_rfl) (fun _ _ _ h => h) (Or.inl ⟨by rfl, ?_⟩) nS ?_
            · intro w7 hSw
              try dsimp only at hSw
              go_simp
            try simp only [Act.put, List.setIfInBounds_toArray, List.set_cons_zero, List.set_cons_succ]
            refine wpAnyH_take (i := 1) (oi := { dst := some 78, op := .move (.tmp 3), type := _, pos := _, after := _, guard := none }) (v := .slice (some ad) n cB) rfl (by kernel_rfl) (by kernel_rfl) (by kernel_rfl) (fun _ _ _ h => h) (Or.inl ⟨by rfl, ?_⟩) nS ?_
            · intro w7 hSw
              try dsimp only at hSw
              go_simp
            try simp only [Act.put, List.setIfInBounds_toArray, List.set_cons_zero, List.set_cons_succ]
            refine wpAnyH_take (i := 2) (oi := { dst := some 79, op := .move (.tmp 15), type := _, pos := _, after := _, guard := none }) (v := .int .i64 (i : Int)) rfl (by kernel_rfl) (by kernel_rfl) (by kernel_rfl) (fun _ _ _ h => h) (Or.inl ⟨by rfl, ?_⟩) nS ?_
            · intro w7 hSw
              try dsimp only at hSw
              go_simp
            try simp only [Act.put, List.setIfInBounds_toArray, List.set_cons_zero, List.set_cons_succ]
            refine wpAnyH_take (i := 3) (oi := { dst := some 80, op := .indexAddr 50 (.tmp 78) (.tmp 79), type := _, pos := _, after := _, guard := none }) (v := .pointer (some (ad.add (i * 3)))) rfl (by kernel_rfl) (by kernel_rfl) (by kernel_rfl) (fun _ _ _ h => h) (Or.inl ⟨by rfl, ?_⟩) nS ?_
            · intro w7 hSw
              try dsimp only at hSw
              go_simp
            try simp only [Act.put, List.setIfInBounds_toArray, List.set_cons_zero, List.set_cons_succ]
            refine wpAnyH_take (i := 4) (oi := { dst := some 81, op := .load 52 (.tmp 80), type := _, pos := _, after := _, guard := none }) (v := oV xk xf xA xm xc) rfl (by kernel_rfl) (by kernel_rfl) (by kernel_rfl) (fun _ _ _ h => h) (Or.inl ⟨by rfl, ?_⟩) nS ?_
            · intro w7 hSw
              try dsimp only at hSw
              have y0 := (hSw.cell (p := ad.add (i * 3)) HB.out).trans L0.out
              have y1 := (hSw.cell (p := ⟨(ad.add (i * 3)).block, (ad.add (i * 3)).off + 1, none⟩) HB.out).trans L1.out
              have y2 := (hSw.cell (p := ⟨(ad.add (i * 3)).block, (ad.add (i * 3)).off + 2, none⟩) HB.out).trans L2.out
              go_simp
            try simp only [Act.put, List.setIfInBounds_toArray, List.set_cons_zero, List.set_cons_succ]
            refine wpAnyH_all (rs := [5]) (by kernel_rfl) (by simp) (fun y hy => ?_)
            obtain rfl := List.mem_singleton.1 hy
            clear hy
            refine wpOp_step (o := { dst := some 82, op := .call { callee := .value (.func 22), args := #[.tmp 77, .tmp 81], argTypes := #[53, 52 ] }, type := _, pos := _, after := _, guard := none }) (by simp; exact ⟨rfl, rfl, rfl⟩) (fun K hK => ?_)
            go_simp
            go_at_call 22
            (with_reducible refine (CD.out).mono ?_)
            rintro e w5 ⟨rfl, LA, Lc, nf, dd, HH, AK0, DS0, b5⟩
            have AK := Lib.hid AK0
            have DS := Lib.hid DS0
            have B5 := Lib.hid b5
            clear AK0 DS0 b5 CD
            refine hK _ _ ⟨B5.out, ?_⟩
            clear hK K
            go_simp
            try simp only [Act.put, List.setIfInBounds_toArray, List.set_cons_zero, List.set_cons_succ]
            refine wpAnyH_switch (S2 := fun w' => Below w5.heap.size w5 w') (fun w' b => B5.out.trans (b.mono B5.out.size)) _ _ _ _ ?_
            have mS : (fun w' => Below w5.heap.size w5 w') w5 := Below.refl _ _
            refine wpAnyH_take (i := 6) (oi := { dst := some 83, op := .unOp .not 4 (.tmp 82), type := _, pos := _, after := _, guard := none }) (v := .bool false) rfl (by kernel_rfl) (by kernel_rfl) (by kernel_rfl) (fun _ _ _ h => h) (Or.inl ⟨by rfl, ?_⟩) mS ?_
            · intro w7 hSw
              try dsimp only at hSw
              go_simp
            try simp only [Act.put, List.setIfInBounds_toArray, List.set_cons_zero, List.set_cons_succ]
            refine wpAnyH_take (i := 7) (oi := { dst := some 84, op := .move (.tmp 83), type := _, pos := _, after := _, guard := none }) (v := .bool false) rfl (by kernel_rfl) (by kernel_rfl) (by kernel_rfl) (fun _ _ _ h => h) (Or.inl ⟨by rfl, ?_⟩) mS ?_
            · intro w7 hSw
              try dsimp only at hSw
              go_simp
            try simp only [Act.put, List.setIfInBounds_toArray, List.set_cons_zero, List.set_cons_succ]
            refine wpAnyH_take (i := 8) (oi := { dst := some 85, op := .load 29 (.tmp 10), type := _, pos := _, after := _, guard := some (7, false) }) (v := pv bd bl) rfl (by kernel_rfl) (by kernel_rfl) (by kernel_rfl) (fun _ _ _ h => h) (Or.inl ⟨by rfl, ?_⟩) mS ?_
            · intro w7 hSw
              try dsimp only at hSw
              obtain ⟨⟨p0, p1, p2⟩, x2, x5, x6, x7, x8⟩ := AK.out.at_ _ hSw
              go_simp
            try simp only [Act.put, List.setIfInBounds_toArray, List.set_cons_zero, List.set_cons_succ]
            refine wpAnyH_take (i := 10) (oi := { dst := some 87, op := .move (.tmp 13), type := _, pos := _, after := _, guard := some (7, false) }) (v := dp bm) rfl (by kernel_rfl) (by kernel_rfl) (by kernel_rfl) (fun _ _ _ h => h) (Or.inl ⟨by rfl, ?_⟩) mS ?_
            · intro w7 hSw
              try dsimp only at hSw
              go_simp
            try simp only [Act.put, List.setIfInBounds_toArray, List.set_cons_zero, List.set_cons_succ]
            refine wpAnyH_all (rs := [9]) (by kernel_rfl) (by simp) (fun y hy => ?_)
            obtain rfl := List.mem_singleton.1 hy
            clear hy
            refine wpOp_step (o := { dst := some 86, op := .call { callee := .value (.func 23), args := #[.tmp 85], argTypes := #[29 ] }, type := _, pos := _, after := _, guard := some (7, false) }) (by simp; exact ⟨rfl, rfl, rfl⟩) (fun K hK => ?_)
            go_simp
            go_at_call 23
            (with_reducible refine (AK.out.left _ mS).mono ?_)
            rintro e w6 ⟨rfl, b6⟩
            refine hK _ _ ⟨b6, ?_⟩
            clear hK K
            go_simp
            try simp only [Act.put, List.setIfInBounds_toArray, List.set_cons_zero, List.set_cons_succ]
            refine wpAnyH_all (rs := [11]) (by kernel_rfl) (by simp) (fun y hy => ?_)
            obtain rfl := List.mem_singleton.1 hy
            clear hy
            refine wpOp_step (o := { dst := some 88, op := .call { callee := .value (.func 24), args := #[.tmp 87, .const (.int .i64 0)], argTypes := #[34, 3 ] }, type := _, pos := _, after := _, guard := some (7, false) }) (by simp; exact ⟨rfl, rfl, rfl⟩) (fun K hK => ?_)
            go_simp
            go_at_call 24
            (with_reducible refine (AK.out.xleft _ b6).mono ?_)
            rintro e w8 ⟨rfl, b8⟩
            refine hK _ _ ⟨b8, ?_⟩
            clear hK K
            go_simp
            try simp only [Act.put, List.setIfInBounds_toArray, List.set_cons_zero, List.set_cons_succ]
            refine wpAnyH_take (i := 12) (oi := { dst := some 89, op := .binOp .neq 3 (.tmp 86) (.tmp 88) 3, type := _, pos := _, after := _, guard := some (7, false) }) (v := .bool false) rfl (by kernel_rfl) (by kernel_rfl) (by kernel_rfl) (fun _ _ _ h => h) (Or.inl ⟨by rfl, ?_⟩) b8 ?_
            · intro w7 hSw
              try dsimp only at hSw
              go_simp
            try simp only [Act.put, List.setIfInBounds_toArray, List.set_cons_zero, List.set_cons_succ]
            refine wpAnyH_take (i := 13) (oi := { dst := some 90, op := .pick (.tmp 84) (.const (.bool true)) (.tmp 89), type := _, pos := _, after := _, guard := none }) (v := .bool false) rfl (by kernel_rfl) (by kernel_rfl) (by kernel_rfl) (fun _ _ _ h => h) (Or.inl ⟨by rfl, ?_⟩) b8 ?_
            · intro w7 hSw
              try dsimp only at hSw
              go_simp
            try simp only [Act.put, List.setIfInBounds_toArray, List.set_cons_zero, List.set_cons_succ]
            refine wpAnyH_take (i := 14) (oi := { dst := some 91, op := .move (.tmp 90), type := _, pos := _, after := _, guard := none }) (v := .bool false) rfl (by kernel_rfl) (by kernel_rfl) (by kernel_rfl) (fun _ _ _ h => h) (Or.inl ⟨by rfl, ?_⟩) b8 ?_
            · intro w7 hSw
              try dsimp only at hSw
              go_simp
            try simp only [Act.put, List.setIfInBounds_toArray, List.set_cons_zero, List.set_cons_succ]
            refine wpAnyH_take (i := 15) (oi := { dst := some 92, op := .fieldAddr 29 (.tmp 10) 0, type := _, pos := _, after := _, guard := some (14, false) }) (v := .pointer (some ⟨bp, 0, none⟩)) rfl (by kernel_rfl) (by kernel_rfl) (by kernel_rfl) (fun _ _ _ h => h) (Or.inl ⟨by rfl, ?_⟩) b8 ?_
            · intro w7 hSw
              try dsimp only at hSw
              go_simp
            try simp only [Act.put, List.setIfInBounds_toArray, List.set_cons_zero, List.set_cons_succ]
            refine wpAnyH_take (i := 16) (oi := { dst := some 93, op := .load 26 (.tmp 92), type := _, pos := _, after := _, guard := some (14, false) }) (v := dp bd) rfl (by kernel_rfl) (by kernel_rfl) (by kernel_rfl) (fun _ _ _ h => h) (Or.inl ⟨by rfl, ?_⟩) b8 ?_
            · intro w7 hSw
              try dsimp only at hSw
              obtain ⟨⟨p0, p1, p2⟩, x2, x5, x6, x7, x8⟩ := AK.out.at_ _ hSw
              go_simp
            try simp only [Act.put, List.setIfInBounds_toArray, List.set_cons_zero, List.set_cons_succ]
            refine wpAnyH_take (i := 18) (oi := { dst := some 95, op := .move (.tmp 12), type := _, pos := _, after := _, guard := some (14, false) }) (v := dp bx) rfl (by kernel_rfl) (by kernel_rfl) (by kernel_rfl) (fun _ _ _ h => h) (Or.inl ⟨by rfl, ?_⟩) b8 ?_
            · intro w7 hSw
              try dsimp only at hSw
              go_simp
            try simp only [Act.put, List.setIfInBounds_toArray, List.set_cons_zero, List.set_cons_succ]
            refine wpAnyH_take (i := 19) (oi := { dst := some 96, op := .nilCheck (.tmp 95), type := _, pos := _, after := _, guard := some (14, false) }) (v := dp bx) rfl (by kernel_rfl) (by kernel_rfl) (by kernel_rfl) (fun _ _ _ h => h) (Or.inl ⟨by rfl, ?_⟩) b8 ?_
            · intro w7 hSw
              try dsimp only at hSw
              go_simp
            try simp only [Act.put, List.setIfInBounds_toArray, List.set_cons_zero, List.set_cons_succ]
            refine wpAnyH_take (i := 20) (oi := { dst := some 97, op := .fieldAddr 68 (.tmp 96) 5, type := _, pos := _, after := _, guard := some (14, false) }) (v := .pointer (some ⟨bx, 5, none⟩)) rfl (by kernel_rfl) (by kernel_rfl) (by kernel_rfl) (fun _ _ _ h => h) (Or.inl ⟨by rfl, ?_⟩) b8 ?_
            · intro w7 hSw
              try dsimp only at hSw
              go_simp
            try simp only [Act.put, List.setIfInBounds_toArray, List.set_cons_zero, List.set_cons_succ]
            refine wpAnyH_take (i := 21) (oi := { dst := some 98, op := .load 64 (.tmp 97), type := _, pos := _, after := _, guard := some (14, false) }) (v := mtr dd) rfl (by kernel_rfl) (by kernel_rfl) (by kernel_rfl) (fun _ _ _ h => h) (Or.inl ⟨by rfl, ?_⟩) b8 ?_
            · intro w7 hSw
              try dsimp only at hSw
              obtain ⟨⟨p0, p1, p2⟩, x2, x5, x6, x7, x8⟩ := AK.out.at_ _ hSw
              go_simp
            try simp only [Act.put, List.setIfInBounds_toArray, List.set_cons_zero, List.set_cons_succ]
            refine wpAnyH_all (rs := [17]) (by kernel_rfl) (by simp) (fun y hy => ?_)
            obtain rfl := List.mem_singleton.1 hy
            clear hy
            refine wpOp_step (o := { dst := some 94, op := .call { callee := .value (.func 25), args := #[.tmp 93], argTypes := #[26 ] }, type := _, pos := _, after := _, guard := some (14, false) }) (by simp; exact ⟨rfl, rfl, rfl⟩) (fun K hK => ?_)
            go_simp
            go_at_call 25
            (with_reducible refine (AK.out.meter _ b8).mono ?_)
            rintro e wa ⟨rfl, ba⟩
            refine hK _ _ ⟨ba, ?_⟩
            clear hK K
            go_simp
            try simp only [Act.put, List.setIfInBounds_toArray, List.set_cons_zero, List.set_cons_succ]
            refine wpAnyH_take (i := 22) (oi := { dst := some 99, op := .binOp .neq 64 (.tmp 94) (.tmp 98) 64, type := _, pos := _, after := _, guard := some (14, false) }) (v := .bool false) rfl (by kernel_rfl) (by kernel_rfl) (by kernel_rfl) (fun _ _ _ h => h) (Or.inl ⟨by rfl, ?_⟩) ba ?_
            · intro w7 hSw
              try dsimp only at hSw
              go_simp
            try simp only [Act.put, List.setIfInBounds_toArray, List.set_cons_zero, List.set_cons_succ]
            refine wpAnyH_take (i := 23) (oi := { dst := some 100, op := .pick (.tmp 91) (.const (.bool true)) (.tmp 99), type := _, pos := _, after := _, guard := none }) (v := .bool false) rfl (by kernel_rfl) (by kernel_rfl) (by kernel_rfl) (fun _ _ _ h => h) (Or.inl ⟨by rfl, ?_⟩) ba ?_
            · intro w7 hSw
              try dsimp only at hSw
              go_simp
            try simp only [Act.put, List.setIfInBounds_toArray, List.set_cons_zero, List.set_cons_succ]
            refine wpAnyH_take (i := 24) (oi := { dst := some 101, op := .move (.tmp 100), type := _, pos := _, after := _, guard := none }) (v := .bool false) rfl (by kernel_rfl) (by kernel_rfl) (by kernel_rfl) (fun _ _ _ h => h) (Or.inl ⟨by rfl, ?_⟩) ba ?_
            · intro w7 hSw
              try dsimp only at hSw
              go_simp
            try simp only [Act.put, List.setIfInBounds_toArray, List.set_cons_zero, List.set_cons_succ]
            refine wpAnyH_take (i := 25) (oi := { dst := some 102, op := .fieldAddr 29 (.tmp 10) 0, type := _, pos := _, after := _, guard := some (24, false) }) (v := .pointer (some ⟨bp, 0, none⟩)) rfl (by kernel_rfl) (by kernel_rfl) (by kernel_rfl) (fun _ _ _ h => h) (Or.inl ⟨by rfl, ?_⟩) ba ?_
            · intro w7 hSw
              try dsimp only at hSw
              go_simp
            try simp only [Act.put, List.setIfInBounds_toArray, List.set_cons_zero, List.set_cons_succ]
            refine wpAnyH_take (i := 26) (oi := { dst := some 103, op := .load 26 (.tmp 102), type := _, pos := _, after := _, guard := some (24, false) }) (v := dp bd) rfl (by kernel_rfl) (by kernel_rfl) (by kernel_rfl) (fun _ _ _ h => h) (Or.inl ⟨by rfl, ?_⟩) ba ?_
            · intro w7 hSw
              try dsimp only at hSw
              obtain ⟨⟨p0, p1, p2⟩, x2, x5, x6, x7, x8⟩ := AK.out.at_ _ hSw
              go_simp
            try simp only [Act.put, List.setIfInBounds_toArray, List.set_cons_zero, List.set_cons_succ]
            refine wpAnyH_take (i := 29) (oi := { dst := some 106, op := .move (.tmp 12), type := _, pos := _, after := _, guard := some (24, false) }) (v := dp bx) rfl (by kernel_rfl) (by kernel_rfl) (by kernel_rfl) (fun _ _ _ h => h) (Or.inl ⟨by rfl, ?_⟩) ba ?_
            · intro w7 hSw
              try dsimp only at hSw
              go_simp
            try simp only [Act.put, List.setIfInBounds_toArray, List.set_cons_zero, List.set_cons_succ]
            refine wpAnyH_take (i := 30) (oi := { dst := some 107, op := .nilCheck (.tmp 106), type := _, pos := _, after := _, guard := some (24, false) }) (v := dp bx) rfl (by kernel_rfl) (by kernel_rfl) (by kernel_rfl) (fun _ _ _ h => h) (Or.inl ⟨by rfl, ?_⟩) ba ?_
            · intro w7 hSw
              try dsimp only at hSw
              go_simp
            try simp only [Act.put, List.setIfInBounds_toArray, List.set_cons_zero, List.set_cons_succ]
            refine wpAnyH_take (i := 31) (oi := { dst := some 108, op := .fieldAddr 68 (.tmp 107) 2, type := _, pos := _, after := _, guard := some (24, false) }) (v := .pointer (some ⟨bx, 2, none⟩)) rfl (by kernel_rfl) (by kernel_rfl) (by kernel_rfl) (fun _ _ _ h => h) (Or.inl ⟨by rfl, ?_⟩) ba ?_
            · intro w7 hSw
              try dsimp only at hSw
              go_simp
            try simp only [Act.put, List.setIfInBounds_toArray, List.set_cons_zero, List.set_cons_succ]
            refine wpAnyH_take (i := 32) (oi := { dst := some 109, op := .load 66 (.tmp 108), type := _, pos := _, after := _, guard := some (24, false) }) (v := .slice LA nf Lc) rfl (by kernel_rfl) (by kernel_rfl) (by kernel_rfl) (fun _ _ _ h => h) (Or.inl ⟨by rfl, ?_⟩) ba ?_
            · intro w7 hSw
              try dsimp only at hSw
              obtain ⟨⟨p0, p1, p2⟩, x2, x5, x6, x7, x8⟩ := AK.out.at_ _ hSw
              go_simp
            try simp only [Act.put, List.setIfInBounds_toArray, List.set_cons_zero, List.set_cons_succ]
            refine wpAnyH_take (i := 33) (oi := { dst := some 110, op := .call { callee := .builtin .len, args := #[.tmp 109], argTypes := #[66 ] }, type := _, pos := _, after := _, guard := some (24, false) }) (v := .int .i64 (nf : Int)) rfl (by kernel_rfl) (by kernel_rfl) (by kernel_rfl) (fun _ _ _ h => h) (Or.inl ⟨by rfl, ?_⟩) ba ?_
            · intro w7 hSw
              try dsimp only at hSw
              go_simp
            try simp only [Act.put, List.setIfInBounds_toArray, List.set_cons_zero, List.set_cons_succ]
            refine wpAnyH_all (rs := [27]) (by kernel_rfl) (by simp) (fun y hy => ?_)
            obtain rfl := List.mem_singleton.1 hy
            clear hy
            refine wpOp_step (o := { dst := some 104, op := .call { callee := .value (.func 26), args := #[.tmp 103], argTypes := #[26 ] }, type := _, pos := _, after := _, guard := some (24, false) }) (by simp; exact ⟨rfl, rfl, rfl⟩) (fun K hK => ?_)
            go_simp
            go_at_call 26
            (with_reducible refine (AK.out.files _ ba).mono ?_)
            rintro e wb ⟨Af, cf, rfl, bb⟩
            refine hK _ _ ⟨bb, ?_⟩
            clear hK K
            go_simp
            try simp only [Act.put, List.setIfInBounds_toArray, List.set_cons_zero, List.set_cons_succ]
            refine wpAnyH_take (i := 28) (oi := { dst := some 105, op := .call { callee := .builtin .len, args := #[.tmp 104], argTypes := #[22 ] }, type := _, pos := _, after := _, guard := some (24, false) }) (v := .int .i64 (nf : Int)) rfl (by kernel_rfl) (by kernel_rfl) (by kernel_rfl) (fun _ _ _ h => h) (Or.inl ⟨by rfl, ?_⟩) bb ?_
            · intro w7 hSw
              try dsimp only at hSw
              go_simp
            try simp only [Act.put, List.setIfInBounds_toArray, List.set_cons_zero, List.set_cons_succ]
            refine wpAnyH_take (i := 34) (oi := { dst := some 111, op := .binOp .neq 3 (.tmp 105) (.tmp 110) 3, type := _, pos := _, after := _, guard := some (24, false) }) (v := .bool false) rfl (by kernel_rfl) (by kernel_rfl) (by kernel_rfl) (fun _ _ _ h => h) (Or.inl ⟨by rfl, ?_⟩) bb ?_
            · intro w7 hSw
              try dsimp only at hSw
              go_simp
            try simp only [Act.put, List.setIfInBounds_toArray, List.set_cons_zero, List.set_cons_succ]
            refine wpAnyH_take (i := 35) (oi := { dst := some 112, op := .pick (.tmp 101) (.const (.bool true)) (.tmp 111), type := _, pos := _, after := _, guard := none }) (v := .bool false) rfl (by kernel_rfl) (by kernel_rfl) (by kernel_rfl) (fun _ _ _ h => h) (Or.inl ⟨by rfl, ?_⟩) bb ?_
            · intro w7 hSw
              try dsimp only at hSw
              go_simp
            try simp only [Act.put, List.setIfInBounds_toArray, List.set_cons_zero, List.set_cons_succ]
            refine wpAnyH_done (by kernel_rfl) ?_ _
            have D9 := Lib.hid (DSt.below DS.out bb)
            clear DS bb ba b8 b6 mS AK nS
            go_wp2
            go_roundw
            case measure => simp [intOf]; omega
            case rel => exact ⟨i + 1, by omega, by go_num, D9⟩
          · obtain rfl : i = n := by omega
            have VB := Lib.hid HS.out.bel
            clear HS
            go_wp2
            go_ret
            exact ⟨by trivial, VB.out⟩
      · have CM := Lib.hid ((make_no (c := c) HR.out hgood).mono fun (e : Ending) (w' : World) ⟨p, q, h1, h2⟩ => show ∃ p q : Option Addr, e = Ending.returned (.tuple #[.agg #[.pointer p, .pointer q, .int .i64 0], .bool false]) ∧ ∀ o, Below w.heap.size w (w'.alloc o) from ⟨p, q, h1, fun o => h2.bel.alloc h2.bel.size _⟩)
        have CV := Lib.hid (fun W (b : Below w.heap.size w W) => (slives W).mono fun (e : Ending) (w' : World) hh => show e = Ending.returned (.bool true) ∧ Below w.heap.size w w' from ⟨hh.1, b.trans (hh.2.mono b.size)⟩)
        have CLg : ∀ W, Below w.heap.size w W → Calls Tryz.prog 12 #[.int .i64 G] W fun e w' => ∃ g : Option Addr, e = .returned (.pointer g) ∧ Below w.heap.size w w' ∧ (¬ (0 ≤ G ∧ G ≤ 16384) → g = none) := fun W b => by
          by_cases hG : 0 ≤ G ∧ G ≤ 16384
          · refine (lx_new_yes emp_good (In.emp W) hG.1 hG.2).mono fun e w' hh => ?_
            obtain ⟨bm, h1, h2⟩ := hh
            exact ⟨_, h1, b.trans (h2.bel.mono b.size), fun h => absurd hG h⟩
          · exact (lx_new_no (by omega)).mono fun e w' hh => ⟨none, hh.1, hh.2 ▸ b, fun _ => rfl⟩
        have CLg := Lib.hid CLg
        by_cases hR : 0 ≤ R ∧ R ≤ 16384
        · have hG : ¬ (0 ≤ G ∧ G ≤ 16384) := fun h => hgood ⟨hR, h⟩
          have CX := Lib.hid (fun W (b : Below w.heap.size w W) => (xnew_yes (c := c) hR.1 hR.2 (by omega) (HR.out.below b)).mono fun (e : Ending) (w' : World) hh => show ∃ bx, e = Ending.returned (dp bx) ∧ Below w.heap.size w w' from by
            obtain ⟨bx, e1, S', k1, k2, k3⟩ := hh
            exact ⟨bx, e1, b.trans ((k2.below (Nat.le_refl _) (fun k hk => hk.elim)).mono b.size)⟩)
          have CL := Lib.hid (fun W (b : Below w.heap.size w W) => (CLg.out W b).mono fun (e : Ending) (w' : World) hh => show e = Ending.returned (.pointer none) ∧ Below w.heap.size w w' from by
            obtain ⟨g, h1, h2, h3⟩ := hh
            rw [h3 hG] at h1
            exact ⟨h1, h2⟩)
          clear HR HL hgood hR hG CLg
          go_wp2_with (first
            | (go_at_call 10; (with_reducible refine CM.out.mono ?_); rintro e w1 ⟨p, q, rfl, V⟩; have V1 := Lib.hid V; clear V CM)
            | (go_at_call 11; (with_reducible refine (CX.out _ (V1.out _)).mono ?_); rintro e w3 ⟨bx, rfl, V⟩; have V3 := Lib.hid V; clear V V1)
            | (go_at_call 12; (with_reducible refine (CL.out _ V3.out).mono ?_); rintro e w4 ⟨rfl, V⟩; have V4 := Lib.hid V; clear V V3)
            | (go_at_call 9; (with_reducible refine (CV.out _ V4.out).mono ?_); rintro e w2 ⟨rfl, V⟩; have V2 := Lib.hid V; clear V V4))
          go_ret
          exact ⟨by trivial, V2.out⟩
        · have CX := Lib.hid (fun W (b : Below w.heap.size w W) => (xnew_no (w := W) (g := R) (A := A) (k := k) (c := c) (by omega)).mono fun (e : Ending) (w' : World) hh => show e = Ending.returned (.pointer none) ∧ Below w.heap.size w w' from ⟨hh.1, hh.2 ▸ b⟩)
          have CL := Lib.hid (fun W (b : Below w.heap.size w W) => (CLg.out W b).mono fun (e : Ending) (w' : World) hh => show ∃ g : Option Addr, e = Ending.returned (.pointer g) ∧ Below w.heap.size w w' from by
            obtain ⟨g, h1, h2, h3⟩ := hh
            exact ⟨g, h1, h2⟩)
          clear HR HL hgood hR CLg
          go_wp2_with (first
            | (go_at_call 10; (with_reducible refine CM.out.mono ?_); rintro e w1 ⟨p, q, rfl, V⟩; have V1 := Lib.hid V; clear V CM)
            | (go_at_call 11; (with_reducible refine (CX.out _ (V1.out _)).mono ?_); rintro e w3 ⟨rfl, V⟩; have V3 := Lib.hid V; clear V V1)
            | (go_at_call 12; (with_reducible refine (CL.out _ V3.out).mono ?_); rintro e w4 ⟨gv, rfl, V⟩; have V4 := Lib.hid V; clear V V3)
            | (go_at_call 9; (with_reducible refine (CV.out _ V4.out).mono ?_); rintro e w2 ⟨rfl, V⟩; have V2 := Lib.hid V; clear V V4))
          go_ret
          exact ⟨by trivial, V2.out⟩
theorem SpillDoes.walk {w : World} (R : Int) (wR : (Lit.int .i64 R).wf = true) (A : Option Addr) (k c : Nat) (F : List Int) (hr : RdI w A k F) (G : Int) (wG : (Lit.int .i64 G).wf = true) (B : Option Addr) (n cB : Nat) (xs : List Op3) (hl : RdO3 w B n xs) :
    Calls Tryz.prog 4 #[.int .i64 R, .slice A k c, .int .i64 G, .slice B n cB] w fun e w' => e = .returned (.bool true) ∧ Below w.heap.size w w' := by
  by_cases h : 100 < k ∨ 120 < n
  · exact does_big h hr.2.1 hl.2.1
  · exact does_small hr hl (by omega) (by omega)
theorem LawSpillDoes.open_SInt {H : Type} {enc : TypeId × Value → H} {W : World} {base : Nat} {spare : Nat → Bool} {held : Bool} {A : Option Addr} {len cap : Nat} {d : DataW H} {ps : List MemPlace} (h : DataW.Trod enc Tryz.prog W base spare held 22 (.slice A len cap) d ps) : ∃ xs : List Int, RdI W A len xs := LawSpillKeeps.open_SInt h
end Go.Proofs.YtkbapoeilcapfaaGreat
