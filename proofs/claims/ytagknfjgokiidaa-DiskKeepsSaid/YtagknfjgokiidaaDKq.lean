/- DiskKeeps: the rows beside the disk, by a number; what is read behind the deletion. -/
import Derived.Test.YtagknfjgokiidaaDKp
namespace Go.Proofs.Ytagknfjgokiidaa
open Go.RowKit Go.Maps
set_option linter.unusedVariables false
set_option linter.unusedSimpArgs false
set_option maxRecDepth 6000

def nums (i : Nat) : List Value := (List.range i).map fun (j : Nat) => Value.int .i64 ((j : Int) + 1)
theorem nums_succ (i : Nat) : nums (i + 1) = nums i ++ [Value.int .i64 ((i : Int) + 1)] := by
  unfold nums
  rw [List.range_succ, List.map_append]
  rfl
theorem nums_3 : nums 3 = [Value.int .i64 1, .int .i64 2, .int .i64 3] := rfl
/-- The rows by a number. -/
def KV (bw : Nat) (fv : Value) (V : Nat → Value) (B : Nat → List Int) : Res := KF bw fv (V 0) (V 1) (V 2) (B 0) (B 1) (B 2)
theorem KV_good (bw : Nat) (fv : Value) (V : Nat → Value) (B : Nat → List Int) : Good (KV bw fv V B) := KF_good _ _ _ _ _ _ _ _
def nV : Value := .slice none 0 0
theorem nil_row {w : World} {S : Nat → Prop} {e : TypeId} (h : emp w S) : rowR e 1 (.slice none 0 0) 0 [] w S :=
  ⟨row_nil w e, sets_eq fun k => ⟨fun hk => absurd hk (h k), fun hk => by simp [Value.ownBlock] at hk⟩⟩
section
variable {w0 w w1 : World} {D : Res} {bw : Nat} {fv v : Value} {V : Nat → Value} {B : Nat → List Int} {b : Int} {q : Nat}
theorem KV_start {R : Res} (g : Good D) (gR : Good R) (h : In w0 w (star D (star (rowR 3 1 fv 3 (nums 3)) emp))) :
    In w0 (w.alloc (.cells #[.slice none 0 0, .slice none 0 0, .slice none 0 0] 39)) (star D (KV w.heap.size fv (fun _ => .slice none 0 0) (fun _ => []))) := by
  have h1 := h.pushB (star_good g (star_good (rowR_good _ _ _ _ _) emp_good)) (.cells #[.slice none 0 0, .slice none 0 0, .slice none 0 0] 39)
  refine h1.imp fun S h => star_mono h (fun _ => id) fun S h => star_mono (star_swap h) (fun _ => id) fun S h => star_mono h (fun _ => id) fun S h => ?_
  exact star_mono (star_emp h) (fun _ => nil_row) fun S h => star_mono (star_emp h) (fun _ => nil_row) fun S h => nil_row h
theorem KV_cell (hq : q < 3) (h : In w0 w (star D (KV bw fv V B))) : w.cell? ⟨bw, q, none⟩ = some (V q) := by
  have hc := KF_cells h
  rcases q with _ | _ | _ | q
  · exact cell_of_blk hc 0
  · exact cell_of_blk hc 1
  · exact cell_of_blk hc 2
  · omega
theorem KV_f {gf cf : Nat} (hq : q < 3) (h : In w0 w (star D (KV bw (.slice (some ⟨gf, 0, none⟩) 3 cf) V B))) : w.cell? ⟨gf, q, none⟩ = some (.int .i64 ((q : Int) + 1)) := by
  have hc := KF_f h
  rcases q with _ | _ | _ | q
  · exact hc.1
  · exact hc.2.1
  · exact hc.2.2
  · omega
theorem KV_row (hq : q < 3) (h : In w0 w (star D (KV bw fv V B))) : w.ownsRow 0 5 1 (V q) (B q).length (b8 (B q)) := by
  rcases q with _ | _ | _ | q
  · exact KF_row0 h
  · exact KF_row1 h
  · exact KF_row2 h
  · omega
theorem KV_app (g : Good D) (hq : q < 3) (h : In w0 w (star D (KV bw fv V B))) (ho : w1.ownsRow 0 5 1 v ((B q).length + 1) (b8 (B q) ++ [Value.int .u8 b])) (ht : Turn (fun k => (V q).ownBlock = some k) w w1) (hor : v.ownBlock = (V q).ownBlock ∨ ∃ q', v.ownBlock = some q' ∧ w.heap.size ≤ q') :
    In w0 (w1.setCell ⟨bw, q, none⟩ v) (star D (KV bw fv (fun j => if j = q then v else V j) (fun j => if j = q then B q ++ [b] else B j))) := by
  have ho' : w1.ownsRow 0 5 1 v (B q ++ [b]).length (b8 (B q ++ [b])) := by
    have e : b8 (B q ++ [b]) = b8 (B q) ++ [Value.int .u8 b] := by simp
    rw [e, List.length_append]
    exact ho
  rcases q with _ | _ | _ | q
  · exact KF_app0 g h ho' ht hor
  · exact KF_app1 g h ho' ht hor
  · exact KF_app2 g h ho' ht hor
  · omega
theorem KV_mid (g : Good D) (hq : q < 3) (h : In w0 w (star D (KV bw fv V B))) (ho : w1.ownsRow 0 5 1 v ((B q).length + 1) (b8 (B q) ++ [Value.int .u8 b])) (ht : Turn (fun k => (V q).ownBlock = some k) w w1) (hor : v.ownBlock = (V q).ownBlock ∨ ∃ q', v.ownBlock = some q' ∧ w.heap.size ≤ q') :
    w1.heap[bw]? = some (.cells #[V 0, V 1, V 2] 39 (0, 0)) ∧ w1.cell? ⟨bw, q, none⟩ = some (V q) ∧ w1.frozen? ⟨bw, q, none⟩ = false := by
  have ho' : w1.ownsRow 0 5 1 v (B q ++ [b]).length (b8 (B q ++ [b])) := by
    have e : b8 (B q ++ [b]) = b8 (B q) ++ [Value.int .u8 b] := by simp
    rw [e, List.length_append]
    exact ho
  have hc : w1.heap[bw]? = some (.cells #[V 0, V 1, V 2] 39 (0, 0)) := by
    rcases q with _ | _ | _ | q
    · exact KF_mid0 g h ho' ht hor
    · exact KF_mid1 g h ho' ht hor
    · exact KF_mid2 g h ho' ht hor
    · omega
  refine ⟨hc, ?_, free_of_blk hc q⟩
  rcases q with _ | _ | _ | q
  · exact cell_of_blk hc 0
  · exact cell_of_blk hc 1
  · exact cell_of_blk hc 2
  · omega
end
def wF (l : List Int) (i : Nat) : Nat → List Int := fun q => wB l (q : Int) i
theorem wF_step {l : List Int} {i q : Nat} {x : Int} (h : l[i]? = some x) (hk : kk x = (q : Int)) : wF l (i + 1) = fun j => if j = q then wF l i q ++ [byteN i] else wF l i j := by
  funext j
  unfold wF
  by_cases e : j = q
  · subst e
    rw [if_pos rfl]
    exact wB_hit h hk
  · rw [if_neg e]
    exact wB_miss h (by rw [hk]; omega)
theorem wF_0 (l : List Int) : wF l 0 = fun _ => [] := rfl
theorem kS_find (l : List Int) (i : Nat) {q : Nat} (hq : q < 3) : (kS l i).find ((q : Int) + 1) = some ((wF l i q).map rp) := by
  rcases q with _ | _ | _ | q
  · rfl
  · rfl
  · rfl
  · omega
/-- The disk behind the deletion of file g. -/
structure RSt (l : List Int) (g : Nat) (s : Ds) (b : Int) : Prop where
  ok : DOk 16384 s
  fnd : ∀ q : Nat, q < 3 → s.find ((q : Int) + 1) = if q = g then none else some ((wF l l.length q).map rp)
  used : s.used = l.length - (wF l l.length g).length
  peak : s.peak = l.length
  deeds : s.deeds ≤ b
theorem RSt.start {l : List Int} {g : Nat} (hl : l.length ≤ 300) (hg : g < 3) : (kS l l.length).delE ((g : Int) + 1) = 0 ∧ RSt l g ((kS l l.length).del ((g : Int) + 1)) 300 := by
  have hf := kS_find l l.length hg
  have hE : (kS l l.length).del ((g : Int) + 1) = ⟨3, l.length, 0, l.length, l.length - (wF l l.length g).length, l.length, (kS l l.length).fs.filter fun x => !(x.1 == (g : Int) + 1)⟩ := by
    unfold Ds.del
    rw [hf]
    dsimp only
    rw [List.length_map]
    rfl
  refine ⟨by unfold Ds.delE; rw [hf], (kS_ok (Nat.le_refl _) hl).del _, ?_, by rw [hE], by rw [hE], by rw [hE]; dsimp only; omega⟩
  rw [hE]
  intro q hq
  rcases g with _ | _ | _ | g
  · rcases q with _ | _ | _ | q
    · rfl
    · rfl
    · rfl
    · omega
  · rcases q with _ | _ | _ | q
    · rfl
    · rfl
    · rfl
    · omega
  · rcases q with _ | _ | _ | q
    · rfl
    · rfl
    · rfl
    · omega
  · omega
theorem RSt.mono {l : List Int} {g : Nat} {s : Ds} {b b' : Int} (h : RSt l g s b) (hb : b ≤ b') : RSt l g s b' := ⟨h.ok, h.fnd, h.used, h.peak, Int.le_trans h.deeds hb⟩
theorem RSt.read {l : List Int} {g q i : Nat} {s : Ds} {b : Int} {x : Int} (h : RSt l g s b) (hq : q < 3) (hn : q ≠ g) (hx : (wF l l.length q)[i]? = some x) :
    s.readE [] ((q : Int) + 1) i = 0 ∧ s.readQ [] ((q : Int) + 1) i = rp x ∧ RSt l g (s.read [] ((q : Int) + 1) i) (b + 1) := by
  have hf := h.fnd q hq
  rw [if_neg hn] at hf
  have hi := (List.getElem?_eq_some_iff.1 hx).1
  have hE : s.readE [] ((q : Int) + 1) i = 0 := by
    unfold Ds.readE
    rw [hf]
    dsimp only
    rw [if_neg (by rw [List.length_map]; omega)]
    rfl
  refine ⟨hE, ?_, ?_⟩
  · unfold Ds.readQ Ds.readP
    rw [if_pos hE, hf]
    simp only [Option.getD_some, Int.toNat_natCast, List.getD_eq_getElem?_getD, List.getElem?_map, hx, Option.map_some]
  · have e : s.read [] ((q : Int) + 1) i = ⟨s.made, s.deeds + 1, s.reads + 1, s.writes, s.used, s.peak, s.fs⟩ := by
      unfold Ds.read
      rw [if_pos hE]
    refine ⟨h.ok.read _ _, ?_, ?_, ?_, ?_⟩
    · rw [e]; exact h.fnd
    · rw [e]; exact h.used
    · rw [e]; exact h.peak
    · rw [e]
      have := h.deeds
      dsimp only
      omega
end Go.Proofs.Ytagknfjgokiidaa
