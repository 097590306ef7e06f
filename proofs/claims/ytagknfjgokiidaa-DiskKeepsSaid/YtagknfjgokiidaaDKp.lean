/- DiskKeeps: the walk. -/
import Derived.Test.YtagknfjgokiidaaDKA
namespace Go.Proofs.Ytagknfjgokiidaa
open Go.RowKit Go.Maps
set_option linter.unusedVariables false
set_option linter.unusedSimpArgs false
set_option maxRecDepth 6000

/-- The numbers of the files, and what each has: what stands beside the disk. -/
def KF (bw : Nat) (fv v0 v1 v2 : Value) (B0 B1 B2 : List Int) : Res :=
  star (rowR 3 1 fv 3 [.int .i64 1, .int .i64 2, .int .i64 3]) (star (blkR bw (.cells #[v0, v1, v2] 39 (0, 0))) (star (rowR 5 1 v0 B0.length (b8 B0)) (star (rowR 5 1 v1 B1.length (b8 B1)) (rowR 5 1 v2 B2.length (b8 B2)))))
theorem KF_good (bw : Nat) (fv v0 v1 v2 : Value) (B0 B1 B2 : List Int) : Good (KF bw fv v0 v1 v2 B0 B1 B2) :=
  star_good (rowR_good _ _ _ _ _) (star_good (blkR_good _ _) (star_good (rowR_good _ _ _ _ _) (star_good (rowR_good _ _ _ _ _) (rowR_good _ _ _ _ _))))
section
variable {w0 w w1 : World} {D : Res} {bw : Nat} {fv v0 v1 v2 v : Value} {B0 B1 B2 : List Int} {b : Int}
theorem KF_cells (h : In w0 w (star D (KF bw fv v0 v1 v2 B0 B1 B2))) : w.heap[bw]? = some (.cells #[v0, v1, v2] 39 (0, 0)) := h.right.right.left.get fun S h => h.1
theorem KF_f {gf cf : Nat} (h : In w0 w (star D (KF bw (.slice (some ⟨gf, 0, none⟩) 3 cf) v0 v1 v2 B0 B1 B2))) : w.cell? ⟨gf, 0, none⟩ = some (.int .i64 1) ∧ w.cell? ⟨gf, 1, none⟩ = some (.int .i64 2) ∧ w.cell? ⟨gf, 2, none⟩ = some (.int .i64 3) := by
  have ho := h.right.left.get fun S h => h.1
  have hc := ho.cells (g := gf) rfl
  refine ⟨?_, ?_, ?_⟩
  · have := hc 0 _ rfl
    rw [Addr.add_mid] at this
    exact this
  · have := hc 1 _ rfl
    rw [Addr.add_mid] at this
    exact this
  · have := hc 2 _ rfl
    rw [Addr.add_mid] at this
    exact this
theorem KF_row0 (h : In w0 w (star D (KF bw fv v0 v1 v2 B0 B1 B2))) : w.ownsRow 0 5 1 v0 B0.length (b8 B0) := h.right.right.right.left.get fun S h => h.1
theorem KF_row1 (h : In w0 w (star D (KF bw fv v0 v1 v2 B0 B1 B2))) : w.ownsRow 0 5 1 v1 B1.length (b8 B1) := h.right.right.right.right.left.get fun S h => h.1
theorem KF_row2 (h : In w0 w (star D (KF bw fv v0 v1 v2 B0 B1 B2))) : w.ownsRow 0 5 1 v2 B2.length (b8 B2) := h.right.right.right.right.right.get fun S h => h.1
theorem KF_mid0 (g : Good D) (h : In w0 w (star D (KF bw fv v0 v1 v2 B0 B1 B2))) (ho : w1.ownsRow 0 5 1 v (B0 ++ [b]).length (b8 (B0 ++ [b]))) (ht : Turn (fun k => v0.ownBlock = some k) w w1) (hor : v.ownBlock = v0.ownBlock ∨ ∃ q, v.ownBlock = some q ∧ w.heap.size ≤ q) :
    w1.heap[bw]? = some (.cells #[v0, v1, v2] 39 (0, 0)) := by
  have h1 : In w0 w (star (rowR 5 1 v0 B0.length (b8 B0)) (star D (star (rowR 3 1 fv 3 [.int .i64 1, .int .i64 2, .int .i64 3]) (star (blkR bw (.cells #[v0, v1, v2] 39 (0, 0))) (star (rowR 5 1 v1 B1.length (b8 B1)) (rowR 5 1 v2 B2.length (b8 B2))))))) :=
    (h.imp fun S h => star_mono h (fun _ => id) fun S h => star_swap (star_mono h (fun _ => id) fun S h => star_swap h)).swap
  have h2 := h1.grow (star_good g (star_good (rowR_good _ _ _ _ _) (star_good (blkR_good _ _) (star_good (rowR_good _ _ _ _ _) (rowR_good _ _ _ _ _))))) ho ht hor
  have h3 : In w0 w1 (star (blkR bw (.cells #[v0, v1, v2] 39 (0, 0))) (star (rowR 5 1 v (B0 ++ [b]).length (b8 (B0 ++ [b]))) (star D (star (rowR 3 1 fv 3 [.int .i64 1, .int .i64 2, .int .i64 3]) (star (rowR 5 1 v1 B1.length (b8 B1)) (rowR 5 1 v2 B2.length (b8 B2))))))) :=
    (h2.imp fun S h => star_mono h (fun _ => id) fun S h => star_swap (star_mono h (fun _ => id) fun S h => star_swap h)).swap
  exact h3.left.get fun S h => h.1
theorem KF_app0 (g : Good D) (h : In w0 w (star D (KF bw fv v0 v1 v2 B0 B1 B2))) (ho : w1.ownsRow 0 5 1 v (B0 ++ [b]).length (b8 (B0 ++ [b]))) (ht : Turn (fun k => v0.ownBlock = some k) w w1) (hor : v.ownBlock = v0.ownBlock ∨ ∃ q, v.ownBlock = some q ∧ w.heap.size ≤ q) :
    In w0 (w1.setCell ⟨bw, 0, none⟩ v) (star D (KF bw fv v v1 v2 (B0 ++ [b]) B1 B2)) := by
  have h1 : In w0 w (star (rowR 5 1 v0 B0.length (b8 B0)) (star D (star (rowR 3 1 fv 3 [.int .i64 1, .int .i64 2, .int .i64 3]) (star (blkR bw (.cells #[v0, v1, v2] 39 (0, 0))) (star (rowR 5 1 v1 B1.length (b8 B1)) (rowR 5 1 v2 B2.length (b8 B2))))))) :=
    (h.imp fun S h => star_mono h (fun _ => id) fun S h => star_swap (star_mono h (fun _ => id) fun S h => star_swap h)).swap
  have h2 := h1.grow (star_good g (star_good (rowR_good _ _ _ _ _) (star_good (blkR_good _ _) (star_good (rowR_good _ _ _ _ _) (rowR_good _ _ _ _ _))))) ho ht hor
  have h3 : In w0 w1 (star (blkR bw (.cells #[v0, v1, v2] 39 (0, 0))) (star (rowR 5 1 v (B0 ++ [b]).length (b8 (B0 ++ [b]))) (star D (star (rowR 3 1 fv 3 [.int .i64 1, .int .i64 2, .int .i64 3]) (star (rowR 5 1 v1 B1.length (b8 B1)) (rowR 5 1 v2 B2.length (b8 B2))))))) :=
    (h2.imp fun S h => star_mono h (fun _ => id) fun S h => star_swap (star_mono h (fun _ => id) fun S h => star_swap h)).swap
  have h3 := h3.put (star_good (rowR_good _ _ _ _ _) (star_good g (star_good (rowR_good _ _ _ _ _) (star_good (rowR_good _ _ _ _ _) (rowR_good _ _ _ _ _))))) 0 v
  have h4 : In w0 (w1.setCell ⟨bw, 0, none⟩ v) (star (rowR 5 1 v (B0 ++ [b]).length (b8 (B0 ++ [b]))) (star D (star (rowR 3 1 fv 3 [.int .i64 1, .int .i64 2, .int .i64 3]) (star (blkR bw (.cells #[v, v1, v2] 39 (0, 0))) (star (rowR 5 1 v1 B1.length (b8 B1)) (rowR 5 1 v2 B2.length (b8 B2))))))) :=
    (h3.swap.imp fun S h => star_mono h (fun _ => id) fun S h => star_mono (star_swap h) (fun _ => id) fun S h => star_swap h)
  exact (h4.swap.imp fun S h => star_mono h (fun _ => id) fun S h => star_mono (star_swap h) (fun _ => id) fun S h => star_swap h)
theorem KF_mid1 (g : Good D) (h : In w0 w (star D (KF bw fv v0 v1 v2 B0 B1 B2))) (ho : w1.ownsRow 0 5 1 v (B1 ++ [b]).length (b8 (B1 ++ [b]))) (ht : Turn (fun k => v1.ownBlock = some k) w w1) (hor : v.ownBlock = v1.ownBlock ∨ ∃ q, v.ownBlock = some q ∧ w.heap.size ≤ q) :
    w1.heap[bw]? = some (.cells #[v0, v1, v2] 39 (0, 0)) := by
  have h1 : In w0 w (star (rowR 5 1 v1 B1.length (b8 B1)) (star D (star (rowR 3 1 fv 3 [.int .i64 1, .int .i64 2, .int .i64 3]) (star (blkR bw (.cells #[v0, v1, v2] 39 (0, 0))) (star (rowR 5 1 v0 B0.length (b8 B0)) (rowR 5 1 v2 B2.length (b8 B2))))))) :=
    (h.imp fun S h => star_mono h (fun _ => id) fun S h => star_swap (star_mono h (fun _ => id) fun S h => star_swap (star_mono h (fun _ => id) fun S h => star_swap h))).swap
  have h2 := h1.grow (star_good g (star_good (rowR_good _ _ _ _ _) (star_good (blkR_good _ _) (star_good (rowR_good _ _ _ _ _) (rowR_good _ _ _ _ _))))) ho ht hor
  have h3 : In w0 w1 (star (blkR bw (.cells #[v0, v1, v2] 39 (0, 0))) (star (rowR 5 1 v (B1 ++ [b]).length (b8 (B1 ++ [b]))) (star D (star (rowR 3 1 fv 3 [.int .i64 1, .int .i64 2, .int .i64 3]) (star (rowR 5 1 v0 B0.length (b8 B0)) (rowR 5 1 v2 B2.length (b8 B2))))))) :=
    (h2.imp fun S h => star_mono h (fun _ => id) fun S h => star_swap (star_mono h (fun _ => id) fun S h => star_swap h)).swap
  exact h3.left.get fun S h => h.1
theorem KF_app1 (g : Good D) (h : In w0 w (star D (KF bw fv v0 v1 v2 B0 B1 B2))) (ho : w1.ownsRow 0 5 1 v (B1 ++ [b]).length (b8 (B1 ++ [b]))) (ht : Turn (fun k => v1.ownBlock = some k) w w1) (hor : v.ownBlock = v1.ownBlock ∨ ∃ q, v.ownBlock = some q ∧ w.heap.size ≤ q) :
    In w0 (w1.setCell ⟨bw, 1, none⟩ v) (star D (KF bw fv v0 v v2 B0 (B1 ++ [b]) B2)) := by
  have h1 : In w0 w (star (rowR 5 1 v1 B1.length (b8 B1)) (star D (star (rowR 3 1 fv 3 [.int .i64 1, .int .i64 2, .int .i64 3]) (star (blkR bw (.cells #[v0, v1, v2] 39 (0, 0))) (star (rowR 5 1 v0 B0.length (b8 B0)) (rowR 5 1 v2 B2.length (b8 B2))))))) :=
    (h.imp fun S h => star_mono h (fun _ => id) fun S h => star_swap (star_mono h (fun _ => id) fun S h => star_swap (star_mono h (fun _ => id) fun S h => star_swap h))).swap
  have h2 := h1.grow (star_good g (star_good (rowR_good _ _ _ _ _) (star_good (blkR_good _ _) (star_good (rowR_good _ _ _ _ _) (rowR_good _ _ _ _ _))))) ho ht hor
  have h3 : In w0 w1 (star (blkR bw (.cells #[v0, v1, v2] 39 (0, 0))) (star (rowR 5 1 v (B1 ++ [b]).length (b8 (B1 ++ [b]))) (star D (star (rowR 3 1 fv 3 [.int .i64 1, .int .i64 2, .int .i64 3]) (star (rowR 5 1 v0 B0.length (b8 B0)) (rowR 5 1 v2 B2.length (b8 B2))))))) :=
    (h2.imp fun S h => star_mono h (fun _ => id) fun S h => star_swap (star_mono h (fun _ => id) fun S h => star_swap h)).swap
  have h3 := h3.put (star_good (rowR_good _ _ _ _ _) (star_good g (star_good (rowR_good _ _ _ _ _) (star_good (rowR_good _ _ _ _ _) (rowR_good _ _ _ _ _))))) 1 v
  have h4 : In w0 (w1.setCell ⟨bw, 1, none⟩ v) (star (rowR 5 1 v (B1 ++ [b]).length (b8 (B1 ++ [b]))) (star D (star (rowR 3 1 fv 3 [.int .i64 1, .int .i64 2, .int .i64 3]) (star (blkR bw (.cells #[v0, v, v2] 39 (0, 0))) (star (rowR 5 1 v0 B0.length (b8 B0)) (rowR 5 1 v2 B2.length (b8 B2))))))) :=
    (h3.swap.imp fun S h => star_mono h (fun _ => id) fun S h => star_mono (star_swap h) (fun _ => id) fun S h => star_swap h)
  exact (h4.swap.imp fun S h => star_mono h (fun _ => id) fun S h => star_mono (star_swap h) (fun _ => id) fun S h => star_mono (star_swap h) (fun _ => id) fun S h => star_swap h)
theorem KF_mid2 (g : Good D) (h : In w0 w (star D (KF bw fv v0 v1 v2 B0 B1 B2))) (ho : w1.ownsRow 0 5 1 v (B2 ++ [b]).length (b8 (B2 ++ [b]))) (ht : Turn (fun k => v2.ownBlock = some k) w w1) (hor : v.ownBlock = v2.ownBlock ∨ ∃ q, v.ownBlock = some q ∧ w.heap.size ≤ q) :
    w1.heap[bw]? = some (.cells #[v0, v1, v2] 39 (0, 0)) := by
  have h1 : In w0 w (star (rowR 5 1 v2 B2.length (b8 B2)) (star D (star (rowR 3 1 fv 3 [.int .i64 1, .int .i64 2, .int .i64 3]) (star (blkR bw (.cells #[v0, v1, v2] 39 (0, 0))) (star (rowR 5 1 v0 B0.length (b8 B0)) (rowR 5 1 v1 B1.length (b8 B1))))))) :=
    (h.imp fun S h => star_mono h (fun _ => id) fun S h => star_swap (star_mono h (fun _ => id) fun S h => star_swap (star_mono h (fun _ => id) fun S h => star_swap (star_mono h (fun _ => id) fun S h => star_comm h)))).swap
  have h2 := h1.grow (star_good g (star_good (rowR_good _ _ _ _ _) (star_good (blkR_good _ _) (star_good (rowR_good _ _ _ _ _) (rowR_good _ _ _ _ _))))) ho ht hor
  have h3 : In w0 w1 (star (blkR bw (.cells #[v0, v1, v2] 39 (0, 0))) (star (rowR 5 1 v (B2 ++ [b]).length (b8 (B2 ++ [b]))) (star D (star (rowR 3 1 fv 3 [.int .i64 1, .int .i64 2, .int .i64 3]) (star (rowR 5 1 v0 B0.length (b8 B0)) (rowR 5 1 v1 B1.length (b8 B1))))))) :=
    (h2.imp fun S h => star_mono h (fun _ => id) fun S h => star_swap (star_mono h (fun _ => id) fun S h => star_swap h)).swap
  exact h3.left.get fun S h => h.1
theorem KF_app2 (g : Good D) (h : In w0 w (star D (KF bw fv v0 v1 v2 B0 B1 B2))) (ho : w1.ownsRow 0 5 1 v (B2 ++ [b]).length (b8 (B2 ++ [b]))) (ht : Turn (fun k => v2.ownBlock = some k) w w1) (hor : v.ownBlock = v2.ownBlock ∨ ∃ q, v.ownBlock = some q ∧ w.heap.size ≤ q) :
    In w0 (w1.setCell ⟨bw, 2, none⟩ v) (star D (KF bw fv v0 v1 v B0 B1 (B2 ++ [b]))) := by
  have h1 : In w0 w (star (rowR 5 1 v2 B2.length (b8 B2)) (star D (star (rowR 3 1 fv 3 [.int .i64 1, .int .i64 2, .int .i64 3]) (star (blkR bw (.cells #[v0, v1, v2] 39 (0, 0))) (star (rowR 5 1 v0 B0.length (b8 B0)) (rowR 5 1 v1 B1.length (b8 B1))))))) :=
    (h.imp fun S h => star_mono h (fun _ => id) fun S h => star_swap (star_mono h (fun _ => id) fun S h => star_swap (star_mono h (fun _ => id) fun S h => star_swap (star_mono h (fun _ => id) fun S h => star_comm h)))).swap
  have h2 := h1.grow (star_good g (star_good (rowR_good _ _ _ _ _) (star_good (blkR_good _ _) (star_good (rowR_good _ _ _ _ _) (rowR_good _ _ _ _ _))))) ho ht hor
  have h3 : In w0 w1 (star (blkR bw (.cells #[v0, v1, v2] 39 (0, 0))) (star (rowR 5 1 v (B2 ++ [b]).length (b8 (B2 ++ [b]))) (star D (star (rowR 3 1 fv 3 [.int .i64 1, .int .i64 2, .int .i64 3]) (star (rowR 5 1 v0 B0.length (b8 B0)) (rowR 5 1 v1 B1.length (b8 B1))))))) :=
    (h2.imp fun S h => star_mono h (fun _ => id) fun S h => star_swap (star_mono h (fun _ => id) fun S h => star_swap h)).swap
  have h3 := h3.put (star_good (rowR_good _ _ _ _ _) (star_good g (star_good (rowR_good _ _ _ _ _) (star_good (rowR_good _ _ _ _ _) (rowR_good _ _ _ _ _))))) 2 v
  have h4 : In w0 (w1.setCell ⟨bw, 2, none⟩ v) (star (rowR 5 1 v (B2 ++ [b]).length (b8 (B2 ++ [b]))) (star D (star (rowR 3 1 fv 3 [.int .i64 1, .int .i64 2, .int .i64 3]) (star (blkR bw (.cells #[v0, v1, v] 39 (0, 0))) (star (rowR 5 1 v0 B0.length (b8 B0)) (rowR 5 1 v1 B1.length (b8 B1))))))) :=
    (h3.swap.imp fun S h => star_mono h (fun _ => id) fun S h => star_mono (star_swap h) (fun _ => id) fun S h => star_swap h)
  exact (h4.swap.imp fun S h => star_mono h (fun _ => id) fun S h => star_mono (star_swap h) (fun _ => id) fun S h => star_mono (star_swap h) (fun _ => id) fun S h => star_mono (star_swap h) (fun _ => id) fun S h => star_comm h)
end
end Go.Proofs.Ytagknfjgokiidaa
