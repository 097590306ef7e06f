/- LedgerNests: accounts one under the other, as plain data. -/
import Derived.Test.YtagknfjgokiidaaLM
namespace Go.Proofs.Ytagknfjgokiidaa
set_option linter.unusedVariables false
set_option linter.unusedSimpArgs false

def nA (G : Int) (h p g k : Nat) : Acc := ⟨k, if k = 0 then none else some ((k : Int) - 1), G - k, if k < h then 1 else 0, if k < p then 1 else 0, if k < g then G - k - 1 else 0, if k < g then 1 else 0⟩
def nS (G made most : Int) (h p g N : Nat) : Ls := ⟨made, most, (List.range N).map (nA G h p g)⟩
theorem acc_eq {a b : Acc} (h1 : a.n = b.n) (h2 : a.ab = b.ab) (h3 : a.grant = b.grant) (h4 : a.held = b.held) (h5 : a.peak = b.peak) (h6 : a.granted = b.granted) (h7 : a.below = b.below) : a = b := by
  obtain ⟨_, _, _, _, _, _, _⟩ := a
  obtain ⟨_, _, _, _, _, _, _⟩ := b
  simp_all
section
variable {G made most : Int} {h p g N : Nat}
theorem nA_left (k : Nat) : (nA G h p g k).left = G - k - (if k < h then 1 else 0) - (if k < g then G - k - 1 else 0) := rfl
theorem nS_ord : (nS G made most h p g N).l.Pairwise (fun x y => x.n < y.n) := by
  unfold nS
  refine List.pairwise_map.2 (List.pairwise_lt_range.imp ?_)
  intro a b hab
  unfold nA
  dsimp only
  omega
theorem nS_find {k : Nat} (hk : k < N) : (nS G made most h p g N).find k = some (nA G h p g k) := by
  have := find_of_mem (s := nS G made most h p g N) nS_ord (a := nA G h p g k) (List.mem_map.2 ⟨k, List.mem_range.2 hk, rfl⟩)
  exact this
theorem nS_upd (f : Acc → Acc) (n : Int) : updL (nS G made most h p g N).l n f = (List.range N).map fun k : Nat => if (k : Int) = n then f (nA G h p g k) else nA G h p g k := by
  unfold updL nS
  rw [List.map_map]
  rfl
theorem sum_range (f : Nat → Acc) (h N : Nat) (hf : ∀ k, (f k).held = if k < h then 1 else 0) (hN : h ≤ N) : sumL ((List.range N).map f) (·.held) = h := by
  have key : ∀ N : Nat, sumL ((List.range N).map f) (·.held) = (min h N : Nat) := by
    intro N
    induction N with
    | zero => simp [sumL]
    | succ N ih =>
      rw [List.range_succ, List.map_append, sumL_app, ih]
      simp only [List.map_cons, List.map_nil, sumL_cons, sumL_nil, hf]
      split <;> omega
  rw [key]
  congr 1
  omega
theorem nS_len : (nS G made most h p g N).l.length = N := by simp [nS]
theorem nest_open {i : Nat} (h1 : (i : Int) + 1 ≤ G) (h2 : G ≤ 200) : (nS G i i i i i (i + 1)).openE i (G - ((i : Int) + 1)) = 0 ∧ (nS G i i i i i (i + 1)).open_ i (G - ((i : Int) + 1)) = nS G ((i : Int) + 1) i i i (i + 1) (i + 2) := by
  have e0 : (nS G i i i i i (i + 1)).openE i (G - ((i : Int) + 1)) = 0 := by
    unfold Ls.openE
    rw [if_neg (by omega), nS_find (by omega)]
    dsimp only
    rw [nS_len, if_neg (by omega), nA_left, if_neg (Nat.lt_irrefl i), if_neg (Nat.lt_irrefl i)]
    exact if_neg (by omega)
  refine ⟨e0, ?_⟩
  rw [open_do e0, nS_upd]
  unfold nS
  dsimp only
  rw [show i + 2 = (i + 1) + 1 from rfl, List.range_succ (n := i + 1), List.map_append]
  congr 2
  · refine List.map_congr_left fun k hk => ?_
    have := List.mem_range.1 hk
    split <;> (refine acc_eq rfl rfl rfl ?_ ?_ ?_ ?_ <;> first | rfl | (simp only [addKid, remKid, holdA, giveA, nA]; (repeat' split) <;> omega))
  · simp only [List.map_cons, List.map_nil, List.cons.injEq, and_true]
    refine acc_eq rfl ?_ ?_ ?_ ?_ ?_ ?_ <;> simp only [nA]
    · rw [if_neg (by omega)]
      congr 1
      omega
    · omega
    all_goals (rw [if_neg (by omega)])
theorem nest_take2 {i : Nat} (h1 : (i : Int) + 1 ≤ G) : (nS G ((i : Int) + 1) i i i (i + 1) (i + 2)).takeE i 2 = 60 := by
  unfold Ls.takeE
  rw [if_neg (by omega), nS_find (by omega)]
  dsimp only
  rw [nA_left, if_neg (Nat.lt_irrefl i), if_pos (show i < i + 1 by omega)]
  exact if_pos (by omega)
theorem nest_take1 {i : Nat} (h1 : (i : Int) + 1 ≤ G) : (nS G ((i : Int) + 1) i i i (i + 1) (i + 2)).takeE i 1 = 0 ∧ (nS G ((i : Int) + 1) i i i (i + 1) (i + 2)).take_ i 1 = nS G ((i : Int) + 1) ((i : Int) + 1) (i + 1) (i + 1) (i + 1) (i + 2) := by
  have e0 : (nS G ((i : Int) + 1) i i i (i + 1) (i + 2)).takeE i 1 = 0 := by
    unfold Ls.takeE
    rw [if_neg (by omega), nS_find (by omega)]
    dsimp only
    rw [nA_left, if_neg (Nat.lt_irrefl i), if_pos (show i < i + 1 by omega)]
    exact if_neg (by omega)
  have hl : updL (nS G ((i : Int) + 1) i i i (i + 1) (i + 2)).l i (holdA 1) = (List.range (i + 2)).map (nA G (i + 1) (i + 1) (i + 1)) := by
    rw [nS_upd]
    refine List.map_congr_left fun k hk => ?_
    have := List.mem_range.1 hk
    split <;> (refine acc_eq rfl rfl rfl ?_ ?_ ?_ ?_ <;> first | rfl | (simp only [addKid, remKid, holdA, giveA, nA]; (repeat' split) <;> omega))
  refine ⟨e0, ?_⟩
  rw [take_do e0, hl, sum_range _ (i + 1) (i + 2) (fun k => rfl) (by omega)]
  unfold nS
  dsimp only
  congr 1
  omega
theorem nest_total {i : Nat} : (nS G made most i p g (i + 1)).total = i := sum_range _ i (i + 1) (fun k => rfl) (by omega)
theorem nest_close0 {N : Nat} (hN : 0 < N) : (nS G made most h p g N).closeE 0 = 1 := by
  unfold Ls.closeE
  have := nS_find (G := G) (made := made) (most := most) (h := h) (p := p) (g := g) (N := N) (k := 0) hN
  rw [show ((0 : Nat) : Int) = 0 from rfl] at this
  rw [this]
  exact if_pos (.inl rfl)
theorem nest_closeHeld {j : Nat} : (nS G made most (j + 1) p (j + 1) (j + 2)).closeE j = 1 := by
  unfold Ls.closeE
  rw [nS_find (by omega)]
  refine if_pos (.inr (.inl ?_))
  unfold nA
  dsimp only
  rw [if_pos (by omega)]
  omega
theorem nest_close {j : Nat} : (nS G made most (j + 1) p (j + 1) (j + 2)).closeE ((j : Int) + 1) = 0 ∧ (nS G made most (j + 1) p (j + 1) (j + 2)).close_ ((j : Int) + 1) = nS G made most (j + 1) p j (j + 1) := by
  have hf : (nS G made most (j + 1) p (j + 1) (j + 2)).find ((j : Int) + 1) = some (nA G (j + 1) p (j + 1) (j + 1)) := by
    have := nS_find (G := G) (made := made) (most := most) (h := j + 1) (p := p) (g := j + 1) (N := j + 2) (k := j + 1) (by omega)
    simpa using this
  have e0 : (nS G made most (j + 1) p (j + 1) (j + 2)).closeE ((j : Int) + 1) = 0 := by
    unfold Ls.closeE
    rw [hf]
    refine if_neg ?_
    unfold nA
    simp
  refine ⟨e0, ?_⟩
  rw [close_do e0 hf]
  have ha : (nA G (j + 1) p (j + 1) (j + 1)).ab.getD 0 = j := by unfold nA; simp
  have hg : (nA G (j + 1) p (j + 1) (j + 1)).grant = G - j - 1 := by unfold nA; dsimp only; omega
  rw [ha, hg, nS_upd]
  unfold nS
  dsimp only
  congr 1
  rw [show j + 2 = (j + 1) + 1 from rfl, List.range_succ (n := j + 1), List.map_append, List.filter_append]
  have hn : ∀ k : Nat, (if (k : Int) = (j : Int) then remKid (G - j - 1) (nA G (j + 1) p (j + 1) k) else nA G (j + 1) p (j + 1) k).n = k := by
    intro k
    split <;> rfl
  rw [List.filter_eq_self.2, List.filter_eq_nil_iff.2, List.append_nil]
  · refine List.map_congr_left fun k hk => ?_
    have := List.mem_range.1 hk
    split <;> (refine acc_eq rfl rfl rfl ?_ ?_ ?_ ?_ <;> first | rfl | (simp only [addKid, remKid, holdA, giveA, nA]; (repeat' split) <;> omega))
  · intro x hx
    obtain ⟨k, hk, rfl⟩ := List.mem_map.1 hx
    obtain rfl := List.mem_singleton.1 hk
    rw [hn]
    simp
  · intro x hx
    obtain ⟨k, hk, rfl⟩ := List.mem_map.1 hx
    have := List.mem_range.1 hk
    rw [hn]
    simp
    omega
theorem nest_give {j : Nat} : (nS G made most (j + 1) p j (j + 1)).giveE j 1 = 0 ∧ (nS G made most (j + 1) p j (j + 1)).give_ j 1 = nS G made most j p j (j + 1) := by
  have e0 : (nS G made most (j + 1) p j (j + 1)).giveE j 1 = 0 := by
    unfold Ls.giveE
    rw [nS_find (by omega)]
    refine if_neg ?_
    unfold nA
    dsimp only
    rw [if_pos (by omega)]
    omega
  refine ⟨e0, ?_⟩
  rw [give_do e0, nS_upd]
  unfold nS
  dsimp only
  congr 1
  refine List.map_congr_left fun k hk => ?_
  have := List.mem_range.1 hk
  split <;> (refine acc_eq rfl rfl rfl ?_ ?_ ?_ ?_ <;> first | rfl | (simp only [addKid, remKid, holdA, giveA, nA]; (repeat' split) <;> omega))
theorem nest_left0 {N : Nat} (hN : 0 < N) : ((nS G made most 0 p 0 N).find 0).elim 0 (·.left) = G := by
  have := nS_find (G := G) (made := made) (most := most) (h := 0) (p := p) (g := 0) (N := N) (k := 0) hN
  rw [show ((0 : Nat) : Int) = 0 from rfl] at this
  rw [this]
  simp [nA, Acc.left]
theorem nest_new : Ls.new G = nS G ((0 : Nat) : Int) ((0 : Nat) : Int) 0 0 0 1 := by
  unfold Ls.new nS nA
  simp
end
end Go.Proofs.Ytagknfjgokiidaa
