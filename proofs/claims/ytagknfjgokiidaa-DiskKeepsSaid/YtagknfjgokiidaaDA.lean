/- the disk: Append. -/
import Derived.Test.YtagknfjgokiidaaDP
namespace Go.Proofs.Ytagknfjgokiidaa
open Go.RowKit Go.Maps
set_option linter.unusedVariables false
set_option linter.unusedSimpArgs false
set_option maxRecDepth 6000

section
variable {P : Program} {ops : Array Oper} {o : Oper} {a : Act} {K : Act → World → Prop} {Q : Exit → Act → World → Prop}
theorem step_wp {w : World} {E : Prop} (hgd : o.guard = none) (h : o.wp P a w K Q) : if Region.wanted o (yielded ops a.tmps) = true then o.wp P a w K Q else E := by
  rw [if_pos (by simp [Region.wanted, hgd])]
  exact h
theorem op_app1 {W : World} (base : Nat) (s x : Operand) (t e : TypeId) (z : Value) (size bytes : Nat)
    (ho : o.op = .call { callee := .builtin .append, args := #[s, x], argTypes := #[t, t] })
    (ht : P.underlying t = some (.slice e)) (hinfo : (P.info? e).map (fun i => (i.zero, i.size, i.bytes)) = some (some z, size, bytes)) (hz : z.cells.size = size) (hs0 : 0 < size) (hb0 : 0 < bytes)
    (v : Value) (n : Nat) (xs ys : List Value) (hs : a.eval s = v) {S : Nat} (hx : a.eval x = .slice (some ⟨S, 0, none⟩) 1 1) (hS : S = W.heap.size) (hys : ys.length = size) (h1 : ∀ u ∈ ys, u.oneCell' = true)
    (HO : W.ownsRow base e size v n xs) (hbase : base ≤ W.heap.size) (hl : (n + 1) * bytes ≤ 140737488355328)
    (h : ∀ v1 w1, w1.ownsRow base e size v1 (n + 1) (xs ++ ys) → Turn (fun k => v.ownBlock = some k) W w1 → (v1.ownBlock = v.ownBlock ∨ ∃ b, v1.ownBlock = some b ∧ W.heap.size ≤ b) → K (a.put o.dst v1) w1) :
    o.wp P a (W.alloc (.cells ys.toArray e)) K Q := by
  subst hS
  obtain ⟨i0, hi, hz0, hz1, hz2⟩ := info_parts hinfo
  have hlen : n + 1 ≤ 140737488355328 := Nat.le_trans (Nat.le_mul_of_pos_right _ hb0) hl
  obtain ⟨v1, w1, hrun, hown, hg, _, hat⟩ := run_append_own_at (P := P) (W.alloc (.cells ys.toArray e)) base t o.type e i0 z size bytes ht hi hz0 hz1 hz2 hz hs0 v n xs (HO.alloc _) ⟨W.heap.size, 0, none⟩ 1 1 ys (by rw [hys]; simp)
    (by simpa using World.news_of_block (cs := ys.toArray) (t := e) (fr := (0, 0)) (heap_alloc_new W (.cells ys.toArray e))) h1 (by simp only [maxLen]; omega) hl (by simp; omega)
  unfold Oper.wp execOp
  simp only [ho, resolve, invoke, builtin, Sem.run_bind, Sem.run_pure, Result.andThen_ok, List.map_toArray, List.map_cons, List.map_nil, hs, hx, hrun]
  refine h v1 w1 hown (((Turn.refl _ W).alloc _).grown hg (fun k hk => .inl hk)) ?_
  rcases hat with hat | hat
  · exact .inl hat
  · exact .inr ⟨_, hat, by simp⟩
end
section
variable {w : World} {bd bm bf : Nat} {V : Int → Value} {R : Int} {F : List Int} {s : Ds}
def updV (V : Int → Value) (n : Int) (v : Value) : Int → Value := fun m => if m = n then v else V m
theorem updV_same (V : Int → Value) (n : Int) (v : Value) : updV V n v n = v := if_pos rfl
theorem updV_ne (V : Int → Value) {n m : Int} (v : Value) (h : m ≠ n) : updV V n v m = V m := if_neg h
/-- A page more. -/
theorem Dsk.addPage {w' : World} {s' : Ds} {n : Int} {l : List Pg} {p : Pg} {v1 : Value} {nn : Nat} (H : Dsk w bd bm bf V R F s) (ord : s.fs.Pairwise (fun x y => x.1 < y.1)) (hf : s.find n = some l) (ht : Turn (fun k => k = bd ∨ k = bm ∨ (V n).ownBlock = some k) w w')
    (ho : w'.heap[bd]? = some (dskObj bm bf R s')) (hfs : s'.fs = addPg s.fs n p) (hm : OwnM w' bm nn (mOf (setV (s.fs.map fun x => (x.1, V x.1)) n v1)))
    (hr : w'.ownsRow 0 79 256 v1 (l.length + 1) (pgc (l ++ [p]))) (hor : v1.ownBlock = (V n).ownBlock ∨ ∃ b, v1.ownBlock = some b ∧ w.heap.size ≤ b) :
    Ch w (DS bd bm bf V s) (DR bd R F s') w' := by
  obtain ⟨n1, n2, n3⟩ := H.nes
  have hmem := Ds.find_mem hf
  have hor2 : ∀ x ∈ s.fs, x.1 ≠ n → ∀ k, (V x.1).ownBlock = some k → v1.ownBlock ≠ some k := by
    intro x hx hne k hk e
    rcases hor with h | ⟨b, h, hb⟩
    · rw [h] at e
      exact hne (H.sep x hx _ hmem k hk e)
    · rw [h] at e
      injection e with e
      have := ((H.row x hx).lt k hk).2
      omega
  have hother : ∀ x ∈ s.fs, x.1 ≠ n → ∀ k, (V x.1).ownBlock = some k → ¬ (k = bd ∨ k = bm ∨ (V n).ownBlock = some k) := by
    rintro x hx hne k hk (e | e | e)
    · exact (n3 x hx k hk).1 e
    · exact (n3 x hx k hk).2.1 e
    · exact hne (H.sep x hx _ hmem k hk e)
  refine Dsk.ch (V' := updV V n v1) ⟨ho, ?_, H.flt.turn ht ?_, H.ne, ?_, ?_⟩ (ht.mono ?_) ?_
  · have e : s'.fs.map (fun x => (x.1, updV V n v1 x.1)) = setV (s.fs.map fun x => (x.1, V x.1)) n v1 := by
      rw [hfs]
      unfold addPg setV
      rw [List.map_map, List.map_map]
      refine List.map_congr_left fun x hx => ?_
      dsimp only [Function.comp]
      by_cases e : x.1 = n
      · simp only [e, if_true]
        rw [updV_same]
      · simp only [e, if_false]
        rw [updV_ne _ _ e]
    rw [e]
    have := hm.tight
    have e3 : (setV (s.fs.map fun x => (x.1, V x.1)) n v1).length = s'.fs.length := by rw [← e, List.length_map]
    rw [e3] at this
    exact this
  · rintro (e | e | e)
    · exact n2 e.symm
    · exact H.ne e.symm
    · exact (n3 _ hmem _ e).2.2 rfl
  · intro x hx
    rw [hfs] at hx
    rcases addPg_mem hx with ⟨hx, hne⟩ | ⟨l', hl', rfl⟩
    · rw [updV_ne _ _ hne]
      exact own_turn (H.row x hx) ht (hother x hx hne)
    · dsimp only
      rw [updV_same]
      have := fs_inj ord hl' hmem rfl
      injection this with _ e2
      rw [e2, List.length_append]
      exact hr
  · intro x hx y hy k hk hl
    rw [hfs] at hx hy
    rcases addPg_mem hx with ⟨hx, hne⟩ | ⟨lx, hlx, rfl⟩ <;> rcases addPg_mem hy with ⟨hy, hne2⟩ | ⟨ly, hly, rfl⟩
    · rw [updV_ne _ _ hne] at hk
      rw [updV_ne _ _ hne2] at hl
      exact H.sep x hx y hy k hk hl
    · rw [updV_ne _ _ hne] at hk
      rw [updV_same] at hl
      exact absurd hl (hor2 x hx hne k hk)
    · rw [updV_same] at hk
      rw [updV_ne _ _ hne2] at hl
      exact absurd hk (hor2 y hy hne2 k hl)
    · rfl
  · rintro k (h | h | h)
    · exact .inl h
    · exact .inr (.inl h)
    · exact .inr (.inr (.inr ⟨_, hmem, h⟩))
  · rintro k (rfl | rfl | rfl | ⟨x, hx, hk⟩)
    · exact .inl (.inl rfl)
    · exact .inl (.inr (.inl rfl))
    · exact .inl (.inr (.inr (.inl rfl)))
    · rw [hfs] at hx
      rcases addPg_mem hx with ⟨hx, hne⟩ | ⟨lx, hlx, rfl⟩
      · rw [updV_ne _ _ hne] at hk
        exact .inl (.inr (.inr (.inr ⟨x, hx, hk⟩)))
      · rw [updV_same] at hk
        rcases hor with h | ⟨b, h, hb⟩
        · rw [h] at hk
          exact .inl (.inr (.inr (.inr ⟨_, hmem, hk⟩)))
        · rw [h] at hk
          injection hk with hk
          exact .inr (by omega)
theorem run_page {w : World} {ad : Addr} {p : List Int} (h : At8 w ad p) (hl : p.length = 256) : (Instr.loadAt 79 (.pointer (some ad))).run Try.prog w = .ok (.agg (b8 p).toArray) w := by
  have hc : (loadCells ad 256).run Try.prog w = .ok (b8 p).toArray w := by
    have := run_loadCells_list (P := Try.prog) w ad (b8 p) h.2
    rw [List.length_map, hl] at this
    exact this
  have hagg : (isAgg 79).run Try.prog w = .ok true w := by
    unfold isAgg
    rw [Sem.run_bind, run_underlying Try.underlying79 w]
    rfl
  obtain ⟨i0, hi, hz0, hz1, hz2⟩ := info_parts infP
  simp [Instr.loadAt, Instr.sureAddr, loadVar, Sem.run_bind, hagg, sizeOf, typeInfo, hi, hz1, hc]
end
end Go.Proofs.Ytagknfjgokiidaa
