/- PageAdds: more. -/
import Derived.Test.YtlldkdhpilcilaaPRoom
namespace Go.Proofs.Ytlldkdhpilcilaa
open Go.RowKit
set_option linter.unusedVariables false
set_option linter.unusedSimpArgs false

section
variable {P : Program} {ops : Array Oper} {o : Oper} {a : Act} {K : Act → World → Prop} {Q : Exit → Act → World → Prop}
theorem op_appendA {W : World} (base : Nat) (s x : Operand) (t e : TypeId) (z : Value) (bytes : Nat)
    (ho : o.op = .call { callee := .builtin .append, args := #[s, x], argTypes := #[t, t] })
    (ht : P.underlying t = some (.slice e)) (hinfo : (P.info? e).map (fun i => (i.zero, i.size, i.bytes)) = some (some z, 1, bytes)) (hz : z.cells.size = 1) (hb0 : 0 < bytes)
    (v : Value) (n : Nat) (xs : List Value) (hs : a.eval s = v) (A : Option Addr) (m c : Nat) (ys : List Value) (hx : a.eval x = .slice A m c) (hys : ys.length = m)
    (hr : 0 < m → ∃ ad, A = some ad ∧ ∀ j u, ys[j]? = some u → W.cell? (ad.add j) = some u) (h1 : ∀ u ∈ ys, u.oneCell' = true)
    (HO : W.ownsRow base e 1 v n xs) (hbase : base ≤ W.heap.size) (hl : (n + m) * bytes ≤ 140737488355328)
    (h : ∀ v1 w1, w1.ownsRow base e 1 v1 (n + m) (xs ++ ys) → Turn (fun k => v.ownBlock = some k) W w1 → K (a.put o.dst v1) w1) : o.wp P a W K Q := by
  obtain ⟨i0, hi, hz0, hz1, hz2⟩ := info_parts hinfo
  have hlen : n + m ≤ 140737488355328 := Nat.le_trans (Nat.le_mul_of_pos_right _ hb0) hl
  rcases Nat.eq_zero_or_pos m with h0 | h0
  · subst h0
    obtain rfl : ys = [] := List.eq_nil_of_length_eq_zero hys
    rcases A with _ | ad
    · have hrun := run_append_nilsrc (P := P) W base t o.type e i0 1 ht hi v n xs HO c
      unfold Oper.wp execOp
      simp only [ho, resolve, invoke, builtin, Sem.run_bind, Sem.run_pure, Result.andThen_ok, List.map_toArray, List.map_cons, List.map_nil, hs, hx, hrun]
      exact h _ _ (by simpa using HO) (Turn.refl _ _)
    · obtain ⟨v1, w1, hrun, hown, hg, _, _⟩ := run_append_own_at (P := P) W base t o.type e i0 z 1 bytes ht hi hz0 hz1 hz2 hz (by omega) v n xs HO ad 0 c [] (by simp) (by simp) (by simp) (by simp only [maxLen]; omega) hl hbase
      unfold Oper.wp execOp
      simp only [ho, resolve, invoke, builtin, Sem.run_bind, Sem.run_pure, Result.andThen_ok, List.map_toArray, List.map_cons, List.map_nil, hs, hx, hrun]
      exact h v1 w1 hown ((Turn.refl _ W).grown hg (fun k hk => .inl hk))
  · obtain ⟨ad, rfl, hc⟩ := hr h0
    obtain ⟨v1, w1, hrun, hown, hg, _, _⟩ := run_append_own_at (P := P) W base t o.type e i0 z 1 bytes ht hi hz0 hz1 hz2 hz (by omega) v n xs HO ad m c ys (by rw [hys, Nat.mul_one]) hc h1 (by simp only [maxLen]; omega) hl hbase
    unfold Oper.wp execOp
    simp only [ho, resolve, invoke, builtin, Sem.run_bind, Sem.run_pure, Result.andThen_ok, List.map_toArray, List.map_cons, List.map_nil, hs, hx, hrun]
    exact h v1 w1 hown ((Turn.refl _ W).grown hg (fun k hk => .inl hk))
end
theorem own_fresh {W : World} {S base : Nat} {e : TypeId} (h : W.heap[S]? = some (.cells #[] e (0, 0))) (hb : base ≤ S) : W.ownsRow base e 1 (.slice (some ⟨S, 0, none⟩) 0 0) 0 [] :=
  ⟨rfl, .inr ⟨S, 0, #[], rfl, hb, h, by omega, by simp [maxLen], rfl, rfl⟩⟩
/-- Headers of rows that came in. -/
structure HsOf (w : World) (hs : List Value) (g : Rows) : Prop where
  len : hs.length = g.length
  row : ∀ (i : Nat) r, g[i]? = some r → ∃ B m c, hs[i]? = some (Value.slice B m c) ∧ RdV w B m r
theorem HsOf.nil (w : World) : HsOf w [] [] := ⟨rfl, fun i r h => by simp at h⟩
theorem HsOf.snoc {w : World} {hs : List Value} {g : Rows} (h : HsOf w hs g) {B : Option Addr} {m c : Nat} {r : List V} (hr : RdV w B m r) : HsOf w (hs ++ [.slice B m c]) (g ++ [r]) := by
  refine ⟨by simp [h.len], fun i s hs => ?_⟩
  rcases Nat.lt_or_ge i g.length with hl | hl
  · rw [List.getElem?_append_left hl] at hs
    obtain ⟨B', m', c', e, h2⟩ := h.row i s hs
    exact ⟨B', m', c', by rw [List.getElem?_append_left (by rw [h.len]; exact hl)]; exact e, h2⟩
  · rw [List.getElem?_append_right hl] at hs
    rcases hz : i - g.length with _ | j
    · rw [hz] at hs
      simp at hs
      subst hs
      exact ⟨B, m, c, by rw [List.getElem?_append_right (by rw [h.len]; exact hl), h.len, hz]; rfl, hr⟩
    · rw [hz] at hs
      simp at hs
theorem HsOf.rdl {w W : World} {base n c : Nat} {A : Option Addr} {hs : List Value} {g : Rows} (h : HsOf w hs g) (ho : W.ownsRow base 24 1 (.slice A n c) n hs) (b : Below w.heap.size w W) : RdL W A n hs g := by
  have h1 := (Rd1.of_own ho).2
  exact ⟨h1, by rw [← h.len]; exact h1.1, fun i r hi => by
    obtain ⟨B, m, c, e, h2⟩ := h.row i r hi
    exact ⟨B, m, c, e, h2.below b⟩⟩
theorem HsOf.one {w : World} {hs : List Value} {g : Rows} (h : HsOf w hs g) : ∀ u ∈ hs, u.oneCell' = true := by
  intro u hu
  obtain ⟨i, hi, rfl⟩ := List.getElem_of_mem hu
  obtain ⟨B, m, c, e, _⟩ := h.row i _ (List.getElem?_eq_getElem (show i < g.length by rw [← h.len]; exact hi))
  rw [List.getElem?_eq_getElem hi] at e
  rw [Option.some.inj e]
  rfl
/-- The worlds in which 'append(append([]T{}, x...), y)' may append x first: the empty row and y's box are laid in either order. -/
theorem more_worlds (W : World) (y : Value) (base : Nat) (hb : base ≤ W.heap.size) :
    (W.alloc (.cells #[] 24)).ownsRow base 24 1 (.slice (some ⟨W.heap.size, 0, none⟩) 0 0) 0 [] ∧
    ((W.alloc (.cells #[] 24)).alloc (.cells #[y] 24)).ownsRow base 24 1 (.slice (some ⟨W.heap.size, 0, none⟩) 0 0) 0 [] ∧
    ((W.alloc (.cells #[y] 24)).alloc (.cells #[] 24)).ownsRow base 24 1 (.slice (some ⟨W.heap.size + 1, 0, none⟩) 0 0) 0 [] :=
  ⟨own_fresh (heap_alloc_new _ _) hb, own_fresh (heap_alloc2_old _ _ _) hb, own_fresh (heap_alloc2_new _ _ _) (by omega)⟩
end Go.Proofs.Ytlldkdhpilcilaa
