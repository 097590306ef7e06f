/- the document's disk: New, Read. -/
import Derived.Test.YtagknfjgokiidaaXC
namespace Go.Proofs.Ytagknfjgokiidaa
open Go.RowKit
set_option linter.unusedVariables false
set_option linter.unusedSimpArgs false
set_option maxRecDepth 6000

theorem infI : (Try.prog.info? 3).map (fun i => (i.zero, i.size, i.bytes)) = some (some (.int .i64 0), 1, 8) := by kernel_rfl
theorem xnew_no {w : World} {g : Int} {A : Option Addr} {k c : Nat} (h : g < 0 ∨ 16384 < g) : Calls Try.prog 12 #[.int .i64 g, .slice A k c] w fun e w' => e = .returned (.pointer none) ∧ w' = w := by
  by_cases h1 : g < 0
  · clear h
    go_enter Try.func12, Try.ntmps12
    go_wp2
    go_ret
    exact ⟨by trivial, rfl⟩
  · have h2 : 16384 < g := by omega
    clear h
    go_enter Try.func12, Try.ntmps12
    go_wp2
    go_ret
    exact ⟨by trivial, rfl⟩
set_option maxHeartbeats 1000000 in
theorem xnew_yes {w : World} {g : Int} {A : Option Addr} {k c : Nat} {F : List Int} (h1 : 0 ≤ g) (h2 : g ≤ 16384) (hk : k ≤ 100000) (hr : RdI w A k F) :
    Calls Try.prog 12 #[.int .i64 g, .slice A k c] w fun e w' => ∃ bx, e = .returned (dp bx) ∧ Ch w (fun _ => False) (XR bx g F Ds.new) w' := by
  have b0 : Below w.heap.size w (w.alloc (.cells #[] 3)) := (Below.refl _ _).alloc (Nat.le_refl _) _
  have ho := World.ownsRow_lit (base := w.heap.size) (e := 3) (size := 1) w #[] 0 (Nat.le_refl _) (by simp [maxLen]) (by simp)
  have HR := Lib.hid (And.intro ho (And.intro (hr.below b0) (And.intro hr.1 b0)))
  clear hr b0 ho
  go_enter Try.func12, Try.ntmps12
  go_wp2_with (at_builtin; refine wp_appendL w.heap.size rfl (.tmp 12) (.tmp 13) 22 3 (.int .i64 0) 1 8 rfl Try.underlying22 infI rfl (by omega) (by omega) (.slice (some ⟨w.heap.size, 0, none⟩) 0 0) 0 [] rfl A k c (F.map (Value.int .i64)) rfl (by simp [HR.out.2.2.1]) (fun h => by obtain ⟨ad, e, _, hc⟩ := HR.out.2.1.2.2.2 h; exact ⟨ad, e, fun j u hu => by rw [List.getElem?_map] at hu; cases hx : F[j]? with | none => rw [hx] at hu; cases hu | some x => rw [hx] at hu; injection hu with hu; rw [← hu]; exact hc j x hx⟩) (by intro u hu; obtain ⟨x, _, rfl⟩ := List.mem_map.1 hu; rfl) HR.out.1 (by simp) (by omega) ?_; intro v1 w1 h1 t1 _; rw [Nat.zero_add, List.nil_append] at h1; obtain ⟨A1, c1, rfl⟩ := own_slice h1)
  go_ret
  have b1 := below_turn HR.out.2.2.2 t1 (by simp) (fun k hk => by simp [Value.ownBlock] at hk; omega)
  have hz := b1.size
  refine ⟨w1.heap.size, by trivial, XS w1.heap.size (.slice A1 k c1) (.slice none 0 0) (fun _ => .slice none 0 0) (fun _ => []) Ds.new, ⟨_, _, _, _, ⟨?_, ?_, ⟨rfl, .inl ⟨rfl, rfl⟩⟩, by simp [Ds.new], by simp [Ds.new], by simp [Ds.new]⟩, rfl⟩, Turn.of_below (b1.alloc hz _) _, ?_⟩
  · exact heap_alloc_new _ _
  · have e : F.length = k := HR.out.2.2.1
    rw [e]
    exact own_lower (h1.alloc _) (Nat.zero_le _)
  · rintro j (rfl | h | h | ⟨x, hx, _⟩ | ⟨x, hx, _⟩)
    · exact .inr hz
    · exact .inr (own_ge h1 h)
    · simp [Value.ownBlock] at h
    · simp [Ds.new] at hx
    · simp [Ds.new] at hx
section
variable {w : World} {bx : Nat} {FV LV : Value} {P : Int → Value} {Hd : Int → List Value} {R : Int} {F : List Int} {s : Ds}
theorem Rsk.cellL {g c : Nat} (H : Rsk w bx FV LV P Hd R F s) (e : LV = .slice (some ⟨g, 0, none⟩) s.fs.length c) {i : Nat} {x : Int × List Pg} (h : s.fs[i]? = some x) : w.cell? ⟨g, i * 2 + 1, none⟩ = some (P x.1) ∧ w.frozen? ⟨g, i * 2 + 1, none⟩ = false := by
  obtain ⟨g', c', e', _, _, h2, h3⟩ := H.at_ h
  rw [e] at e'
  injection e' with e1 _ _
  injection e1 with e1
  injection e1 with e1 _ _
  subst e1
  exact ⟨h2, h3⟩
theorem Rsk.shapeL (H : Rsk w bx FV LV P Hd R F s) {i : Nat} {x : Int × List Pg} (h : s.fs[i]? = some x) : ∃ g c, LV = .slice (some ⟨g, 0, none⟩) s.fs.length c := by
  obtain ⟨g', c', e', _⟩ := H.at_ h
  exact ⟨g', c', e'⟩
/-- The pages of a file: the row of their slices, and each. -/
theorem Rsk.shapeP (H : Rsk w bx FV LV P Hd R F s) {x : Int × List Pg} (hx : x ∈ s.fs) {j : Nat} {p : Pg} (hp : x.2[j]? = some p) :
    ∃ g c ad c2, P x.1 = .slice (some ⟨g, 0, none⟩) x.2.length c ∧ (Hd x.1)[j]? = some (.slice (some ad) 256 c2) := by
  obtain ⟨v, hv, ho⟩ := H.page x hx j p hp
  obtain ⟨A, c, e⟩ := own_slice (H.prow x hx)
  have hr := H.prow x hx
  rw [e] at hr
  obtain ⟨g, rfl, _⟩ := own_at1 hr hv
  obtain ⟨B, c2, rfl⟩ := own_slice ho
  rcases ho.2 with ⟨e1, e2⟩ | ⟨g', cap, cur, e1, _⟩
  · omega
  · injection e1 with e1 _ _
    rw [e1] at hv
    exact ⟨g, c, _, c2, e, hv⟩
theorem Rsk.cellP {g c : Nat} {ad : Addr} {c2 : Nat} (H : Rsk w bx FV LV P Hd R F s) {x : Int × List Pg} (hx : x ∈ s.fs) {j : Nat} {p : Pg} (hp : x.2[j]? = some p) (e : P x.1 = .slice (some ⟨g, 0, none⟩) x.2.length c) (hv : (Hd x.1)[j]? = some (.slice (some ad) 256 c2)) :
    w.cell? ⟨g, j, none⟩ = some (.slice (some ad) 256 c2) ∧ At8 w ad p := by
  have hr := H.prow x hx
  rw [e] at hr
  obtain ⟨g', e', _, hc⟩ := own_at1 hr hv
  injection e' with e'
  injection e' with e'
  subst e'
  obtain ⟨v, hv', ho⟩ := H.page x hx j p hp
  rw [hv] at hv'
  injection hv' with hv'
  rw [← hv'] at ho
  refine ⟨hc, ?_⟩
  rcases ho.2 with ⟨e1, e2⟩ | ⟨g2, cap, cur, e1, hb, hg, hnc, hm, _⟩
  · omega
  · injection e1 with e1 _ _
    injection e1 with e1
    subst e1
    exact ⟨lt_of_heap hg, ho.cells (g := g2) rfl⟩
end
end Go.Proofs.Ytagknfjgokiidaa
