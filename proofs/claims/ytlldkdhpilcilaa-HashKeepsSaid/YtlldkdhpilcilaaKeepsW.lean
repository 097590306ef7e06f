/- HashKeeps: the walk. -/
import Derived.Test.YtlldkdhpilcilaaKeeps
namespace Go.Proofs.Ytlldkdhpilcilaa
open Go.RowKit

theorem firstE_zero {cs : List Int} : ∀ {rows : List (List V)}, firstE cs rows = 0 → ∀ r ∈ rows, rowE cs r = 0
  | [], _, r, hr => by cases hr
  | q :: rows, h, r, hr => by
    unfold firstE at h
    by_cases e : rowE cs q = 0
    · rw [if_pos e] at h
      rcases List.mem_cons.1 hr with rfl | hr
      · exact e
      · exact firstE_zero h r hr
    · rw [if_neg e] at h
      exact absurd h e
theorem rowE_zero {cs : List Int} {r : List V} (h : rowE cs r = 0) : pickOk r cs = true ∧ cs.length ≤ 32 ∧ rowOk (pickR r cs) = true := by
  unfold rowE at h
  split at h
  · rename_i h1
    rw [Bool.and_eq_true, decide_eq_true_eq] at h1
    split at h
    · rename_i h2; exact ⟨h1.1, h1.2, h2⟩
    · cases h
  · cases h
def itemsOf (hds : List Value) (rows : List (List V)) : List It := hds.zip rows
def numbered (seed level F : Int) (cs : List Int) (hds : List Value) (rows : List (List V)) : List (It × Nat) := (itemsOf hds rows).map fun it => (it, (partN seed level F (pickR it.2 cs)).toNat)
theorem numbered_fst (seed level F : Int) (cs : List Int) (hds : List Value) (rows : List (List V)) : (numbered seed level F cs hds rows).map Prod.fst = itemsOf hds rows := by
  unfold numbered
  rw [List.map_map]
  exact List.map_id _
theorem numbered_zip (seed level F : Int) (cs : List Int) : ∀ (hds : List Value) (rows : List (List V)), (numbered seed level F cs hds rows).map (fun x => (x.1.1, x.2)) = hds.zip (numsOf seed level F cs rows)
  | [], _ => by simp [numbered, itemsOf]
  | _ :: _, [] => by simp [numbered, itemsOf, numsOf]
  | h :: hds, r :: rows => by
    have := numbered_zip seed level F cs hds rows
    simp only [numbered, itemsOf, numsOf, List.zip_cons_cons, List.map_cons] at this ⊢
    rw [this]
theorem RdL.its {w : World} {A : Option Addr} {n : Nat} {hds : List Value} {rows : List (List V)} (h : RdL w A n hds rows) : RdIts w (itemsOf hds rows) ∧ (itemsOf hds rows).map Prod.fst = hds ∧ (itemsOf hds rows).map Prod.snd = rows := by
  have l1 := h.hd.1
  have l2 := h.len
  refine ⟨?_, List.map_fst_zip (by omega), List.map_snd_zip (by omega)⟩
  intro x hx
  obtain ⟨i, hi, rfl⟩ := List.getElem_of_mem hx
  have hi2 : i < rows.length := by simp [itemsOf] at hi; omega
  obtain ⟨B, m, c, e, hr⟩ := h.row i _ (List.getElem?_eq_getElem hi2)
  have hi1 : i < hds.length := by omega
  rw [List.getElem?_eq_getElem hi1] at e
  exact ⟨B, m, c, by simpa [itemsOf] using Option.some.inj e, by simpa [itemsOf] using hr⟩
/-- What the loops need of the parts. -/
theorem parts_facts {w : World} {A : Option Addr} {n F : Nat} {seed level : Int} {cs : List Int} {hds : List Value} {rows : List (List V)} (h : RdL w A n hds rows) (hE : firstE cs rows = 0) (h3 : 1 ≤ F) (h4 : F ≤ 64) :
    ∃ P : List (List It), P.length = F ∧ partsOf F (hds.zip (numsOf seed level F cs rows)) = P.map (List.map Prod.fst) ∧ P.flatten.Perm (itemsOf hds rows) ∧
      ∀ (i : Nat) q, P[i]? = some q → ∀ it ∈ q, it ∈ itemsOf hds rows ∧ rowE cs it.2 = 0 ∧ partN seed level F (pickR it.2 cs) = i := by
  refine ⟨partsI F (numbered seed level F cs hds rows), ?_, ?_, ?_, ?_⟩
  · have := congrArg List.length (partsI_map F (numbered seed level F cs hds rows))
    rw [List.length_map, partsOf_length] at this
    exact this
  · rw [partsI_map, numbered_zip]
  · have := partsI_perm F (numbered seed level F cs hds rows) (by
      intro x hx
      obtain ⟨it, _, rfl⟩ := List.mem_map.1 hx
      have := part_range seed level F (pickR it.2 cs) (by omega) (by omega)
      dsimp only
      exact (Int.toNat_lt this.1).2 this.2)
    rwa [numbered_fst] at this
  · intro i q hq it hit
    have := partsI_num F _ i q hq it hit
    obtain ⟨it', hm, e⟩ := List.mem_map.1 this
    injection e with e1 e2
    subst e1
    have hr : it'.2 ∈ rows := by
      have := List.mem_map_of_mem (f := Prod.snd) hm
      rwa [h.its.2.2] at this
    have hp := part_range seed level F (pickR it'.2 cs) (by omega) (by omega)
    exact ⟨hm, firstE_zero hE _ hr, by rw [← e2]; exact (Int.toNat_of_nonneg hp.1).symm⟩
end Go.Proofs.Ytlldkdhpilcilaa
