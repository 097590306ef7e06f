/- HashKeeps: Sort for every length; the parts, plain. -/
import Derived.Test.YtlldkdhpilcilaaHSplitsW
import Derived.Test.YtlldkdhpilcilaaSort
namespace Go.Proofs.Ytlldkdhpilcilaa
open Go.RowKit

theorem sort_walk : ∀ n, n ≤ 100000 → ∀ (w : World) (A : Option Addr) (c : Nat) (its : List It), Rd1 w A n (its.map Prod.fst) → RdIts w its → n ≤ c → Calls Try.prog 28 #[.slice A n c] w (SortPost w n its) := by
  intro n
  induction n using Nat.strongRecOn with
  | ind n ih =>
    intro hn w A c its hr hi hc
    by_cases h : n < 2
    · exact sort_small its hr hi h
    · exact sort_big its hr hi (by omega) hc hn (fun m hm W B c' js h1 h2 h3 => ih m hm (by omega) W B c' js h1 h2 h3)
theorem samelist_rows {w : World} {A A2 : Option Addr} {n c c2 : Nat} (xs ys : List It) (ha : Rd1 w A n (xs.map Prod.fst)) (hb : Rd1 w A2 n (ys.map Prod.fst)) (hx : RdIts w xs) (hy : RdIts w ys) (he : xs.map Prod.snd = ys.map Prod.snd) :
    Calls Try.prog 27 #[.slice A n c, .slice A2 n c2] w fun e w' => e = .returned (.bool true) ∧ Below w.heap.size w w' := by
  have hn := ha.2.1
  have hlx : xs.length = n := by simpa using ha.1
  have hly : ys.length = n := by simpa using hb.1
  have HLX := Lib.hid (And.intro hlx hly)
  clear hlx hly
  go_enter Try.func27, Try.ntmps27
  go_wp2
  go_loopw [5] (fun i wr => ∃ k : Nat, k ≤ n ∧ i = .int .i64 k ∧ Below w.heap.size w wr) (fun i _ => n - (intOf i).toNat)
  case atStart => exact ⟨0, by omega, rfl, Below.refl _ _⟩
  case round =>
    obtain ⟨k, hk, rfl, bel⟩ := hrel
    by_cases hlt : k < n
    · obtain ⟨ad, rfl, had, hc⟩ := (ha.below bel).at2 hlt
      obtain ⟨ad2, rfl, had2, hc2⟩ := (hb.below bel).at2 hlt
      have h1 : k < xs.length := by have := HLX.out.1; omega
      have h2 : k < ys.length := by have := HLX.out.2; omega
      obtain ⟨B, m, cc, e1, hrv⟩ := (hx.below bel) xs[k] (List.getElem_mem h1)
      obtain ⟨B2, m2, cc2, e2, hrv2⟩ := (hy.below bel) ys[k] (List.getElem_mem h2)
      have hs : xs[k].2 = ys[k].2 := by
        have := congrArg (fun l => l[k]?) he
        simpa [h1, h2] using this
      rw [List.getElem?_map, List.getElem?_eq_getElem h1, Option.map_some, e1] at hc
      rw [List.getElem?_map, List.getElem?_eq_getElem h2, Option.map_some, e2] at hc2
      rw [← hs] at hrv2
      generalize xs[k].2 = r at hrv hrv2
      have em : m2 = m := by have := hrv.len; have := hrv2.len; omega
      subst em
      have HS := Lib.hid (fun (W : World) (b : Below wr.heap.size wr W) => same_same (c := cc) (c2 := cc2) r (hrv.below b) (hrv2.below b))
      have HB0 := Lib.hid (below_drew (Below.refl wr.heap.size wr))
      clear ha hb hx hy he hrv hrv2 e1 e2 hs h1 h2
      go_wp2
      go_region_with (go_at_call 42; refine (HS.out _ HB0.out).mono ?_; rintro e w1 ⟨rfl, b1⟩)
      all_goals
        have b2 : Below w.heap.size w w1 := (below_drew bel).trans (b1.mono bel.size)
        go_wp2
        go_roundw
      all_goals first
        | exact ⟨k + 1, by omega, by go_num, b2⟩
        | (simp [intOf]; omega)
    · clear ha hb hx hy he
      go_wp2
      go_ret
      exact ⟨by trivial, bel⟩

/-! ### parts as items: plain -/
def putI (ps : List (List It)) (x : It × Nat) : List (List It) := ps.set x.2 (ps.getD x.2 [] ++ [x.1])
def partsI (F : Nat) (xs : List (It × Nat)) : List (List It) := xs.foldl putI (List.replicate F [])
theorem partsI_map (F : Nat) (xs : List (It × Nat)) : (partsI F xs).map (List.map Prod.fst) = partsOf F (xs.map fun x => (x.1.1, x.2)) := by
  have : ∀ (xs : List (It × Nat)) (ps : List (List It)), (xs.foldl putI ps).map (List.map Prod.fst) = (xs.map fun x => (x.1.1, x.2)).foldl putP (ps.map (List.map Prod.fst)) := by
    intro xs
    induction xs with
    | nil => intro ps; rfl
    | cons x xs ih =>
      intro ps
      rw [List.foldl_cons, ih, List.map_cons, List.foldl_cons]
      congr 1
      unfold putI putP
      rw [List.map_set]
      dsimp only
      congr 1
      rw [List.map_append, List.getD_eq_getElem?_getD, List.getD_eq_getElem?_getD, List.getElem?_map]
      cases ps[x.2]? <;> simp
  unfold partsI partsOf
  rw [this]
  simp
theorem set_flatten (ps : List (List It)) (x : It) : ∀ i, i < ps.length → (ps.set i (ps.getD i [] ++ [x])).flatten.Perm (ps.flatten ++ [x]) := by
  induction ps with
  | nil => intro i h; simp at h
  | cons p ps ih =>
    intro i h
    cases i with
    | zero =>
      simp only [List.set_cons_zero, List.getD_cons_zero, List.flatten_cons, List.append_assoc]
      exact List.Perm.append_left _ List.perm_append_comm
    | succ i =>
      simp only [List.set_cons_succ, List.getD_cons_succ, List.flatten_cons, List.append_assoc]
      exact List.Perm.append_left _ (ih i (by simpa using h))
theorem partsI_perm (F : Nat) (xs : List (It × Nat)) (h : ∀ x ∈ xs, x.2 < F) : (partsI F xs).flatten.Perm (xs.map Prod.fst) := by
  have : ∀ (xs : List (It × Nat)) (ps : List (List It)), (∀ x ∈ xs, x.2 < ps.length) → (xs.foldl putI ps).flatten.Perm (ps.flatten ++ xs.map Prod.fst) := by
    intro xs
    induction xs with
    | nil => intro ps _; simp
    | cons x xs ih =>
      intro ps h
      rw [List.foldl_cons]
      refine (ih (putI ps x) (by intro y hy; simpa [putI] using h y (List.mem_cons_of_mem _ hy))).trans ?_
      have := (set_flatten ps x.1 x.2 (h x List.mem_cons_self)).append_right (xs.map Prod.fst)
      simpa [putI] using this
  have := this xs (List.replicate F []) (by simpa using h)
  simpa [partsI] using this
theorem partsI_num (F : Nat) (xs : List (It × Nat)) : ∀ (i : Nat) p, (partsI F xs)[i]? = some p → ∀ it ∈ p, (it, i) ∈ xs := by
  have : ∀ (xs : List (It × Nat)) (ps : List (List It)) (S : List (It × Nat)), (∀ (i : Nat) p, ps[i]? = some p → ∀ it ∈ p, (it, i) ∈ S) → ∀ (i : Nat) p, (xs.foldl putI ps)[i]? = some p → ∀ it ∈ p, (it, i) ∈ S ++ xs := by
    intro xs
    induction xs with
    | nil => intro ps S h i p hp it hit; simpa using h i p hp it hit
    | cons x xs ih =>
      intro ps S h i p hp it hit
      have h2 : ∀ (i : Nat) p, (putI ps x)[i]? = some p → ∀ it ∈ p, (it, i) ∈ S ++ [x] := by
        intro i p hp it hit
        unfold putI at hp
        by_cases e : x.2 = i
        · subst e
          have hl : x.2 < ps.length := by have := (List.getElem?_eq_some_iff.1 hp).1; simpa using this
          rw [List.getElem?_set_self hl] at hp
          obtain rfl := Option.some.inj hp
          rcases List.mem_append.1 hit with hit | hit
          · rw [List.getD_eq_getElem?_getD, List.getElem?_eq_getElem hl] at hit
            exact List.mem_append_left _ (h x.2 _ (List.getElem?_eq_getElem hl) it hit)
          · obtain rfl := List.mem_singleton.1 hit
            simp
        · rw [List.getElem?_set_ne e] at hp
          exact List.mem_append_left _ (h i p hp it hit)
      have := ih (putI ps x) (S ++ [x]) h2 i p hp it hit
      simpa using this
  intro i p hp it hit
  have := this xs (List.replicate F []) [] (by
    intro i p hp it hit
    have := List.eq_of_mem_replicate (List.mem_of_getElem? hp)
    subst this
    simp at hit) i p hp it hit
  simpa using this
end Go.Proofs.Ytlldkdhpilcilaa
