/- DiskKeeps: plain data. -/
import Derived.Test.YtagknfjgokiidaaDD
namespace Go.Proofs.Ytagknfjgokiidaa
open Go.RowKit Go.Maps
set_option linter.unusedVariables false
set_option linter.unusedSimpArgs false
set_option maxRecDepth 6000

def cS : Nat → Ds
  | 0 => Ds.new
  | i + 1 => (cS i).create
theorem cS_eq : ∀ i, i ≤ 3 → (cS i).made = i ∧ (cS i).fs.length = i ∧ (cS i).createE = 0 ∧ DOk 16384 (cS i)
  | 0, _ => ⟨rfl, rfl, rfl, DOk.new (by decide) (by decide)⟩
  | i + 1, h => by
    obtain ⟨h1, h2, h3, h4⟩ := cS_eq i (by omega)
    have e : cS (i + 1) = ⟨(cS i).made + 1, (cS i).deeds, (cS i).reads, (cS i).writes, (cS i).used, (cS i).peak, (cS i).fs ++ [((cS i).made + 1, [])]⟩ := by
      show (cS i).create = _
      unfold Ds.create
      rw [if_pos h3]
    refine ⟨by rw [e]; dsimp only; omega, by rw [e]; simp [h2], ?_, h4.create⟩
    rw [e]
    unfold Ds.createE
    dsimp only
    rw [if_neg (by simp [h2]; omega)]
def kk (x : Int) : Int := (x.tmod 3 + 3).tmod 3
def byteN (i : Nat) : Int := IntKind.u8.wrap (i : Int)
theorem byteN_b (i : Nat) : 0 ≤ byteN i ∧ byteN i ≤ 255 := by
  unfold byteN
  rw [IntKind.wrap_u8]
  omega
/-- The bytes that went to the file k, of the first i. -/
def wB (l : List Int) (k : Int) : Nat → List Int
  | 0 => []
  | i + 1 => wB l k i ++ if (l[i]?.map kk) = some k then [byteN i] else []
def kS (l : List Int) (i : Nat) : Ds := ⟨3, i, 0, i, i, i, [(1, (wB l 0 i).map rp), (2, (wB l 1 i).map rp), (3, (wB l 2 i).map rp)]⟩
theorem wB_hit {l : List Int} {i : Nat} {x k : Int} (h : l[i]? = some x) (hk : kk x = k) : wB l k (i + 1) = wB l k i ++ [byteN i] := by
  rw [wB, h]
  simp [hk]
theorem wB_miss {l : List Int} {i : Nat} {x k : Int} (h : l[i]? = some x) (hk : kk x ≠ k) : wB l k (i + 1) = wB l k i := by
  rw [wB, h]
  simp [hk]
theorem wB_len (l : List Int) (k : Int) : ∀ i, (wB l k i).length ≤ i
  | 0 => by simp [wB]
  | i + 1 => by
    have := wB_len l k i
    rw [wB, List.length_append]
    split <;> simp <;> omega
theorem wB_b (l : List Int) (k : Int) : ∀ i, ∀ b ∈ wB l k i, 0 ≤ b ∧ b ≤ 255
  | 0 => by simp [wB]
  | i + 1 => by
    intro b hb
    rw [wB] at hb
    rcases List.mem_append.1 hb with h | h
    · exact wB_b l k i b h
    · split at h
      · rw [List.mem_singleton.1 h]; exact byteN_b i
      · simp at h
theorem kS_0 (l : List Int) : kS l 0 = cS 3 := rfl
theorem kS_step {l : List Int} {i : Nat} {x k : Int} (hi : i ≤ 300) (h : l[i]? = some x) (hk : kk x = k) (h3 : k = 0 ∨ k = 1 ∨ k = 2) :
    (kS l i).appE 16384 [] (k + 1) (rp (byteN i)) = 0 ∧ (kS l i).app 16384 [] (k + 1) (rp (byteN i)) = kS l (i + 1) := by
  have hE : (kS l i).appE 16384 [] (k + 1) (rp (byteN i)) = 0 := by
    unfold Ds.appE
    rw [if_neg (by rw [rp_len]; omega)]
    have hf : ∃ v, (kS l i).find (k + 1) = some v := by
      rcases h3 with rfl | rfl | rfl <;> exact ⟨_, rfl⟩
    obtain ⟨v, hf⟩ := hf
    rw [hf]
    dsimp only
    rw [if_neg (by unfold kS; dsimp only; omega)]
    rfl
  refine ⟨hE, ?_⟩
  unfold Ds.app
  rw [if_pos hE]
  have hmx : max (i : Int) ((i : Int) + 1) = ((i + 1 : Nat) : Int) := by omega
  have hi1 : (i : Int) + 1 = ((i + 1 : Nat) : Int) := by omega
  rcases h3 with rfl | rfl | rfl
  · have e0 := wB_hit h hk
    have e1 := wB_miss (k := 1) h (by rw [hk]; decide)
    have e2 := wB_miss (k := 2) h (by rw [hk]; decide)
    unfold kS
    rw [e0, e1, e2]
    dsimp only
    rw [hmx, hi1]
    simp [addPg]
  · have e0 := wB_miss (k := 0) h (by rw [hk]; decide)
    have e1 := wB_hit h hk
    have e2 := wB_miss (k := 2) h (by rw [hk]; decide)
    unfold kS
    rw [e0, e1, e2]
    dsimp only
    rw [hmx, hi1]
    simp [addPg]
  · have e0 := wB_miss (k := 0) h (by rw [hk]; decide)
    have e1 := wB_miss (k := 1) h (by rw [hk]; decide)
    have e2 := wB_hit h hk
    unfold kS
    rw [e0, e1, e2]
    dsimp only
    rw [hmx, hi1]
    simp [addPg]
theorem tmod5 (x : Int) : x.tmod 3 = -2 ∨ x.tmod 3 = -1 ∨ x.tmod 3 = 0 ∨ x.tmod 3 = 1 ∨ x.tmod 3 = 2 := by
  have h1 := Int.tmod_lt_of_pos x (b := 3) (by decide)
  have h2 := Int.lt_tmod_of_pos x (b := 3) (by decide)
  omega
theorem kk_r {x r : Int} (h : x.tmod 3 = r) : kk x = (r + 3).tmod 3 := by unfold kk; rw [h]
theorem kk_3 (x : Int) : kk x = 0 ∨ kk x = 1 ∨ kk x = 2 := by
  rcases tmod5 x with h | h | h | h | h <;> rw [kk_r h] <;> decide
theorem kS_ok {l : List Int} : ∀ {i : Nat}, i ≤ l.length → i ≤ 300 → DOk 16384 (kS l i)
  | 0, _, _ => by rw [kS_0]; exact (cS_eq 3 (by omega)).2.2.2
  | i + 1, h1, h2 => by
    have hx : l[i]? = some (l[i]'(by omega)) := List.getElem?_eq_getElem _
    rw [← (kS_step (by omega) hx rfl (kk_3 _)).2]
    exact (kS_ok (by omega) (by omega)).app _ (rp_b (byteN_b i))
theorem wB_sum {l : List Int} : ∀ {i : Nat}, i ≤ l.length → (wB l 0 i).length + (wB l 1 i).length + (wB l 2 i).length = i
  | 0, _ => rfl
  | i + 1, h => by
    have hx : l[i]? = some (l[i]'(by omega)) := List.getElem?_eq_getElem _
    have ih := wB_sum (l := l) (i := i) (by omega)
    rcases kk_3 (l[i]'(by omega)) with e | e | e
    · rw [wB_hit hx e, wB_miss (k := 1) hx (by rw [e]; decide), wB_miss (k := 2) hx (by rw [e]; decide), List.length_append]
      simp
      omega
    · rw [wB_miss (k := 0) hx (by rw [e]; decide), wB_hit hx e, wB_miss (k := 2) hx (by rw [e]; decide), List.length_append]
      simp
      omega
    · rw [wB_miss (k := 0) hx (by rw [e]; decide), wB_miss (k := 1) hx (by rw [e]; decide), wB_hit hx e, List.length_append]
      simp
      omega
end Go.Proofs.Ytagknfjgokiidaa
