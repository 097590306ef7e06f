/- rows in parts. -/
import Derived.Test.YtlldkdhpilcilaaPick
namespace Go.Proofs.Ytlldkdhpilcilaa
open Go.RowKit

theorem own_ne_typed {w : World} {base : Nat} {e t : TypeId} {size n : Nat} {v : Value} {xs : List Value} (h : w.ownsRow base e size v n xs) {g : Nat} {cs : Array Value} (hg : w.heap[g]? = some (.cells cs t (0, 0))) (hne : e ≠ t) : ∀ k, v.ownBlock = some k → ¬ k = g := by
  intro k hk e'
  subst e'
  rcases h.2 with ⟨rfl, _⟩ | ⟨g', cap', cur, rfl, _, hg', _⟩
  · cases hk
  · obtain rfl : g' = k := by simpa [Value.ownBlock] using hk
    rw [hg] at hg'
    injection hg' with hg'
    injection hg' with _ ht
    exact hne ht.symm
theorem hashB_nonneg (s : Int) (bs : List Int) : 0 ≤ hashB s bs := by
  unfold hashB hfin bits
  simp only [IntKind.wrap]
  exact Int.emod_nonneg _ (by decide)
theorem part_range (seed level fan : Int) (r : List V) (h1 : 1 ≤ fan) (h2 : fan ≤ 64) : 0 ≤ partN seed level fan r ∧ partN seed level fan r < fan := by
  have h0 := hashB_nonneg (seedAt seed level) (encR r)
  unfold partN
  rw [Int.tmod_eq_emod_of_nonneg h0]
  have a := Int.emod_nonneg (hashB (seedAt seed level) (encR r)) (show fan ≠ 0 by omega)
  have b := Int.emod_lt_of_pos (hashB (seedAt seed level) (encR r)) (show 0 < fan by omega)
  have e : wrap64 (hashB (seedAt seed level) (encR r) % fan) = hashB (seedAt seed level) (encR r) % fan := by
    unfold wrap64
    omega
  rw [e]
  exact ⟨a, b⟩

/-- A table that is read: the rows' headers, and the rows. -/
structure RdL (w : World) (A : Option Addr) (n : Nat) (hds : List Value) (rows : List (List V)) : Prop where
  hd : Rd1 w A n hds
  len : rows.length = n
  row : ∀ (i : Nat) r, rows[i]? = some r → ∃ B m c, hds[i]? = some (Value.slice B m c) ∧ RdV w B m r
theorem RdL.below {w w' : World} {A : Option Addr} {n : Nat} {hds : List Value} {rows : List (List V)} (h : RdL w A n hds rows) (hb : Below w.heap.size w w') : RdL w' A n hds rows :=
  ⟨h.hd.below hb, h.len, fun i r hr => by
    obtain ⟨B, m, c, e, h2⟩ := h.row i r hr
    exact ⟨B, m, c, e, h2.below hb⟩⟩
/-- Element k. -/
theorem RdL.at_ {w : World} {A : Option Addr} {n : Nat} {hds : List Value} {rows : List (List V)} (h : RdL w A n hds rows) {k : Nat} (hk : k < n) :
    ∃ ad B m c r, A = some ad ∧ ad.block < w.heap.size ∧ rows[k]? = some r ∧ hds[k]? = some (Value.slice B m c) ∧ w.cell? (ad.add k) = some (.slice B m c) ∧ RdV w B m r := by
  obtain ⟨ad, e, hlt, hc⟩ := h.hd.at2 hk
  have hl : k < rows.length := by have := h.len; omega
  obtain ⟨B, m, c, e2, h2⟩ := h.row k _ (List.getElem?_eq_getElem hl)
  exact ⟨ad, B, m, c, _, e, hlt, List.getElem?_eq_getElem hl, e2, hc.trans e2, h2⟩

/-- The parts that a call owns: block g holds the parts' headers. -/
structure Outs (w : World) (base g : Nat) (hs : List Value) (ps : List (List Value)) : Prop where
  ge : base ≤ g
  blk : w.heap[g]? = some (.cells hs.toArray 38 (0, 0))
  len : ps.length = hs.length
  own : ∀ (i : Nat) h p, hs[i]? = some h → ps[i]? = some p → w.ownsRow base 24 1 h p.length p
  far : ∀ (i j : Nat) h h' k, hs[i]? = some h → hs[j]? = some h' → h.ownBlock = some k → h'.ownBlock = some k → i = j
theorem Outs.turn {S : Nat → Prop} {w w' : World} {base g : Nat} {hs : List Value} {ps : List (List Value)} (h : Outs w base g hs ps) (ht : Turn S w w') (hg : ¬ S g) (hS : ∀ (i : Nat) h k, hs[i]? = some h → h.ownBlock = some k → ¬ S k) : Outs w' base g hs ps :=
  ⟨h.ge, ht.heap h.blk hg, h.len, fun i x p hx hp => own_turn (h.own i x p hx hp) ht (hS i x · hx), h.far⟩
theorem Outs.below {w w' : World} {base g : Nat} {hs : List Value} {ps : List (List Value)} (h : Outs w base g hs ps) (hb : Below w.heap.size w w') : Outs w' base g hs ps :=
  h.turn (Turn.of_below hb (fun _ => False)) (fun h => h) (fun _ _ _ _ _ h => h)
theorem Outs.alloc {w : World} {base g : Nat} {hs : List Value} {ps : List (List Value)} (h : Outs w base g hs ps) (o : Obj) : Outs (w.alloc o) base g hs ps :=
  h.below ((Below.refl _ _).alloc (Nat.le_refl _) _)
theorem Outs.put {w w1 : World} {base g i : Nat} {hs : List Value} {ps : List (List Value)} {h v : Value} {p p' : List Value} (H : Outs w base g hs ps) (hi : hs[i]? = some h) (_hp : ps[i]? = some p)
    (hv : w1.ownsRow base 24 1 v p'.length p') (ht : Turn (fun k => h.ownBlock = some k) w w1) (hor : v.ownBlock = h.ownBlock ∨ ∃ b, v.ownBlock = some b ∧ w.heap.size ≤ b) :
    Outs (w1.setCell ⟨g, i, none⟩ v) base g (hs.set i v) (ps.set i p') := by
  have hil : i < hs.length := (List.getElem?_eq_some_iff.1 hi).1
  have gne : ∀ (j : Nat) x k, hs[j]? = some x → x.ownBlock = some k → ¬ k = g := fun j x k hx hk => by
    have hl : j < ps.length := by have := (List.getElem?_eq_some_iff.1 hx).1; have := H.len; omega
    exact own_ne_typed (H.own j x _ hx (List.getElem?_eq_getElem hl)) H.blk (by decide) k hk
  have b1 : w1.heap[g]? = some (.cells hs.toArray 38 (0, 0)) := ht.heap H.blk (fun e => gne i h g hi e rfl)
  have t2 : Turn (fun k => k = g) w1 (w1.setCell ⟨g, i, none⟩ v) := (Turn.refl (fun k => k = g) _).setCell (.inl rfl) _
  refine ⟨H.ge, ?_, by simpa using H.len, ?_, ?_⟩
  · rw [blk_set b1]; simp
  · intro j x q hx hq
    by_cases e : i = j
    · subst e
      have ex : x = v := by rw [List.getElem?_set_self hil] at hx; exact (Option.some.inj hx).symm
      have eq : q = p' := by rw [List.getElem?_set_self (by have := H.len; omega)] at hq; exact (Option.some.inj hq).symm
      subst ex; subst eq
      exact own_turn hv t2 (own_ne_typed hv b1 (by decide))
    · rw [List.getElem?_set_ne e] at hx hq
      have a := H.own j x q hx hq
      have b := own_turn a ht (fun k hk hS => e (H.far i j h x k hi hx hS hk))
      exact own_turn b t2 (own_ne_typed b b1 (by decide))
  · have lt : ∀ (j : Nat) x k, hs[j]? = some x → x.ownBlock = some k → k < w.heap.size := fun j x k hx hk => by
      have hl : j < ps.length := by have := (List.getElem?_eq_some_iff.1 hx).1; have := H.len; omega
      exact ((H.own j x _ hx (List.getElem?_eq_getElem hl)).lt k hk).2
    have key : ∀ (j : Nat) x k, i ≠ j → hs[j]? = some x → x.ownBlock = some k → ¬ v.ownBlock = some k := fun j x k hne hx hk hvk => by
      rcases hor with e | ⟨b, e, hb⟩
      · exact hne (H.far i j h x k hi hx (e ▸ hvk) hk)
      · have := lt j x k hx hk
        rw [e] at hvk
        injection hvk with hvk
        omega
    intro j l x y k hx hy hxk hyk
    by_cases e : i = j
    · by_cases e2 : i = l
      · exact e.symm.trans e2
      · subst e
        have ex : x = v := by rw [List.getElem?_set_self hil] at hx; exact (Option.some.inj hx).symm
        subst ex
        rw [List.getElem?_set_ne e2] at hy
        exact absurd hxk (key l y k e2 hy hyk)
    · rw [List.getElem?_set_ne e] at hx
      by_cases e2 : i = l
      · subst e2
        have ey : y = v := by rw [List.getElem?_set_self hil] at hy; exact (Option.some.inj hy).symm
        subst ey
        exact absurd hyk (key j x k e hx hxk)
      · rw [List.getElem?_set_ne e2] at hy
        exact H.far j l x y k hx hy hxk hyk

def putP (ps : List (List Value)) (x : Value × Nat) : List (List Value) := ps.set x.2 (ps.getD x.2 [] ++ [x.1])
def partsOf (fan : Nat) (xs : List (Value × Nat)) : List (List Value) := xs.foldl putP (List.replicate fan [])
theorem partsOf_length (fan : Nat) (xs : List (Value × Nat)) : (partsOf fan xs).length = fan := by
  have : ∀ (xs : List (Value × Nat)) ps, (xs.foldl putP ps).length = ps.length := by
    intro xs
    induction xs with
    | nil => intro ps; rfl
    | cons x xs ih => intro ps; rw [List.foldl_cons, ih]; simp [putP]
  rw [partsOf, this]; simp
def rowE (cs : List Int) (r : List V) : Int := if pickOk r cs && decide (cs.length ≤ 32) then (if rowOk (pickR r cs) then 0 else 20) else 1
def firstE (cs : List Int) : List (List V) → Int
  | [] => 0
  | r :: t => if rowE cs r = 0 then firstE cs t else rowE cs r
def numsOf (seed level fan : Int) (cs : List Int) (rows : List (List V)) : List Nat := rows.map fun r => (partN seed level fan (pickR r cs)).toNat
end Go.Proofs.Ytlldkdhpilcilaa
