/- What a call has turned; things apart in memory. -/
import Derived.Below
import Derived.Deep.Draws
import Derived.Conc.LoneCalls
import Derived.Maps.AppendAt
import Derived.OwnWalk
import Derived.WalkKit
import Derived.Deep.AppendLies
/- What a call has turned: the blocks of S alone, and what is new since. -/
namespace Go.Proofs.YtkbapoeilcapfaaGreat
open Go.RowKit

structure Turn (S : Nat → Prop) (w w' : World) : Prop where
  os : w'.os = w.os
  tape : w'.tape = w.tape
  output : w'.output = w.output
  size : w.heap.size ≤ w'.heap.size
  block : ∀ k, k < w.heap.size → ¬ S k → w'.heap[k]? = w.heap[k]?

section
variable {S S' S2 : Nat → Prop} {w w' w2 a b c : World}
theorem Turn.refl (S : Nat → Prop) (w : World) : Turn S w w := ⟨rfl, rfl, rfl, Nat.le_refl _, fun _ _ _ => rfl⟩
theorem Turn.mono (h : Turn S w w') (hs : ∀ k, S k → S' k) : Turn S' w w' := ⟨h.os, h.tape, h.output, h.size, fun k hk hn => h.block k hk (fun x => hn (hs k x))⟩
/-- Two in line: what the second one turns is what the first one may turn, or new since. -/
theorem Turn.then_ (h : Turn S a b) (k : Turn S2 b c) (hs : ∀ k, S2 k → S k ∨ a.heap.size ≤ k) : Turn S a c :=
  ⟨k.os.trans h.os, k.tape.trans h.tape, k.output.trans h.output, Nat.le_trans h.size k.size, fun i hi hn =>
    (k.block i (Nat.lt_of_lt_of_le hi h.size) (fun x => (hs i x).elim hn (fun y => by omega))).trans (h.block i hi hn)⟩
theorem Turn.trans (h : Turn S a b) (k : Turn S b c) : Turn S a c := h.then_ k (fun _ x => .inl x)
theorem Turn.of_below (h : Below w.heap.size w w') (S : Nat → Prop) : Turn S w w' := ⟨h.os, h.tape, h.output, h.size, fun k hk _ => h.block k hk⟩
theorem Turn.below (h : Turn S w w') {B : Nat} (hB : B ≤ w.heap.size) (hs : ∀ k, S k → B ≤ k) : Below B w w' :=
  ⟨h.os, h.tape, h.output, h.size, fun k hk => h.block k (Nat.lt_of_lt_of_le hk hB) (fun x => by have := hs k x; omega)⟩
/-- Behind a call that turned S: what was below B is as it was. -/
theorem below_turn {B : Nat} (h : Below B a b) (k : Turn S b c) (hB : B ≤ b.heap.size) (hs : ∀ k, S k → B ≤ k) : Below B a c := h.trans (k.below hB hs)
theorem Turn.alloc (h : Turn S w w') (o : Obj) : Turn S w (w'.alloc o) := h.then_ (S2 := fun _ => False) (Turn.of_below ((Below.refl _ _).alloc (Nat.le_refl _) o) _) (fun _ x => x.elim)
theorem Turn.drew (h : Turn S w w') : Turn S w w'.drew := ⟨h.os, h.tape, h.output, h.size, h.block⟩
theorem Turn.drewN (h : Turn S w w') (n : Nat) : Turn S w (w'.drewN n) := ⟨h.os, h.tape, h.output, h.size, h.block⟩
theorem Turn.setCell (h : Turn S w w') {p : Addr} (hp : S p.block ∨ w.heap.size ≤ p.block) (u : Value) : Turn S w (w'.setCell p u) :=
  h.then_ (S2 := fun k => k = p.block) ⟨rfl, rfl, rfl, by simp [World.setCell], fun i _ hn => Below.heap_setCell w' p u i hn⟩ (fun k hk => by rw [hk]; exact hp)
theorem heap_setChan_other (w : World) (c c' cap : Nat) (buf : Array Value) (closed : Bool) (s r : Nat) (tm : Bool) (h : c ≠ c') : (w.setChan c cap buf closed s r tm).heap[c']? = w.heap[c']? := by
  simp [World.setChan, Array.getElem?_setIfInBounds_ne h]
theorem Turn.setChan (h : Turn S w w') {c : Nat} (hp : S c ∨ w.heap.size ≤ c) (cap : Nat) (buf : Array Value) (cl : Bool) (s r : Nat) (tm : Bool) : Turn S w (w'.setChan c cap buf cl s r tm) :=
  h.then_ (S2 := fun k => k = c) ⟨rfl, rfl, rfl, by simp [World.setChan], fun i _ hn => heap_setChan_other w' c i cap buf cl s r tm (fun e => hn e.symm)⟩ (fun k hk => by rw [hk]; exact hp)
theorem Turn.heap (h : Turn S w w') {k : Nat} {o : Obj} (hk : w.heap[k]? = some o) (hn : ¬ S k) : w'.heap[k]? = some o :=
  (h.block k (Array.getElem?_eq_some_iff.1 hk).1 hn).trans hk
theorem Turn.grown (h : Turn S w w') {row : Option Nat} (hg : w'.grownBy w2 row) (hr : ∀ k, row = some k → S k ∨ w.heap.size ≤ k) : Turn S w w2 :=
  h.then_ (S2 := fun k => row = some k) ⟨hg.os, hg.tape, hg.output, hg.size, fun i hi hn => hg.block i hi (fun e => hn e.symm)⟩ hr
theorem lt_of_heap {k : Nat} {o : Obj} (h : w.heap[k]? = some o) : k < w.heap.size := (Array.getElem?_eq_some_iff.1 h).1
theorem cell_of_blk {g : Nat} {cs : Array Value} {t : TypeId} {fr : Nat × Nat} (h : w.heap[g]? = some (.cells cs t fr)) (i : Nat) : w.cell? ⟨g, i, none⟩ = cs[i]? := cell_of_row w g i cs t fr h
theorem free_of_blk {g : Nat} {cs : Array Value} {t : TypeId} (h : w.heap[g]? = some (.cells cs t (0, 0))) (i : Nat) : w.frozen? ⟨g, i, none⟩ = false := by
  simp [World.frozen?, h]
theorem blk_set {g : Nat} {cs : Array Value} {t : TypeId} (h : w.heap[g]? = some (.cells cs t (0, 0))) (i : Nat) (u : Value) : (w.setCell ⟨g, i, none⟩ u).heap[g]? = some (.cells (cs.setIfInBounds i u) t (0, 0)) := by
  simp [World.setCell, Array.getElem?_modify, h]
theorem blk_far {g : Nat} {o : Obj} (h : w.heap[g]? = some o) {p : Addr} (hp : g ≠ p.block) (u : Value) : (w.setCell p u).heap[g]? = some o := (Below.heap_setCell w p u g hp).trans h
theorem blk_alloc {g : Nat} {o : Obj} (h : w.heap[g]? = some o) (o' : Obj) : (w.alloc o').heap[g]? = some o := (Below.heap_alloc w o' g (lt_of_heap h)).trans h
theorem blk_below {g B : Nat} {o : Obj} (h : w.heap[g]? = some o) (hb : Below B w w') (hg : g < B) : w'.heap[g]? = some o := (hb.block g hg).trans h
end
end Go.Proofs.YtkbapoeilcapfaaGreat

/- Rows of the call's own beside what other calls turn; append of one element. -/
namespace Go.Proofs.YtkbapoeilcapfaaGreat
open Go.RowKit

def lenOf : Value → Nat
  | .slice _ n _ => n
  | _ => 0

theorem own_turn {S : Nat → Prop} {w w' : World} {base : Nat} {e : TypeId} {size n : Nat} {v : Value} {xs : List Value} (h : w.ownsRow base e size v n xs) (ht : Turn S w w') (hs : ∀ k, v.ownBlock = some k → ¬ S k) :
    w'.ownsRow base e size v n xs := by
  obtain ⟨h1, h2⟩ := h
  refine ⟨h1, ?_⟩
  rcases h2 with h2 | ⟨g, cap, cur, rfl, hb, hg, rest⟩
  · exact .inl h2
  · exact .inr ⟨g, cap, cur, rfl, hb, ht.heap hg (hs g rfl), rest⟩
theorem own_ge {w : World} {base : Nat} {e : TypeId} {size n : Nat} {v : Value} {xs : List Value} (h : w.ownsRow base e size v n xs) {k : Nat} (hk : v.ownBlock = some k) : base ≤ k := (h.lt k hk).1
theorem own_len {w : World} {base : Nat} {e : TypeId} {size n : Nat} {v : Value} {xs : List Value} (h : w.ownsRow base e size v n xs) : lenOf v = n := by
  rcases h.2 with ⟨rfl, rfl⟩ | ⟨g, cap, cur, rfl, _⟩ <;> rfl
theorem own_slice {w : World} {base : Nat} {e : TypeId} {size n : Nat} {v : Value} {xs : List Value} (h : w.ownsRow base e size v n xs) : ∃ A c, v = .slice A n c := by
  rcases h.2 with ⟨rfl, rfl⟩ | ⟨g, cap, cur, rfl, _⟩
  · exact ⟨none, 0, rfl⟩
  · exact ⟨_, cap, rfl⟩
theorem own_lower {w : World} {base base' : Nat} {e : TypeId} {size n : Nat} {v : Value} {xs : List Value} (h : w.ownsRow base e size v n xs) (hb : base' ≤ base) : w.ownsRow base' e size v n xs := by
  obtain ⟨h1, h2⟩ := h
  refine ⟨h1, ?_⟩
  rcases h2 with h2 | ⟨g, cap, cur, rfl, hbg, rest⟩
  · exact .inl h2
  · exact .inr ⟨g, cap, cur, rfl, Nat.le_trans hb hbg, rest⟩

section
variable {P : Program} {ops : Array Oper} {rest : List Oper} {o : Oper} {a : Act} {Q : Exit → Act → World → Prop}
/-- append(v, x); behind 'at_builtin'; the goal's world is 'W.alloc' of the variadic's box. -/
theorem wp_append1 {W : World} (base : Nat) (hgd : o.guard = none) (s x : Operand) (t e : TypeId) (z : Value) (size bytes : Nat)
    (ho : o.op = .call { callee := .builtin .append, args := #[s, x], argTypes := #[t, t] })
    (ht : P.underlying t = some (.slice e)) (hinfo : (P.info? e).map (fun i => (i.zero, i.size, i.bytes)) = some (some z, size, bytes)) (hz : z.cells.size = size) (hs0 : 0 < size) (hb0 : 0 < bytes)
    (v : Value) (n : Nat) (xs ys : List Value) (hs : a.eval s = v) {S : Nat} (hx : a.eval x = .slice (some ⟨S, 0, none⟩) 1 1) (hS : S = W.heap.size) (hys : ys.length = size) (h1 : ∀ u ∈ ys, u.oneCell' = true)
    (HO : W.ownsRow base e size v n xs) (hbase : base ≤ W.heap.size) (hl : (n + 1) * bytes ≤ 140737488355328)
    (h : ∀ v1 w1, w1.ownsRow base e size v1 (n + 1) (xs ++ ys) → Turn (fun k => v.ownBlock = some k) W w1 → (v1.ownBlock = v.ownBlock ∨ ∃ b, v1.ownBlock = some b ∧ W.heap.size ≤ b) → wpList P ops Q rest (a.put o.dst v1) w1) :
    wpList P ops Q (o :: rest) a (W.alloc (.cells ys.toArray e)) := by
  subst hS
  obtain ⟨i0, hi, hz0, hz1, hz2⟩ := info_parts hinfo
  have hlen : n + 1 ≤ 140737488355328 := Nat.le_trans (Nat.le_mul_of_pos_right _ hb0) hl
  refine wpList_append_own_at (W.alloc (.cells ys.toArray e)) hgd s x t ho base e i0 z size bytes ht hi hz0 hz1 hz2 hz hs0 v n xs hs (HO.alloc _) ⟨W.heap.size, 0, none⟩ 1 1 ys hx (by rw [hys]; simp)
    (by simpa using World.news_of_block (cs := ys.toArray) (t := e) (fr := (0, 0)) (heap_alloc_new W (.cells ys.toArray e))) h1 (by simp only [maxLen]; omega) hl (by simp; omega) ?_
  intro v1 w1 hown hg _ hat
  refine h v1 w1 hown (((Turn.refl _ W).alloc _).grown hg (fun k hk => .inl hk)) ?_
  rcases hat with hat | hat
  · exact .inl hat
  · exact .inr ⟨_, hat, by simp⟩

theorem run_append_nilsrc (w : World) (base : Nat) (t ty e : TypeId) (i : TypeInfo) (size : Nat) (ht : P.underlying t = some (.slice e)) (hi : P.info? e = some i)
    (v : Value) (n : Nat) (xs : List Value) (hown : w.ownsRow base e size v n xs) (c : Nat) : (Builtin.append_ #[t, t] ty #[v, .slice none 0 c]).run P w = .ok v w := by
  rcases hown.2 with ⟨rfl, rfl⟩ | ⟨g, cap, cur, rfl, _, _, hnc, _⟩
  · simp [Builtin.append_, run_underlying ht, sizeOf, typeInfo, hi, Builtin.lenOf, Builtin.firstCells]
  · simp [Builtin.append_, run_underlying ht, sizeOf, typeInfo, hi, Builtin.lenOf, Builtin.firstCells, hnc, storeCells]
/-- append(v, ys...), ys nil let in. -/
theorem wp_appendL {W : World} (base : Nat) (hgd : o.guard = none) (s x : Operand) (t e : TypeId) (z : Value) (size bytes : Nat)
    (ho : o.op = .call { callee := .builtin .append, args := #[s, x], argTypes := #[t, t] })
    (ht : P.underlying t = some (.slice e)) (hinfo : (P.info? e).map (fun i => (i.zero, i.size, i.bytes)) = some (some z, size, bytes)) (hz : z.cells.size = size) (hs0 : 0 < size) (hb0 : 0 < bytes)
    (v : Value) (n : Nat) (xs : List Value) (hs : a.eval s = v) (A : Option Addr) (m c : Nat) (ys : List Value) (hx : a.eval x = .slice A m c) (hys : ys.length = m * size)
    (hr : 0 < m → ∃ ad, A = some ad ∧ ∀ j u, ys[j]? = some u → W.cell? (ad.add j) = some u) (h1 : ∀ u ∈ ys, u.oneCell' = true)
    (HO : W.ownsRow base e size v n xs) (hbase : base ≤ W.heap.size) (hl : (n + m) * bytes ≤ 140737488355328)
    (h : ∀ v1 w1, w1.ownsRow base e size v1 (n + m) (xs ++ ys) → Turn (fun k => v.ownBlock = some k) W w1 → (v1.ownBlock = v.ownBlock ∨ ∃ b, v1.ownBlock = some b ∧ W.heap.size ≤ b) → wpList P ops Q rest (a.put o.dst v1) w1) :
    wpList P ops Q (o :: rest) a W := by
  obtain ⟨i0, hi, hz0, hz1, hz2⟩ := info_parts hinfo
  have hlen : n + m ≤ 140737488355328 := Nat.le_trans (Nat.le_mul_of_pos_right _ hb0) hl
  rcases Nat.eq_zero_or_pos m with h0 | h0
  · subst h0
    have hn : ys = [] := List.eq_nil_of_length_eq_zero (by simpa using hys)
    subst hn
    rcases A with _ | ad
    · refine wpList_plain hgd fun K hK => ?_
      have hrun := run_append_nilsrc (P := P) W base t o.type e i0 size ht hi v n xs HO c
      unfold Oper.wp execOp
      simp only [ho, resolve, invoke, builtin, Sem.run_bind, Sem.run_pure, Result.andThen_ok, List.map_toArray, List.map_cons, List.map_nil, hs, hx, hrun]
      exact hK _ _ (h _ _ (by simpa using HO) (Turn.refl _ _) (.inl rfl))
    · refine wpList_append_own_at W hgd s x t ho base e i0 z size bytes ht hi hz0 hz1 hz2 hz hs0 v n xs hs HO ad 0 c [] hx (by simp) (by simp) (by simp) (by simp only [maxLen]; omega) hl hbase ?_
      intro v1 w1 hown hg _ hat
      refine h v1 w1 hown ((Turn.refl _ W).grown hg (fun k hk => .inl hk)) ?_
      rcases hat with hat | hat
      · exact .inl hat
      · exact .inr ⟨_, hat, Nat.le_refl _⟩
  · obtain ⟨ad, rfl, hc⟩ := hr h0
    refine wpList_append_own_at W hgd s x t ho base e i0 z size bytes ht hi hz0 hz1 hz2 hz hs0 v n xs hs HO ad m c ys hx hys hc h1 (by simp only [maxLen]; omega) hl hbase ?_
    intro v1 w1 hown hg _ hat
    refine h v1 w1 hown ((Turn.refl _ W).grown hg (fun k hk => .inl hk)) ?_
    rcases hat with hat | hat
    · exact .inl hat
    · exact .inr ⟨_, hat, Nat.le_refl _⟩
end
end Go.Proofs.YtkbapoeilcapfaaGreat

/- Things apart in memory: a thing, the blocks that are its own, and what a call may turn. -/
namespace Go.Proofs.YtkbapoeilcapfaaGreat
open Go.RowKit
set_option linter.unusedVariables false
set_option linter.unusedSimpArgs false

/-- A thing that lies in the blocks S. -/
abbrev Res := World → (Nat → Prop) → Prop
structure Good (R : Res) : Prop where
  lt : ∀ {w S}, R w S → ∀ k, S k → k < w.heap.size
  turn : ∀ {w w' S T}, R w S → Turn T w w' → (∀ k, S k → ¬ T k) → R w' S
def star (A B : Res) : Res := fun w S => ∃ S1 S2, A w S1 ∧ B w S2 ∧ (∀ k, S1 k → ¬ S2 k) ∧ ∀ k, S k ↔ S1 k ∨ S2 k
def emp : Res := fun _ S => ∀ k, ¬ S k
def pur (P : Prop) : Res := fun _ S => P ∧ ∀ k, ¬ S k
/-- A call that may turn S has left R'. -/
def Ch (w : World) (S : Nat → Prop) (R' : Res) (w' : World) : Prop := ∃ S', R' w' S' ∧ Turn S w w' ∧ ∀ k, S' k → S k ∨ w.heap.size ≤ k
structure In (w0 w : World) (R : Res) : Prop where
  ex : ∃ S, R w S ∧ ∀ k, S k → w0.heap.size ≤ k
  bel : Below w0.heap.size w0 w
theorem sets_eq {S T : Nat → Prop} (h : ∀ k, S k ↔ T k) : S = T := funext fun k => propext (h k)
theorem emp_good : Good emp := ⟨fun h k hk => absurd hk (h k), fun h _ _ => h⟩
theorem pur_good (P : Prop) : Good (pur P) := ⟨fun h k hk => absurd hk (h.2 k), fun h _ _ => h⟩
theorem star_good {A B : Res} (hA : Good A) (hB : Good B) : Good (star A B) := by
  refine ⟨?_, ?_⟩
  · rintro w S ⟨S1, S2, h1, h2, hd, hs⟩ k hk
    exact ((hs k).1 hk).elim (hA.lt h1 k) (hB.lt h2 k)
  · rintro w w' S T ⟨S1, S2, h1, h2, hd, hs⟩ ht hn
    exact ⟨S1, S2, hA.turn h1 ht (fun k hk => hn k ((hs k).2 (.inl hk))), hB.turn h2 ht (fun k hk => hn k ((hs k).2 (.inr hk))), hd, hs⟩
theorem star_comm {A B : Res} {w : World} {S : Nat → Prop} (h : star A B w S) : star B A w S := by
  obtain ⟨S1, S2, h1, h2, hd, hs⟩ := h
  exact ⟨S2, S1, h2, h1, fun k a b => hd k b a, fun k => (hs k).trans Or.comm⟩
theorem star_assoc {A B C : Res} {w : World} {S : Nat → Prop} (h : star (star A B) C w S) : star A (star B C) w S := by
  obtain ⟨T, S3, ⟨S1, S2, h1, h2, hd, hs⟩, h3, hd2, hs2⟩ := h
  refine ⟨S1, fun k => S2 k ∨ S3 k, h1, ⟨S2, S3, h2, h3, fun k a b => hd2 k ((hs k).2 (.inr a)) b, fun k => Iff.rfl⟩, ?_, ?_⟩
  · rintro k a (b | b)
    · exact hd k a b
    · exact hd2 k ((hs k).2 (.inl a)) b
  · intro k
    rw [hs2, hs]
    exact or_assoc
theorem star_assoc' {A B C : Res} {w : World} {S : Nat → Prop} (h : star A (star B C) w S) : star (star A B) C w S := by
  have h1 := star_comm h
  have h2 := star_assoc (A := B) (B := C) (C := A) h1
  have h3 := star_comm h2
  have h4 := star_assoc (A := C) (B := A) (C := B) h3
  exact star_comm h4
theorem star_mono {A A' B B' : Res} {w : World} {S : Nat → Prop} (h : star A B w S) (ha : ∀ S, A w S → A' w S) (hb : ∀ S, B w S → B' w S) : star A' B' w S := by
  obtain ⟨S1, S2, h1, h2, hd, hs⟩ := h
  exact ⟨S1, S2, ha _ h1, hb _ h2, hd, hs⟩
theorem star_emp {A : Res} {w : World} {S : Nat → Prop} (h : A w S) : star A emp w S :=
  ⟨S, fun _ => False, h, fun _ x => x, fun _ _ x => x, fun k => by simp⟩
theorem star_emp' {A : Res} {w : World} {S : Nat → Prop} (h : star A emp w S) : A w S := by
  obtain ⟨S1, S2, h1, h2, hd, hs⟩ := h
  have : S = S1 := sets_eq fun k => (hs k).trans ⟨fun h => h.elim id (fun h => absurd h (h2 k)), .inl⟩
  rw [this]
  exact h1
/-- B A C to A B C. -/
theorem star_swap {A B C : Res} {w : World} {S : Nat → Prop} (h : star B (star A C) w S) : star A (star B C) w S :=
  star_assoc (star_mono (star_assoc' h) (fun _ => star_comm) (fun _ => id))

theorem Ch.same {w w' : World} {S : Nat → Prop} {R : Res} (g : Good R) (h : R w S) (hb : Below w.heap.size w w') : Ch w S R w' :=
  ⟨S, g.turn h (Turn.of_below hb (fun _ => False)) (fun _ _ => id), Turn.of_below hb S, fun _ hk => .inl hk⟩
theorem Ch.imp {w w' : World} {S : Nat → Prop} {R R' : Res} (h : Ch w S R w') (hi : ∀ S, R w' S → R' w' S) : Ch w S R' w' := by
  obtain ⟨S', h1, h2, h3⟩ := h
  exact ⟨S', hi _ h1, h2, h3⟩
theorem Ch.trans {w w' w2 : World} {S : Nat → Prop} {R R' : Res} (h : Ch w S R w') (k : ∀ S', R w' S' → Ch w' S' R' w2) : Ch w S R' w2 := by
  obtain ⟨S', h1, h2, h3⟩ := h
  obtain ⟨S2, k1, k2, k3⟩ := k S' h1
  exact ⟨S2, k1, h2.then_ k2 h3, fun i hi => (k3 i hi).elim (h3 i) (fun x => .inr (Nat.le_trans h2.size x))⟩
theorem Ch.frame {w w' : World} {S S1 S2 : Nat → Prop} {A F : Res} (g : Good F) (hF : F w S2) (hd : ∀ k, S1 k → ¬ S2 k) (hs : ∀ k, S k ↔ S1 k ∨ S2 k) (h : Ch w S1 A w') : Ch w S (star A F) w' := by
  obtain ⟨S', h1, h2, h3⟩ := h
  refine ⟨fun k => S' k ∨ S2 k, ⟨S', S2, h1, g.turn hF h2 (fun k a b => hd k b a), ?_, fun k => Iff.rfl⟩, h2.mono (fun k hk => (hs k).2 (.inl hk)), ?_⟩
  · intro k a b
    rcases h3 k a with h | h
    · exact hd k h b
    · have := g.lt hF k b; omega
  · rintro k (a | a)
    · exact (h3 k a).imp (fun h => (hs k).2 (.inl h)) id
    · exact .inl ((hs k).2 (.inr a))
theorem In.ge {w0 w : World} {R : Res} (h : In w0 w R) : w0.heap.size ≤ w.heap.size := h.bel.size
theorem In.imp {w0 w : World} {R R' : Res} (h : In w0 w R) (hi : ∀ S, R w S → R' w S) : In w0 w R' := by
  obtain ⟨⟨S, h1, h2⟩, h3⟩ := h
  exact ⟨⟨S, hi S h1, h2⟩, h3⟩
theorem In.ch {w0 w w' : World} {R R' : Res} (h : In w0 w R) (hc : ∀ S, R w S → Ch w S R' w') : In w0 w' R' := by
  have hz := h.ge
  obtain ⟨⟨S, h1, h2⟩, h3⟩ := h
  obtain ⟨S', k1, k2, k3⟩ := hc S h1
  exact ⟨⟨S', k1, fun k hk => (k3 k hk).elim (h2 k) (fun h => Nat.le_trans hz h)⟩, h3.trans (k2.below hz h2)⟩
theorem In.below {w0 w w' : World} {R : Res} (h : In w0 w R) (g : Good R) (hb : Below w.heap.size w w') : In w0 w' R := h.ch fun _ h1 => Ch.same g h1 hb
theorem In.emp (w : World) : In w w emp := ⟨⟨fun _ => False, fun _ => id, fun _ h => h.elim⟩, Below.refl _ _⟩
theorem In.start {w0 w : World} (h : Below w0.heap.size w0 w) : In w0 w Go.Proofs.YtkbapoeilcapfaaGreat.emp := ⟨⟨fun _ => False, fun _ => id, fun _ h => h.elim⟩, h⟩
/-- A call beside the frame F. -/
theorem In.call {P : Program} {f : FuncId} {args : Array Value} {w0 w : World} {A F : Res} {X : Type} {A' : X → Res} {Q : X → Ending → Prop} (h : In w0 w (star A F)) (g : Good F)
    (hc : ∀ S, A w S → Calls P f args w fun e w' => ∃ x, Q x e ∧ Ch w S (A' x) w') : Calls P f args w fun e w' => ∃ x, Q x e ∧ In w0 w' (star (A' x) F) := by
  obtain ⟨⟨S, ⟨S1, S2, h1, h2, hd, hs⟩, hge⟩, hb⟩ := h
  refine (hc S1 h1).mono ?_
  rintro e w' ⟨x, hq, hch⟩
  exact ⟨x, hq, In.ch (R := fun _ T => T = S) ⟨⟨S, rfl, hge⟩, hb⟩ (fun T hT => by rw [hT]; exact Ch.frame g h2 hd hs hch)⟩
theorem In.call1 {P : Program} {f : FuncId} {args : Array Value} {w0 w : World} {A F A' : Res} {v : Ending} (h : In w0 w (star A F)) (g : Good F)
    (hc : ∀ S, A w S → Calls P f args w fun e w' => e = v ∧ Ch w S A' w') : Calls P f args w fun e w' => e = v ∧ In w0 w' (star A' F) := by
  refine (h.call (X := Unit) (A' := fun _ => A') (Q := fun _ e => e = v) g (fun S hS => (hc S hS).mono fun e w' h => ⟨(), h⟩)).mono ?_
  rintro e w' ⟨_, h⟩
  exact h
/-- A row of the call's own. -/
def rowR (e : TypeId) (size : Nat) (v : Value) (n : Nat) (xs : List Value) : Res := fun w S => w.ownsRow 0 e size v n xs ∧ S = fun k => v.ownBlock = some k
theorem rowR_good (e : TypeId) (size : Nat) (v : Value) (n : Nat) (xs : List Value) : Good (rowR e size v n xs) := by
  refine ⟨?_, ?_⟩
  · rintro w S ⟨h, rfl⟩ k hk
    exact (h.lt k hk).2
  · rintro w w' S T ⟨h, rfl⟩ ht hn
    exact ⟨own_turn h ht hn, rfl⟩
/-- Things one by one. -/
def each {α : Type} (R : α → Res) : List α → Res
  | [] => emp
  | a :: t => star (R a) (each R t)
theorem each_good {α : Type} {R : α → Res} (h : ∀ a, Good (R a)) : ∀ l, Good (each R l)
  | [] => emp_good
  | a :: t => star_good (h a) (each_good h t)
theorem each_out {α : Type} {R : α → Res} {w : World} {a : α} {l2 : List α} : ∀ {l1 : List α} {S : Nat → Prop}, each R (l1 ++ a :: l2) w S → star (R a) (each R (l1 ++ l2)) w S
  | [], _, h => h
  | b :: t, _, h => star_swap (star_mono h (fun _ => id) (fun _ h => each_out h))
theorem each_in {α : Type} {R : α → Res} {w : World} {a : α} {l2 : List α} : ∀ {l1 : List α} {S : Nat → Prop}, star (R a) (each R (l1 ++ l2)) w S → each R (l1 ++ a :: l2) w S
  | [], _, h => h
  | b :: t, _, h => star_mono (star_swap h) (fun _ => id) (fun _ h => each_in h)
/-- A block of cells. -/
def blkR (b : Nat) (o : Obj) : Res := fun w S => w.heap[b]? = some o ∧ S = fun k => k = b
theorem blkR_good (b : Nat) (o : Obj) : Good (blkR b o) := by
  refine ⟨?_, ?_⟩
  · rintro w S ⟨h, rfl⟩ k rfl
    exact lt_of_heap h
  · rintro w w' S T ⟨h, rfl⟩ ht hn
    exact ⟨ht.heap h (hn b rfl), rfl⟩
theorem In.callF {P : Program} {f : FuncId} {args : Array Value} {w0 w : World} {A F : Res} {X : Type} {A' : X → Res} {Q : X → Ending → Prop} (h : In w0 w (star A F)) (g : Good F)
    (hc : ∀ S1 S2, A w S1 → F w S2 → (∀ k, S1 k → ¬ S2 k) → (∀ k, S1 k → w0.heap.size ≤ k) → Calls P f args w fun e w' => ∃ x, Q x e ∧ Ch w S1 (A' x) w') : Calls P f args w fun e w' => ∃ x, Q x e ∧ In w0 w' (star (A' x) F) := by
  obtain ⟨⟨S, ⟨S1, S2, h1, h2, hd, hs⟩, hge⟩, hb⟩ := h
  refine (hc S1 S2 h1 h2 hd (fun k hk => hge k ((hs k).2 (.inl hk)))).mono ?_
  rintro e w' ⟨x, hq, hch⟩
  exact ⟨x, hq, In.ch (R := fun _ T => T = S) ⟨⟨S, rfl, hge⟩, hb⟩ (fun T hT => by rw [hT]; exact Ch.frame g h2 hd hs hch)⟩
theorem In.callF1 {P : Program} {f : FuncId} {args : Array Value} {w0 w : World} {A F A' : Res} {v : Ending} (h : In w0 w (star A F)) (g : Good F)
    (hc : ∀ S1 S2, A w S1 → F w S2 → (∀ k, S1 k → ¬ S2 k) → (∀ k, S1 k → w0.heap.size ≤ k) → Calls P f args w fun e w' => e = v ∧ Ch w S1 A' w') : Calls P f args w fun e w' => e = v ∧ In w0 w' (star A' F) := by
  refine (h.callF (X := Unit) (A' := fun _ => A') (Q := fun _ e => e = v) g (fun S1 S2 a b c d => (hc S1 S2 a b c d).mono fun e w' h => ⟨(), h⟩)).mono ?_
  rintro e w' ⟨_, h⟩
  exact h
/-- What is new stands beside. -/
theorem In.add {w0 w w' : World} {R N : Res} {S' : Nat → Prop} (h : In w0 w R) (g : Good R) (hb : Below w.heap.size w w') (hn : N w' S') (hs : ∀ k, S' k → w.heap.size ≤ k) : In w0 w' (star R N) := by
  have hz := h.ge
  refine h.ch fun S hS => ⟨fun k => S k ∨ S' k, ⟨S, S', g.turn hS (Turn.of_below hb (fun _ => False)) (fun _ _ => id), hn, ?_, fun k => Iff.rfl⟩, Turn.of_below hb S, ?_⟩
  · intro k a b
    have := g.lt hS k a
    have := hs k b
    omega
  · rintro k (a | a)
    · exact .inl a
    · exact .inr (hs k a)
theorem In.row {w0 w w' : World} {R : Res} {e : TypeId} {size n : Nat} {v : Value} {xs : List Value} (h : In w0 w R) (g : Good R) (hb : Below w.heap.size w w') (ho : w'.ownsRow w.heap.size e size v n xs) : In w0 w' (star R (rowR e size v n xs)) :=
  h.add g hb ⟨own_lower ho (Nat.zero_le _), rfl⟩ (fun k hk => own_ge ho hk)
theorem In.blk {w0 w : World} {R : Res} (h : In w0 w R) (g : Good R) (o : Obj) : In w0 (w.alloc o) (star R (blkR w.heap.size o)) :=
  h.add g ((Below.refl _ _).alloc (Nat.le_refl _) _) ⟨heap_alloc_new _ _, rfl⟩ (fun k hk => by rw [hk]; exact Nat.le_refl _)
theorem In.sub {w0 w : World} {R R' : Res} (h : In w0 w R) (hi : ∀ S, R w S → ∃ S', R' w S' ∧ ∀ k, S' k → S k) : In w0 w R' := by
  obtain ⟨⟨S, h1, h2⟩, h3⟩ := h
  obtain ⟨S', k1, k2⟩ := hi S h1
  exact ⟨⟨S', k1, fun k hk => h2 k (k2 k hk)⟩, h3⟩
theorem In.left {w0 w : World} {A B : Res} (h : In w0 w (star A B)) : In w0 w A := h.sub fun S ⟨S1, S2, h1, h2, hd, hs⟩ => ⟨S1, h1, fun k hk => (hs k).2 (.inl hk)⟩
theorem In.right {w0 w : World} {A B : Res} (h : In w0 w (star A B)) : In w0 w B := h.sub fun S ⟨S1, S2, h1, h2, hd, hs⟩ => ⟨S2, h2, fun k hk => (hs k).2 (.inr hk)⟩
theorem In.comm {w0 w : World} {A B : Res} (h : In w0 w (star A B)) : In w0 w (star B A) := h.imp fun _ => star_comm
theorem In.assoc {w0 w : World} {A B C : Res} (h : In w0 w (star (star A B) C)) : In w0 w (star A (star B C)) := h.imp fun _ => star_assoc
theorem In.assoc' {w0 w : World} {A B C : Res} (h : In w0 w (star A (star B C))) : In w0 w (star (star A B) C) := h.imp fun _ => star_assoc'
theorem In.swap {w0 w : World} {A B C : Res} (h : In w0 w (star B (star A C))) : In w0 w (star A (star B C)) := h.imp fun _ => star_swap
theorem In.get {w0 w : World} {R : Res} {p : Prop} (h : In w0 w R) (hi : ∀ S, R w S → p) : p := by
  obtain ⟨⟨S, h1, _⟩, _⟩ := h
  exact hi S h1
theorem In.start' {w0 w w' : World} {R : Res} (hb : Below w0.heap.size w0 w) (h : Ch w (fun _ => False) R w') : In w0 w' R := (In.start hb).ch fun S hS => by
  have : S = fun _ => False := sets_eq fun k => ⟨fun h => hS k h, fun h => h.elim⟩
  rw [this]
  exact h
theorem In.down {w0 w1 w : World} {R : Res} (h : In w1 w R) (hb : Below w0.heap.size w0 w1) : In w0 w R := by
  obtain ⟨⟨S, h1, h2⟩, h3⟩ := h
  exact ⟨⟨S, h1, fun k hk => Nat.le_trans hb.size (h2 k hk)⟩, hb.trans (h3.mono hb.size)⟩
theorem In.push {w0 w w' : World} {A C : Res} {e : TypeId} {size n : Nat} {v : Value} {xs : List Value} (h : In w0 w (star A C)) (g : Good (star A C)) (hb : Below w.heap.size w w') (ho : w'.ownsRow w.heap.size e size v n xs) : In w0 w' (star A (star (rowR e size v n xs) C)) :=
  (h.row g hb ho).assoc.imp fun S h => star_mono h (fun _ => id) (fun _ => star_comm)
theorem In.pushB {w0 w : World} {A C : Res} (h : In w0 w (star A C)) (g : Good (star A C)) (o : Obj) : In w0 (w.alloc o) (star A (star (blkR w.heap.size o) C)) :=
  (h.blk g o).assoc.imp fun S h => star_mono h (fun _ => id) (fun _ => star_comm)
theorem In.drop {w0 w : World} {A B C : Res} (h : In w0 w (star A (star B C))) : In w0 w (star A C) := h.swap.right
/-- A row has grown (or has moved). -/
theorem In.grow {w0 w w1 : World} {Fr : Res} {e : TypeId} {size n n1 : Nat} {v v1 : Value} {xs xs1 : List Value} (h : In w0 w (star (rowR e size v n xs) Fr)) (g : Good Fr) (ho : w1.ownsRow 0 e size v1 n1 xs1) (ht : Turn (fun k => v.ownBlock = some k) w w1)
    (hor : v1.ownBlock = v.ownBlock ∨ ∃ b, v1.ownBlock = some b ∧ w.heap.size ≤ b) : In w0 w1 (star (rowR e size v1 n1 xs1) Fr) := by
  refine h.ch fun S hS => ?_
  obtain ⟨S1, S2, ⟨h1, rfl⟩, h2, hd, hs⟩ := hS
  refine Ch.frame g h2 hd hs ⟨_, ⟨ho, rfl⟩, ht, fun k hk => ?_⟩
  rcases hor with e | ⟨b, e, hb⟩
  · exact .inl (by rw [← e]; exact hk)
  · rw [e] at hk
    injection hk with hk
    exact .inr (by omega)
/-- A cell of a block is written. -/
theorem In.put {w0 w : World} {Fr : Res} {b : Nat} {cs : Array Value} {t : TypeId} (h : In w0 w (star (blkR b (.cells cs t (0, 0))) Fr)) (g : Good Fr) (i : Nat) (u : Value) : In w0 (w.setCell ⟨b, i, none⟩ u) (star (blkR b (.cells (cs.setIfInBounds i u) t (0, 0))) Fr) := by
  refine h.ch fun S hS => ?_
  obtain ⟨S1, S2, ⟨h1, rfl⟩, h2, hd, hs⟩ := hS
  exact Ch.frame g h2 hd hs ⟨_, ⟨blk_set h1 i u, rfl⟩, (Turn.refl (fun k => k = b) w).setCell (p := ⟨b, i, none⟩) (.inl rfl) u, fun k hk => .inl hk⟩
end Go.Proofs.YtkbapoeilcapfaaGreat

/- Things that are read alone: what was found of them stays, as long as their blocks are left alone. -/
namespace Go.Proofs.YtkbapoeilcapfaaGreat
open Go.RowKit
set_option linter.unusedVariables false
set_option linter.unusedSimpArgs false

def rd (P : World → Prop) : Res := fun w S => (∀ k, S k → k < w.heap.size) ∧ ∀ w', Turn (fun k => ¬ S k) w w' → P w'
theorem rd_good (P : World → Prop) : Good (rd P) := by
  refine ⟨fun h => h.1, ?_⟩
  rintro w w' S T ⟨h1, h2⟩ ht hn
  refine ⟨fun k hk => Nat.lt_of_lt_of_le (h1 k hk) ht.size, fun w2 h3 => h2 w2 ?_⟩
  exact (ht.mono (fun k hk h => hn k h hk)).then_ h3 (fun k hk => .inl hk)
theorem rd_get {P : World → Prop} {w : World} {S : Nat → Prop} (h : rd P w S) : P w := h.2 w (Turn.refl _ w)
theorem rd_imp {P Q : World → Prop} {w : World} {S : Nat → Prop} (h : rd P w S) (hi : ∀ w, P w → Q w) : rd Q w S := ⟨h.1, fun w' ht => hi w' (h.2 w' ht)⟩
theorem rd_and {P Q : World → Prop} {w : World} {S : Nat → Prop} (h : star (rd P) (rd Q) w S) : rd (fun w => P w ∧ Q w) w S := by
  obtain ⟨S1, S2, h1, h2, hd, hs⟩ := h
  refine ⟨fun k hk => ((hs k).1 hk).elim (h1.1 k) (h2.1 k), fun w' ht => ⟨h1.2 w' (ht.mono fun k hk h => hk ((hs k).2 (.inl h))), h2.2 w' (ht.mono fun k hk h => hk ((hs k).2 (.inr h)))⟩⟩
theorem rd_true (w : World) : rd (fun _ => True) w (fun _ => False) := ⟨fun _ h => h.elim, fun _ _ => trivial⟩
/-- A row that is owned, as a thing that is read. -/
theorem rowR_rd {e : TypeId} {size n : Nat} {v : Value} {xs : List Value} {w : World} {S : Nat → Prop} (h : rowR e size v n xs w S) : rd (fun w => w.ownsRow 0 e size v n xs) w S := by
  obtain ⟨ho, rfl⟩ := h
  exact ⟨(rowR_good e size v n xs).lt ⟨ho, rfl⟩, fun w' ht => own_turn ho ht (fun k hk hn => hn hk)⟩
end Go.Proofs.YtkbapoeilcapfaaGreat
