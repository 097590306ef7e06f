/- the ledger's memory holds the plain data. -/
import Derived.Test.YtagknfjgokiidaaLM
import Derived.Test.YtagknfjgokiidaaLA
import Derived.Deep.RegionLaw
import Derived.BigRegion
namespace Go.Proofs.Ytagknfjgokiidaa
open Go.RowKit Go.Maps
set_option linter.unusedVariables false
set_option linter.unusedSimpArgs false

def Acc.ac (B : Int → Nat) (a : Acc) : Ac := ⟨a.ab.map B, a.grant, a.held, a.peak, a.granted, a.below⟩
structure Lst (w : World) (bl bm : Nat) (B : Int → Nat) (s : Ls) : Prop where
  led : w.heap[bl]? = some (.cells #[.map (some bm), .int .i64 s.made, .int .i64 s.most] 90 (0, 0))
  map : OwnA w bm s.l.length (s.l.map fun a => (a.n, B a.n))
  acc : ∀ a ∈ s.l, w.heap[B a.n]? = some (acObj (a.ac B))
  inj : ∀ a ∈ s.l, ∀ b ∈ s.l, B a.n = B b.n → a.n = b.n
def LS (bl bm : Nat) (B : Int → Nat) (s : Ls) (k : Nat) : Prop := k = bl ∨ k = bm ∨ ∃ a ∈ s.l, k = B a.n
theorem Lst.turn {S : Nat → Prop} {w w' : World} {bl bm : Nat} {B : Int → Nat} {s : Ls} (H : Lst w bl bm B s) (ht : Turn S w w') (hs : ∀ k, LS bl bm B s k → ¬ S k) : Lst w' bl bm B s :=
  ⟨ht.heap H.led (hs _ (.inl rfl)), H.map.turn ht (hs _ (.inr (.inl rfl))), fun a ha => ht.heap (H.acc a ha) (hs _ (.inr (.inr ⟨a, ha, rfl⟩))), H.inj⟩
theorem Lst.below {w w' : World} {bl bm : Nat} {B : Int → Nat} {s : Ls} (H : Lst w bl bm B s) (hb : Below w.heap.size w w') : Lst w' bl bm B s := H.turn (Turn.of_below hb (fun _ => False)) (fun _ _ => id)
theorem Lst.lt {w : World} {bl bm : Nat} {B : Int → Nat} {s : Ls} (H : Lst w bl bm B s) : ∀ k, LS bl bm B s k → k < w.heap.size := by
  rintro k (rfl | rfl | ⟨a, ha, rfl⟩)
  · exact lt_of_heap H.led
  · exact H.map.lt
  · exact lt_of_heap (H.acc a ha)
theorem Lst.ne {w : World} {bl bm : Nat} {B : Int → Nat} {s : Ls} (H : Lst w bl bm B s) : bl ≠ bm ∧ (∀ a ∈ s.l, B a.n ≠ bl) ∧ ∀ a ∈ s.l, B a.n ≠ bm := by
  obtain ⟨es, clock, hm⟩ := mapObj H.map
  refine ⟨fun e => ?_, fun x hx e => ?_, fun x hx e => ?_⟩
  · have := H.led
    rw [e, hm] at this
    cases this
  · have := H.acc x hx
    rw [e, H.led] at this
    injection this with this
    injection this with _ ht
    exact absurd ht (by decide)
  · have := H.acc x hx
    rw [e, hm] at this
    cases this
/-- What the texts on the map and the accounts ask. -/
theorem Lst.toLed {w : World} {bl bm : Nat} {B : Int → Nat} {s : Ls} (H : Lst w bl bm B s) (ho : s.l.Pairwise (fun x y => x.n < y.n)) :
    ∃ A, Led w bl bm s.made s.most (s.l.map fun a => (a.n, B a.n)) A := by
  refine ⟨fun k => match s.l.find? (fun a => B a.n == k) with | some a => a.ac B | none => Ac.none, H.led, by rw [List.length_map]; exact H.map, ?_, List.pairwise_map.2 ho, ?_⟩
  · intro x hx
    obtain ⟨a, ha, rfl⟩ := List.mem_map.1 hx
    dsimp only
    cases hf : s.l.find? (fun b => B b.n == B a.n) with
    | none => exact absurd (by simp) (List.find?_eq_none.1 hf a ha)
    | some b =>
      have hb := List.mem_of_find?_eq_some hf
      have : B b.n = B a.n := by simpa using List.find?_some hf
      obtain rfl := ord_inj ho hb ha (H.inj b hb a ha this)
      exact H.acc b hb
  · rw [List.map_map]
    have : (s.l.map fun a => B a.n).Nodup := by
      rw [List.Nodup, List.pairwise_map]
      refine List.Pairwise.imp_of_mem ?_ ho
      intro a b ha hb h e
      have := H.inj a ha b hb e
      omega
    exact this
theorem findA_map (B : Int → Nat) (n : Int) : ∀ l : List Acc, findA (l.map fun a => (a.n, B a.n)) n = (l.find? fun a => a.n == n).map fun a => B a.n := by
  intro l
  unfold findA
  rw [List.find?_map]
  rw [Option.map_map]
  rfl
theorem lfind_yes {w : World} {bl bm : Nat} {B : Int → Nat} {s : Ls} {n : Int} {a : Acc} (H : Lst w bl bm B s) (ho : s.l.Pairwise (fun x y => x.n < y.n)) (hw : (Lit.int .i64 n).wf = true) (hf : s.find n = some a) :
    Calls Try.prog 47 #[.pointer (some ⟨bl, 0, Option.none⟩), .int .i64 n] w fun e w' => e = .returned (.tuple #[.pointer (some ⟨B n, 0, Option.none⟩), .bool true]) ∧ w' = w := by
  obtain ⟨A, hA⟩ := H.toLed ho
  exact find_yes hA hw (by rw [findA_map]; unfold Ls.find at hf; rw [hf]; have := (find_mem (s := s) hf).2; simp [this])
theorem lfind_no {w : World} {bl bm : Nat} {B : Int → Nat} {s : Ls} {n : Int} (H : Lst w bl bm B s) (ho : s.l.Pairwise (fun x y => x.n < y.n)) (hw : (Lit.int .i64 n).wf = true) (hf : s.find n = none) :
    Calls Try.prog 47 #[.pointer (some ⟨bl, 0, Option.none⟩), .int .i64 n] w fun e w' => e = .returned (.tuple #[.pointer (some ⟨w.heap.size, 0, Option.none⟩), .bool false]) ∧ w'.heap[w.heap.size]? = some (acObj Ac.none) ∧ Below w.heap.size w w' := by
  obtain ⟨A, hA⟩ := H.toLed ho
  refine (find_no hA hw (by rw [findA_map]; unfold Ls.find at hf; rw [hf]; rfl)).mono ?_
  rintro e w' ⟨rfl, rfl⟩
  exact ⟨rfl, heap_alloc_new _ _, (Below.refl _ _).alloc (Nat.le_refl _) _⟩
theorem lready {w : World} {bl bm : Nat} {B : Int → Nat} {s : Ls} (H : Lst w bl bm B s) (ho : s.l.Pairwise (fun x y => x.n < y.n)) : Calls Try.prog 48 #[.pointer (some ⟨bl, 0, Option.none⟩)] w fun e w' => e = .returned (.bool true) ∧ w' = w := by
  obtain ⟨A, hA⟩ := H.toLed ho
  exact ready_yes hA
theorem laccounts {w : World} {bl bm : Nat} {B : Int → Nat} {s : Ls} (H : Lst w bl bm B s) (ho : s.l.Pairwise (fun x y => x.n < y.n)) (hn : s.l.length ≤ 256) :
    Calls Try.prog 30 #[.pointer (some ⟨bl, 0, Option.none⟩)] w fun e w' => ∃ v, e = .returned v ∧ w'.ownsRow w.heap.size 3 1 v s.l.length (s.l.map fun a => Value.int .i64 a.n) ∧ Below w.heap.size w w' := by
  obtain ⟨A, hA⟩ := H.toLed ho
  refine (accounts_yes hA (by simp; omega)).mono ?_
  rintro e w' ⟨v, rfl, h, b⟩
  rw [List.length_map, List.map_map] at h
  exact ⟨v, rfl, h, b⟩
theorem aleft {w : World} {b : Nat} {B : Int → Nat} {a : Acc} {G : Int} {s : Ls} (K : LOk G s) (ha : a ∈ s.l) (h : w.heap[b]? = some (acObj (a.ac B))) :
    Calls Try.prog 49 #[.pointer (some ⟨b, 0, Option.none⟩)] w fun e w' => e = .returned (.int .i64 a.left) ∧ Below w.heap.size w w' := by
  have h1 := K.acc a ha
  have h2 := K.gr0 ha
  exact left_walk h (by dsimp only [Acc.ac]; omega) (by dsimp only [Acc.ac]; omega) (by dsimp only [Acc.ac]; omega) (by dsimp only [Acc.ac]; omega) (by dsimp only [Acc.ac]; omega) (by dsimp only [Acc.ac]; omega)
/-- An account has turned, the ledger's numbers perhaps: the others have not. -/
theorem Lst.upd {w w' : World} {bl bm : Nat} {B : Int → Nat} {s s' : Ls} {a : Acc} {f : Acc → Acc} (H : Lst w bl bm B s) (ho : s.l.Pairwise (fun x y => x.n < y.n)) (ha : a ∈ s.l) (hl : s'.l = updL s.l a.n f) (hn : ∀ x, (f x).n = x.n)
    (ht : Turn (fun k => k = bl ∨ k = B a.n) w w') (h1 : w'.heap[bl]? = some (.cells #[.map (some bm), .int .i64 s'.made, .int .i64 s'.most] 90 (0, 0))) (h2 : w'.heap[B a.n]? = some (acObj ((f a).ac B))) : Lst w' bl bm B s' := by
  obtain ⟨n1, n2, n3⟩ := H.ne
  have back : ∀ x ∈ s'.l, ∃ y ∈ s.l, x.n = y.n ∧ (x = y ∧ y.n ≠ a.n ∨ y = a ∧ x = f a) := by
    intro x hx
    rw [hl] at hx
    rcases updL_mem hx with ⟨hx, hne⟩ | ⟨y, hy, e, rfl⟩
    · exact ⟨x, hx, rfl, .inl ⟨rfl, hne⟩⟩
    · obtain rfl := ord_inj ho hy ha e
      exact ⟨y, hy, hn y, .inr ⟨rfl, rfl⟩⟩
  refine ⟨h1, ?_, ?_, ?_⟩
  · have : s'.l.map (fun a => (a.n, B a.n)) = s.l.map fun a => (a.n, B a.n) := by
      have e : ∀ l : List Acc, l.map (fun a => (a.n, B a.n)) = (l.map (·.n)).map fun n => (n, B n) := fun l => by rw [List.map_map]; rfl
      rw [e, e, hl, updL_ns hn]
    rw [this, hl, updL_len]
    exact H.map.turn ht (fun e => e.elim (fun e => n1 e.symm) (fun e => n3 a ha e.symm))
  · intro x hx
    obtain ⟨y, hy, e1, ⟨rfl, hne⟩ | ⟨rfl, e⟩⟩ := back x hx
    · exact ht.heap (H.acc x hy) (fun e => e.elim (fun e => n2 x hy e) (fun e => hne (H.inj x hy a ha e)))
    · rw [e1, e]
      exact h2
  · intro x hx z hz e
    obtain ⟨y, hy, e1, _⟩ := back x hx
    obtain ⟨u, hu, e2, _⟩ := back z hz
    rw [e1, e2] at e ⊢
    exact H.inj y hy u hu e
end Go.Proofs.Ytagknfjgokiidaa
