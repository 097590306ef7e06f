/- Two queues beside the document's: what each call leaves. -/
import Derived.Test.YtncapimnlgncpaaRQ
namespace Go.Proofs.Ytncapimnlgncpaa
open Go.Conc Go.RowKit

/-- A queue (g, c) and the document's (h, v). -/
structure PD where
  g : Nat
  c : Nat
  cap : Nat
  h : Nat
  v : Value
  xs : List Int
  ys : List Int
  cl : Bool
  cl2 : Bool
def PD.foot (p : PD) (k : Nat) : Prop := k = p.g ∨ k = p.c ∨ k = p.h ∨ p.v.ownBlock = some k
structure PD.Ok (B : Nat) (p : PD) (w : World) : Prop where
  q : QI.At w p.g p.c p.cap (ints p.xs) p.cl
  x : RQ.At B w p.h p.v p.ys p.cap p.cl2
  lx : p.xs.length ≤ p.cap
  ly : p.ys.length ≤ p.cap
  cap : p.cap ≤ 1024
  gB : B ≤ p.g
  cB : B ≤ p.c
theorem PD.Ok.lt {B : Nat} {p : PD} {w : World} (H : p.Ok B w) : ∀ k, p.foot k → k < w.heap.size := by
  obtain ⟨_, s, r, hc⟩ := H.q
  rintro k (rfl | rfl | rfl | hk)
  · exact lt_of_heap H.q.1
  · exact lt_of_heap hc
  · exact lt_of_heap H.x.blk
  · exact (H.x.own.lt k hk).2
theorem PD.Ok.ge {B : Nat} {p : PD} {w : World} (H : p.Ok B w) : ∀ k, p.foot k → B ≤ k := by
  rintro k (rfl | rfl | rfl | hk)
  · exact H.gB
  · exact H.cB
  · exact H.x.ge
  · exact (H.x.own.lt k hk).1
theorem PD.Ok.turn {B : Nat} {p : PD} {w w' : World} {S : Nat → Prop} (H : p.Ok B w) (t : Turn S w w') (hs : ∀ k, p.foot k → ¬ S k) : p.Ok B w' :=
  ⟨H.q.turn t (hs _ (.inl rfl)) (hs _ (.inr (.inl rfl))), H.x.turn t (hs _ (.inr (.inr (.inl rfl)))) (fun _ hk => hs _ (.inr (.inr (.inr hk)))), H.lx, H.ly, H.cap, H.gB, H.cB⟩
/-- What lies apart within one pair. -/
theorem PD.Ok.apart {B : Nat} {p : PD} {w : World} (H : p.Ok B w) : p.h ≠ p.g ∧ p.h ≠ p.c ∧ (∀ k, p.v.ownBlock = some k → ¬ k = p.g) ∧ (∀ k, p.v.ownBlock = some k → ¬ k = p.c) := by
  obtain ⟨hg, s, r, hc⟩ := H.q
  refine ⟨fun e => ?_, fun e => ?_, own_ne_typed H.x.own hg (by decide), own_ne_chan H.x.own hc⟩
  · have := H.x.blk
    rw [e, hg] at this
    injection this with this
    injection this with _ ht
    exact absurd ht (by decide)
  · have := H.x.blk
    rw [e, hc] at this
    cases this

structure St (W : World) (B : Nat) (p p2 : PD) (w : World) : Prop where
  a : p.Ok B w
  b : p2.Ok B w
  dis : ∀ k, p.foot k → ¬ p2.foot k
  size : B ≤ w.heap.size
  bel : Below B W w
section
variable {W w w' : World} {B : Nat} {p p' p2 p2' : PD}
theorem St.swap (H : St W B p p2 w) : St W B p2 p w := ⟨H.b, H.a, fun k h1 h2 => H.dis k h2 h1, H.size, H.bel⟩
theorem St.step (H : St W B p p2 w) (t : Turn p.foot w w') (ok : p'.Ok B w') (sub : ∀ k, p'.foot k → p.foot k ∨ w.heap.size ≤ k) : St W B p' p2 w' :=
  ⟨ok, H.b.turn t (fun k h2 h1 => H.dis k h1 h2), fun k h1 h2 => (sub k h1).elim (fun h => H.dis k h h2) (fun h => by have := H.b.lt k h2; omega), Nat.le_trans H.size t.size, below_turn H.bel t H.size H.a.ge⟩
theorem St.drewN (H : St W B p p2 w) (n : Nat) : St W B p p2 (w.drewN n) := H.step ((Turn.refl _ w).drewN n) (H.a.turn ((Turn.refl (fun _ => False) w).drewN n) (fun _ _ h => h)) (fun _ h => .inl h)
end

def okB (cl : Bool) (cap : Nat) (xs : List Int) : Bool := !cl && decide (xs.length < cap)
def putL (cl : Bool) (cap : Nat) (xs : List Int) (n : Int) : List Int := if okB cl cap xs then xs ++ [n] else xs

section
variable {W w : World} {B : Nat} {p p2 : PD}
theorem putq (H : St W B p p2 w) (n : Int) : Calls Try.prog 9 #[.pointer (some ⟨p.g, 0, none⟩), .int .i64 n] w fun e w' => e = .returned (.bool (okB p.cl p.cap p.xs)) ∧ St W B { p with xs := putL p.cl p.cap p.xs n } p2 w' ∧ Turn p.foot w w' := by
  obtain ⟨g, c, cap, h, v, xs, ys, cl, cl2⟩ := p
  cases cl with
  | true =>
    have hq := H.a.q
    refine (QI.put_closed hq _).mono ?_
    rintro e w' ⟨rfl, rfl⟩
    refine ⟨by simp [okB], ?_⟩
    have e : putL true cap xs n = xs := by simp [putL, okB]
    simp only [e]
    exact ⟨H, Turn.refl _ _⟩
  | false =>
    have hq := H.a.q
    by_cases hl : xs.length < cap
    · refine (QI.put_room hq (by simpa using hl) n).mono ?_
      rintro e w' ⟨rfl, q', t⟩
      have hb : okB false cap xs = true := by simp [okB, hl]
      refine ⟨by rw [hb], H.step (t.mono (fun k hk => .inr (.inl hk))) ?_ (fun k hk => .inl hk), t.mono (fun k hk => .inr (.inl hk))⟩
      obtain ⟨h1, h2, h3, h4⟩ := H.a.apart
      refine ⟨?_, H.a.x.turn t (fun e => h2 e) (fun k hk e => h4 k hk e), ?_, H.a.ly, H.a.cap, H.a.gB, H.a.cB⟩
      · simp only [putL, hb, if_true, ints, List.map_append, List.map_cons, List.map_nil]; exact q'
      · simp only [putL, hb, if_true, List.length_append, List.length_cons, List.length_nil]; omega
    · refine (QI.put_full hq (by simp; omega) n).mono ?_
      rintro e w' ⟨rfl, rfl⟩
      have hb : okB false cap xs = false := by simp [okB]; omega
      refine ⟨by rw [hb], ?_⟩
      have e : putL false cap xs n = xs := by simp [putL, hb]
      simp only [e]
      exact ⟨H, Turn.refl _ _⟩
theorem putx (H : St W B p p2 w) (n : Int) : Calls Try.prog 30 #[.pointer (some ⟨p.h, 0, none⟩), .int .i64 n] w fun e w' => e = .returned (.bool (okB p.cl2 p.cap p.ys)) ∧ ∃ v', St W B { p with ys := putL p.cl2 p.cap p.ys n, v := v' } p2 w' ∧ Turn p.foot w w' ∧ ∀ k, v'.ownBlock = some k → p.v.ownBlock = some k ∨ w.heap.size ≤ k := by
  obtain ⟨g, c, cap, h, v, xs, ys, cl, cl2⟩ := p
  cases cl2 with
  | true =>
    have hx := H.a.x
    refine (RQ.put_shut hx _).mono ?_
    rintro e w' ⟨rfl, m, rfl⟩
    refine ⟨by simp [okB], v, ?_⟩
    have e : putL true cap ys n = ys := by simp [putL, okB]
    simp only [e]
    exact ⟨H.drewN m, (Turn.refl _ w).drewN m, fun _ hk => .inl hk⟩
  | false =>
    have hx := H.a.x
    by_cases hl : ys.length < cap
    · refine (RQ.put_room hx hl H.a.cap H.size n).mono ?_
      rintro e w' ⟨rfl, v', x', t, hor⟩
      have hb : okB false cap ys = true := by simp [okB, hl]
      refine ⟨by rw [hb], v', H.step (t.mono (fun k hk => .inr (.inr hk))) ?_ ?_, t.mono (fun k hk => .inr (.inr hk)), fun k hk => hor.elim (fun e => .inl (e ▸ hk)) (fun ⟨b, e, hb'⟩ => .inr (by rw [e] at hk; injection hk with hk; omega))⟩
      · obtain ⟨h1, h2, h3, h4⟩ := H.a.apart
        refine ⟨H.a.q.turn t (fun e => e.elim (fun e => h1 e.symm) (fun e => h3 _ e rfl)) (fun e => e.elim (fun e => h2 e.symm) (fun e => h4 _ e rfl)), ?_, H.a.lx, ?_, H.a.cap, H.a.gB, H.a.cB⟩
        · simp only [putL, hb, if_true]; exact x'
        · simp only [putL, hb, if_true, List.length_append, List.length_cons, List.length_nil]; omega
      · rintro k (hk | hk | hk | hk)
        · exact .inl (.inl hk)
        · exact .inl (.inr (.inl hk))
        · exact .inl (.inr (.inr (.inl hk)))
        · rcases hor with e | ⟨b, e, hb'⟩
          · exact .inl (.inr (.inr (.inr (e ▸ hk))))
          · simp only [e, Option.some.injEq] at hk
            exact .inr (by omega)
    · refine (RQ.put_full hx (Nat.not_lt.1 hl) n).mono ?_
      rintro e w' ⟨rfl, m, rfl⟩
      have hb : okB false cap ys = false := by simp [okB]; omega
      refine ⟨by rw [hb], v, ?_⟩
      have e : putL false cap ys n = ys := by simp [putL, hb]
      simp only [e]
      exact ⟨H.drewN m, (Turn.refl _ w).drewN m, fun _ hk => .inl hk⟩
def hdI (xs : List Int) : Int := xs.headD 0
theorem takeq (H : St W B p p2 w) : Calls Try.prog 10 #[.pointer (some ⟨p.g, 0, none⟩)] w fun e w' => e = .returned (.tuple #[.int .i64 (hdI p.xs), .bool (!p.xs.isEmpty)]) ∧ St W B { p with xs := p.xs.tail } p2 w' := by
  obtain ⟨g, c, cap, h, v, xs, ys, cl, cl2⟩ := p
  cases xs with
  | nil =>
    have hq := H.a.q
    refine (QI.take_empty hq).mono ?_
    rintro e w' ⟨rfl, rfl⟩
    exact ⟨rfl, H⟩
  | cons y xs =>
    have hq := H.a.q
    refine (QI.take_some y (ints xs) hq).mono ?_
    rintro e w' ⟨rfl, q', t⟩
    obtain ⟨h1, h2, h3, h4⟩ := H.a.apart
    refine ⟨rfl, H.step (t.mono (fun k hk => .inr (.inl hk))) ⟨q', H.a.x.turn t (fun e => h2 e) (fun k hk e => h4 k hk e), ?_, H.a.ly, H.a.cap, H.a.gB, H.a.cB⟩ (fun k hk => .inl hk)⟩
    have := H.a.lx
    simp at this ⊢
    omega
theorem takex (H : St W B p p2 w) : Calls Try.prog 31 #[.pointer (some ⟨p.h, 0, none⟩)] w fun e w' => e = .returned (.tuple #[.int .i64 (hdI p.ys), .bool (!p.ys.isEmpty)]) ∧ ∃ v', St W B { p with ys := p.ys.tail, v := v' } p2 w' ∧ Turn p.foot w w' ∧ ∀ k, v'.ownBlock = some k → p.v.ownBlock = some k ∨ w.heap.size ≤ k := by
  obtain ⟨g, c, cap, h, v, xs, ys, cl, cl2⟩ := p
  cases ys with
  | nil =>
    have hx := H.a.x
    refine (RQ.take_empty hx).mono ?_
    rintro e w' ⟨rfl, m, rfl⟩
    exact ⟨rfl, v, H.drewN m, (Turn.refl _ w).drewN m, fun _ hk => .inl hk⟩
  | cons y ys =>
    have hx := H.a.x
    have hl := H.a.ly
    have hc := H.a.cap
    simp at hl
    refine (RQ.take_some hx (by dsimp only at hc; omega) H.size).mono ?_
    rintro e w' ⟨rfl, v', x', t, hv⟩
    obtain ⟨h1, h2, h3, h4⟩ := H.a.apart
    refine ⟨rfl, v', H.step (t.mono (fun k hk => .inr (.inr (.inl hk)))) ⟨H.a.q.turn t (fun e => h1 e.symm) (fun e => h2 e.symm), x', H.a.lx, by simp; omega, H.a.cap, H.a.gB, H.a.cB⟩ ?_, t.mono (fun k hk => .inr (.inr (.inl hk))), fun k hk => .inr (hv k hk)⟩
    rintro k (hk | hk | hk | hk)
    · exact .inl (.inl hk)
    · exact .inl (.inr (.inl hk))
    · exact .inl (.inr (.inr (.inl hk)))
    · exact .inr (hv k hk)

def roomV (cl : Bool) (cap n : Nat) : Int := if cl then 0 else (cap : Int) - n
theorem roomx (H : St W B p p2 w) : Calls Try.prog 33 #[.pointer (some ⟨p.h, 0, none⟩)] w fun e w' => e = .returned (.int .i64 (roomV p.cl2 p.cap p.ys.length)) ∧ ∃ n, w' = w.drewN n := by
  obtain ⟨g, c, cap, h, v, xs, ys, cl, cl2⟩ := p
  cases cl2 with
  | true => exact RQ.room_shut H.a.x
  | false => exact RQ.room_open H.a.x H.a.cap H.a.ly
theorem roomq (H : St W B p p2 w) : Calls Try.prog 21 #[.pointer (some ⟨p.g, 0, none⟩)] w fun e w' => e = .returned (.int .i64 (roomV p.cl p.cap p.xs.length)) ∧ ∃ n, w' = w.drewN n := by
  obtain ⟨g, c, cap, h, v, xs, ys, cl, cl2⟩ := p
  cases cl with
  | true => exact (QI.room_closed H.a.q).mono fun e w' ⟨h1, h2⟩ => ⟨h1, 0, h2.symm⟩
  | false =>
    refine (QI.room_open H.a.q (by simpa using H.a.lx) H.a.cap).mono fun e w' ⟨h1, h2⟩ => ⟨?_, h2⟩
    rw [h1]
    simp [roomV]

theorem movq (H : St W B p p2 w) (most : Int) : Calls Try.prog 24 #[.pointer (some ⟨p.g, 0, none⟩), .pointer (some ⟨p2.g, 0, none⟩), .int .i64 most] w fun e w' =>
    e = .returned (.int .i64 (QI.moveN most p2.cl p2.cap p.xs.length p2.xs.length)) ∧
      St W B { p with xs := p.xs.drop (QI.moveN most p2.cl p2.cap p.xs.length p2.xs.length) } { p2 with xs := p2.xs ++ p.xs.take (QI.moveN most p2.cl p2.cap p.xs.length p2.xs.length) } w' ∧ Turn (fun k => p.foot k ∨ p2.foot k) w w' := by
  have hgg : p.g ≠ p2.g := fun e => H.dis p.g (.inl rfl) (.inl e)
  have hcc : p.c ≠ p2.c := fun e => H.dis p.c (.inr (.inl rfl)) (.inr (.inl e))
  refine (QI.move_at p.xs p2.xs most H.a.q H.b.q hgg hcc (Nat.le_trans H.a.lx H.a.cap) H.b.lx H.b.cap).mono ?_
  rintro e w' ⟨rfl, M⟩
  refine ⟨rfl, ?_, M.t.mono (fun k hk => hk.elim (fun e => .inl (.inr (.inl e))) (fun e => .inr (.inr (.inl e))))⟩
  obtain ⟨h1, h2, h3, h4⟩ := H.a.apart
  obtain ⟨k1, k2, k3, k4⟩ := H.b.apart
  have hle := M.le
  have d1 : ∀ k, p.foot k → k ≠ p2.c := fun k hk e => H.dis k hk (.inr (.inl e))
  have d2 : ∀ k, p2.foot k → k ≠ p.c := fun k hk e => H.dis k (.inr (.inl e)) hk
  refine ⟨⟨M.a, H.a.x.turn M.t (fun e => e.elim (fun e => h2 e) (fun e => d1 _ (.inr (.inr (.inl rfl))) e)) (fun k hk e => e.elim (fun e => h4 k hk e) (fun e => d1 k (.inr (.inr (.inr hk))) e)), ?_, H.a.ly, H.a.cap, H.a.gB, H.a.cB⟩,
    ⟨M.b, H.b.x.turn M.t (fun e => e.elim (fun e => d2 _ (.inr (.inr (.inl rfl))) e) (fun e => k2 e)) (fun k hk e => e.elim (fun e => d2 k (.inr (.inr (.inr hk))) e) (fun e => k4 k hk e)), ?_, H.b.ly, H.b.cap, H.b.gB, H.b.cB⟩, H.dis, Nat.le_trans H.size M.t.size, below_turn H.bel M.t H.size (fun k hk => hk.elim (fun e => e ▸ H.a.cB) (fun e => e ▸ H.b.cB))⟩
  · have := H.a.lx
    simp
    omega
  · have := H.b.lx
    unfold QI.moveN at hle
    simp only [List.length_append, List.length_take]
    unfold QI.moveN
    split <;> simp <;> omega

/-- The rounds of the document's Move. -/
structure MX (W : World) (B : Nat) (p p2 : PD) (w : World) (k : Nat) (v v2 : Value) (wr : World) : Prop where
  st : St W B { p with ys := p.ys.drop k, v := v } { p2 with ys := p2.ys ++ p.ys.take k, v := v2 } wr
  t : Turn (fun k => p.foot k ∨ p2.foot k) w wr
  s1 : ∀ j, v.ownBlock = some j → p.v.ownBlock = some j ∨ w.heap.size ≤ j
  s2 : ∀ j, v2.ownBlock = some j → p2.v.ownBlock = some j ∨ w.heap.size ≤ j
theorem MX.step {k : Nat} {v v2 v' v2' : Value} {w1 w2 w3 : World} (t0 : Turn (fun k => p.foot k ∨ p2.foot k) w w1) (s1 : ∀ j, v.ownBlock = some j → p.v.ownBlock = some j ∨ w.heap.size ≤ j) (s2 : ∀ j, v2.ownBlock = some j → p2.v.ownBlock = some j ∨ w.heap.size ≤ j)
    (st : St W B { p with ys := p.ys.drop (k + 1), v := v' } { p2 with ys := p2.ys ++ p.ys.take (k + 1), v := v2' } w3) {ya yb : List Int} (tt : Turn (PD.foot { p with ys := ya, v := v }) w1 w2) (tp : Turn (PD.foot { p2 with ys := yb, v := v2 }) w2 w3)
    (st1 : ∀ j, v'.ownBlock = some j → v.ownBlock = some j ∨ w1.heap.size ≤ j) (sp : ∀ j, v2'.ownBlock = some j → v2.ownBlock = some j ∨ w2.heap.size ≤ j) : MX W B p p2 w (k + 1) v' v2' w3 := by
  have z0 := t0.size
  have z1 := tt.size
  refine ⟨st, (t0.then_ tt ?_).then_ tp ?_, ?_, ?_⟩
  · rintro j (hj | hj | hj | hj)
    · exact .inl (.inl (.inl hj))
    · exact .inl (.inl (.inr (.inl hj)))
    · exact .inl (.inl (.inr (.inr (.inl hj))))
    · exact (s1 j hj).imp (fun h => .inl (.inr (.inr (.inr h)))) id
  · rintro j (hj | hj | hj | hj)
    · exact .inl (.inr (.inl hj))
    · exact .inl (.inr (.inr (.inl hj)))
    · exact .inl (.inr (.inr (.inr (.inl hj))))
    · exact (s2 j hj).imp (fun h => .inr (.inr (.inr (.inr h)))) id
  · intro j hj
    rcases st1 j hj with h | h
    · exact s1 j h
    · exact .inr (by omega)
  · intro j hj
    rcases sp j hj with h | h
    · exact s2 j h
    · exact .inr (by omega)

theorem movx (H : St W B p p2 w) (most : Int) : Calls Try.prog 32 #[.pointer (some ⟨p.h, 0, none⟩), .pointer (some ⟨p2.h, 0, none⟩), .int .i64 most] w fun e w' =>
    e = .returned (.int .i64 (QI.moveN most p2.cl2 p2.cap p.ys.length p2.ys.length)) ∧
      ∃ v v2, St W B { p with ys := p.ys.drop (QI.moveN most p2.cl2 p2.cap p.ys.length p2.ys.length), v := v } { p2 with ys := p2.ys ++ p.ys.take (QI.moveN most p2.cl2 p2.cap p.ys.length p2.ys.length), v := v2 } w' ∧ Turn (fun k => p.foot k ∨ p2.foot k) w w' := by
  obtain ⟨N, hN⟩ : ∃ N, N = QI.moveN most p2.cl2 p2.cap p.ys.length p2.ys.length := ⟨_, rfl⟩
  rw [← hN]
  have HN := Lib.hid hN
  clear hN
  go_enter Try.func32, Try.ntmps32
  go_wp2
  go_loopw [7] (fun n wr => ∃ k : Nat, k ≤ N ∧ n = .int .i64 k ∧ ∃ v v2, MX W B p p2 w k v v2 wr) (fun n _ => p.ys.length - (intOf n).toNat)
  case atStart => exact ⟨0, Nat.zero_le _, rfl, p.v, p2.v, by simpa using H, Turn.refl _ _, fun _ hk => .inl hk, fun _ hk => .inl hk⟩
  case round =>
    obtain ⟨k, hk, rfl, v, v2, I, tI, s1, s2⟩ := hrel
    have hl1 := H.a.ly
    have hc1 := H.a.cap
    have hc2 := H.b.cap
    have hl2 := H.b.ly
    obtain ⟨m1, hm1⟩ : ∃ m1, m1 = (p.ys.drop k).length := ⟨_, rfl⟩
    have hx := I.a.x
    obtain ⟨A, cA, hv⟩ := own_slice hx.own
    dsimp only at hx hv
    subst hv
    have TI := Lib.hid tI
    have S1 := Lib.hid s1
    have S2 := Lib.hid s2
    clear tI s1 s2
    rw [← hm1] at hx
    have c0 : wr.cell? ⟨p.h, 0, none⟩ = some (.slice A m1 cA) := cell_of_blk hx.blk 0
    obtain ⟨r, hr⟩ : ∃ r, r = roomV p2.cl2 p2.cap (p2.ys ++ p.ys.take k).length := ⟨_, rfl⟩
    have hroom := roomx I.swap
    dsimp only at hroom
    rw [← hr] at hroom
    have HR := Lib.hid hroom
    have hNle : N ≤ p.ys.length ∧ (0 ≤ most → (N : Int) ≤ most) ∧ (N : Int) ≤ p.ys.length := by
      have := HN.out
      unfold QI.moveN at this
      split at this <;> omega
    have hm1' : m1 = p.ys.length - k := by rw [hm1]; simp
    have hexit : (¬ (k : Int) < most ∨ m1 = 0 ∨ ¬ 0 < r) → k = N := by
      intro h
      have h2 := HN.out
      unfold QI.moveN at h2
      unfold roomV at hr
      split at h2
      · omega
      · rename_i hcl
        rw [if_neg hcl] at hr
        simp only [List.length_append, List.length_take] at hr
        omega
    have hgo : (k : Int) < most → 0 < m1 → 0 < r → k + 1 ≤ N ∧ putL p2.cl2 p2.cap (p2.ys ++ p.ys.take k) (hdI (p.ys.drop k)) = p2.ys ++ p.ys.take (k + 1) := by
      intro h1 h3 h4
      have h2 := HN.out
      unfold QI.moveN at h2
      unfold roomV at hr
      split at h2
      · rename_i hcl
        rw [if_pos hcl] at hr
        omega
      · rename_i hcl
        rw [if_neg hcl] at hr
        simp only [List.length_append, List.length_take] at hr
        refine ⟨by omega, ?_⟩
        have hb : okB p2.cl2 p2.cap (p2.ys ++ p.ys.take k) = true := by
          simp only [okB, Bool.and_eq_true, decide_eq_true_eq, List.length_append, List.length_take]
          refine ⟨by simpa using hcl, by omega⟩
        have hd : hdI (p.ys.drop k) = p.ys.getD k 0 := by
          rw [drop_cons p.ys 0 (by omega)]
          rfl
        rw [putL, hb, if_pos rfl, hd, take_snoc p.ys 0 (by omega), List.append_assoc]
    have HX := Lib.hid hexit
    have HG := Lib.hid hgo
    have hI := Lib.hid I
    have hk0 : 0 ≤ (k : Int) := by omega
    have hk1 : k ≤ 1024 := by omega
    clear hroom hr hm1 hexit hgo hx hm1' hNle
    by_cases b1 : (k : Int) < most
    · by_cases b2 : 0 < m1
      · by_cases b3 : 0 < r
        · have ht := takex I
          have HT := Lib.hid ht
          clear ht I
          go_wp2_with (first
            | (go_at_call 33; refine HR.out.mono ?_; rintro e w1 ⟨rfl, n1, rfl⟩)
            | (go_at_call 31; refine (takex (hI.out.drewN n1)).mono ?_; rintro e w2 ⟨rfl, v', I2, tt, st⟩)
            | (go_at_call 30; refine (putx (St.swap I2) _).mono ?_; rintro e w3 ⟨rfl, v2', I3, tp, sp⟩))
          go_roundw
          case rel =>
            obtain ⟨g1, g2⟩ := HG.out b1 b2 b3
            refine ⟨k + 1, g1, by go_num, v', v2', ?_⟩
            have I4 := I3.swap
            rw [g2, List.tail_drop] at I4
            exact MX.step (TI.out.drewN n1) S1.out S2.out I4 tt tp st sp
          case measure => simp [intOf]; have := (HG.out b1 b2 b3).1; have h2 := HN.out; unfold QI.moveN at h2; split at h2 <;> omega
        · have hkN := Lib.hid (HX.out (.inr (.inr b3)))
          clear I
          go_wp2_with (go_at_call 33; refine HR.out.mono ?_; rintro e w1 ⟨rfl, n1, rfl⟩)
          go_ret
          rw [← hkN.out]
          exact ⟨rfl, _, _, hI.out.drewN n1, TI.out.drewN n1⟩
      · have hkN := Lib.hid (HX.out (.inr (.inl (by omega))))
        obtain rfl : m1 = 0 := by omega
        clear I
        go_wp2
        go_ret
        rw [← hkN.out]
        first | exact ⟨rfl, _, _, hI.out, TI.out⟩ | exact ⟨rfl, ⟨_, _, hI.out⟩, TI.out⟩
    · have hkN := Lib.hid (HX.out (.inl b1))
      clear I
      go_wp2
      go_ret
      rw [← hkN.out]
      first | exact ⟨rfl, _, _, hI.out, TI.out⟩ | exact ⟨rfl, ⟨_, _, hI.out⟩, TI.out⟩
end
end Go.Proofs.Ytncapimnlgncpaa
