/- Rows compared, ordered, read from bytes. -/
import Derived.Test.YtkbapoeilcapfaaGreatMB
import Derived.Sort.Walk0
import Derived.Deep.RegionHeld3
import Derived.Laws.BytesArg
import Derived.Laws.BitsAllLaws
import Derived.Laws.ResultCell
import Derived.RegionTactic
import Derived.BigRegion
import Derived.SliceStrings
import Derived.Deep.Slices
import Derived.Deep.Fields
/- the same rows are the same. -/
namespace Go.Proofs.YtkbapoeilcapfaaGreat
open Go.RowKit

theorem less_irrefl : ∀ x : List UInt8, Op.bytesLess x x = false
  | [] => by simp [Op.bytesLess]
  | a :: x => by simp [Op.bytesLess, less_irrefl x]
theorem cmp1_same (v : V) (w : World) (hs : v.s.size ≤ 9223372036854775807) : Calls Tryz.prog 112 #[.agg #[.int .i64 v.k, .int .i64 v.n, .string v.s], .agg #[.int .i64 v.k, .int .i64 v.n, .string v.s]] w fun e w' => e = .returned (.int .i64 0) ∧ Below w.heap.size w w' := by
  obtain ⟨k, n, s⟩ := v
  dsimp only
  have hb := less_irrefl s.toList
  go_enter Tryz.func112, Tryz.ntmps112
  go_wp2
  go_ret
  exact ⟨rfl, ((Below.refl _ _).alloc (Nat.le_refl _) _).alloc (by simp) _⟩
theorem cmp_same {w : World} {A A2 : Option Addr} {n c c2 : Nat} (r : List V) (hr : RdV w A n r) (hr2 : RdV w A2 n r) :
    Calls Tryz.prog 82 #[.slice A n c, .slice A2 n c2] w fun e w' => e = .returned (.int .i64 0) ∧ Below w.heap.size w w' := by
  have hn := hr.max
  go_enter Tryz.func82, Tryz.ntmps82
  go_wp2
  go_loopw [5] (fun i wr => ∃ k : Nat, k ≤ n ∧ i = .int .i64 k ∧ Below w.heap.size w wr) (fun i _ => n - (intOf i).toNat)
  case atStart => exact ⟨0, by omega, rfl, Below.refl _ _⟩
  case round =>
    obtain ⟨k, hk, rfl, bel⟩ := hrel
    by_cases hlt : k < n
    · obtain ⟨ad, v, rfl, had, hv, hs, d0, d1, d2⟩ := hr.at_ bel hlt
      obtain ⟨ad2, v2, rfl, had2, hv2, hs2, e0, e1, e2⟩ := hr2.at_ bel hlt
      obtain rfl : v = v2 := by rw [hv] at hv2; exact Option.some.inj hv2
      have HC := Lib.hid (fun W => cmp1_same v W hs)
      clear hr hr2 hv hv2
      go_wp2
      go_region_with (go_at_call 112; refine (HC.out _).mono ?_; rintro e w1 ⟨rfl, b1⟩)
      all_goals
        have b2 : Below w.heap.size w w1 := (below_drew bel).trans (b1.mono bel.size)
        go_wp2
        go_roundw
      all_goals first
        | exact ⟨k + 1, by omega, by go_num, b2⟩
        | (simp [intOf]; omega)
    · clear hr hr2
      go_wp2
      go_ret
      exact ⟨rfl, bel⟩
theorem same_same {w : World} {A A2 : Option Addr} {n c c2 : Nat} (r : List V) (hr : RdV w A n r) (hr2 : RdV w A2 n r) :
    Calls Tryz.prog 44 #[.slice A n c, .slice A2 n c2] w fun e w' => e = .returned (.bool true) ∧ Below w.heap.size w w' := by
  have HC := Lib.hid (cmp_same (c := c) (c2 := c2) r hr hr2)
  clear hr hr2
  go_enter Tryz.func44, Tryz.ntmps44
  go_wp2_with (go_at_call 82; refine HC.out.mono ?_; rintro e w1 ⟨rfl, b1⟩)
  go_ret
  exact ⟨by trivial, b1⟩
/-- Headers that can be read, all of them. -/
def RdHs (w : World) (hds : List Value) : Prop := ∀ (i : Nat) h, hds[i]? = some h → ∃ B m c r, h = Value.slice B m c ∧ RdV w B m r
theorem RdHs.below {w w' : World} {hds : List Value} (h : RdHs w hds) (hb : Below w.heap.size w w') : RdHs w' hds := fun i x hx => by
  obtain ⟨B, m, c, r, e, h2⟩ := h i x hx
  exact ⟨B, m, c, r, e, h2.below hb⟩
theorem samelist_same {w : World} {A A2 : Option Addr} {n c c2 : Nat} (hds : List Value) (ha : Rd1 w A n hds) (hb : Rd1 w A2 n hds) (hh : RdHs w hds) :
    Calls Tryz.prog 18 #[.slice A n c, .slice A2 n c2] w fun e w' => e = .returned (.bool true) ∧ Below w.heap.size w w' := by
  have hn := ha.2.1
  go_enter Tryz.func18, Tryz.ntmps18
  go_wp2
  go_loopw [5] (fun i wr => ∃ k : Nat, k ≤ n ∧ i = .int .i64 k ∧ Below w.heap.size w wr) (fun i _ => n - (intOf i).toNat)
  case atStart => exact ⟨0, by omega, rfl, Below.refl _ _⟩
  case round =>
    obtain ⟨k, hk, rfl, bel⟩ := hrel
    by_cases hlt : k < n
    · obtain ⟨ad, rfl, had, hc⟩ := (ha.below bel).at2 hlt
      obtain ⟨ad2, rfl, had2, hc2⟩ := (hb.below bel).at2 hlt
      have hkl : k < hds.length := by have := ha.1; omega
      obtain ⟨h0, hh0⟩ : ∃ h0, hds[k]? = some h0 := ⟨_, List.getElem?_eq_getElem hkl⟩
      obtain ⟨B, m, cc, r, rfl, hrv⟩ := (hh.below bel) k h0 hh0
      rw [hh0] at hc hc2
      have HS := Lib.hid (fun (W : World) (b : Below wr.heap.size wr W) => same_same (c := cc) (c2 := cc) r (hrv.below b) (hrv.below b))
      have HB0 := Lib.hid (below_drew (Below.refl wr.heap.size wr))
      clear ha hb hh hh0 hrv
      go_wp2
      go_region_with (go_at_call 44; refine (HS.out _ HB0.out).mono ?_; rintro e w1 ⟨rfl, b1⟩)
      all_goals
        have b2 : Below w.heap.size w w1 := (below_drew bel).trans (b1.mono bel.size)
        go_wp2
        go_roundw
      all_goals first
        | exact ⟨k + 1, by omega, by go_num, b2⟩
        | (simp [intOf]; omega)
    · clear ha hb hh
      go_wp2
      go_ret
      exact ⟨by trivial, bel⟩
end Go.Proofs.YtkbapoeilcapfaaGreat

/- The order of values and rows: plain. -/
namespace Go.Proofs.YtkbapoeilcapfaaGreat
open Go.RowKit

def cmpV (a b : V) : Int :=
  if a.k < b.k ∨ (a.k = b.k ∧ (a.n < b.n ∨ (a.n = b.n ∧ a.s.toList < b.s.toList))) then -1
  else if a.k = b.k ∧ a.n = b.n ∧ a.s.toList = b.s.toList then 0 else 1
def cmpR : List V → List V → Int
  | [], [] => 0
  | [], _ :: _ => -1
  | _ :: _, [] => 1
  | a :: x, b :: y => if cmpV a b = 0 then cmpR x y else cmpV a b
theorem toList_inj {s t : ByteArray} (h : s.toList = t.toList) : s = t := by
  rw [ByteArray.toList_eq, ByteArray.toList_eq] at h
  cases s with | mk a => cases t with | mk b => cases a; cases b; simpa using h
theorem cmpV_zero {a b : V} : cmpV a b = 0 ↔ a = b := by
  constructor
  · intro h
    unfold cmpV at h
    split at h
    · omega
    · split at h
      · rename_i h2
        obtain ⟨e1, e2, e3⟩ := h2
        cases a; cases b
        simp only at e1 e2 e3
        rw [e1, e2, toList_inj e3]
      · omega
  · rintro rfl
    unfold cmpV
    rw [if_neg, if_pos ⟨rfl, rfl, rfl⟩]
    rintro (h | ⟨_, h | ⟨_, h⟩⟩)
    · omega
    · omega
    · exact List.lt_irrefl _ h
/-- strictly before -/
def ltV (a b : V) : Prop := a.k < b.k ∨ (a.k = b.k ∧ (a.n < b.n ∨ (a.n = b.n ∧ a.s.toList < b.s.toList)))
theorem ltV_irrefl (a : V) : ¬ ltV a a := by
  rintro (h | ⟨_, h | ⟨_, h⟩⟩)
  · omega
  · omega
  · exact List.lt_irrefl _ h
theorem ltV_trans {a b c : V} (h1 : ltV a b) (h2 : ltV b c) : ltV a c := by
  unfold ltV at *
  rcases h1 with h1 | ⟨e1, h1 | ⟨f1, h1⟩⟩ <;> rcases h2 with h2 | ⟨e2, h2 | ⟨f2, h2⟩⟩
  · left; omega
  · left; omega
  · left; omega
  · left; omega
  · right; exact ⟨by omega, .inl (by omega)⟩
  · right; exact ⟨by omega, .inl (by omega)⟩
  · left; omega
  · right; exact ⟨by omega, .inl (by omega)⟩
  · right; exact ⟨by omega, .inr ⟨by omega, List.lt_trans h1 h2⟩⟩
theorem ltV_total (a b : V) : ltV a b ∨ a = b ∨ ltV b a := by
  unfold ltV
  by_cases h1 : a.k < b.k
  · exact .inl (.inl h1)
  by_cases h2 : b.k < a.k
  · exact .inr (.inr (.inl h2))
  by_cases h3 : a.n < b.n
  · exact .inl (.inr ⟨by omega, .inl h3⟩)
  by_cases h4 : b.n < a.n
  · exact .inr (.inr (.inr ⟨by omega, .inl h4⟩))
  by_cases h5 : a.s.toList < b.s.toList
  · exact .inl (.inr ⟨by omega, .inr ⟨by omega, h5⟩⟩)
  by_cases h6 : b.s.toList < a.s.toList
  · exact .inr (.inr (.inr ⟨by omega, .inr ⟨by omega, h6⟩⟩))
  have e : a.s.toList = b.s.toList := List.le_antisymm (List.not_lt.1 h6) (List.not_lt.1 h5)
  refine .inr (.inl ?_)
  have e1 : a.k = b.k := by omega
  have e2 : a.n = b.n := by omega
  cases a; cases b
  simp only at e e1 e2
  rw [e1, e2, toList_inj e]
theorem cmpV_neg {a b : V} : cmpV a b = -1 ↔ ltV a b := by
  unfold cmpV ltV
  split
  · rename_i h; exact ⟨fun _ => h, fun _ => rfl⟩
  · rename_i h
    constructor
    · intro h2; split at h2 <;> omega
    · intro h2; exact absurd h2 h
/-- Before, or the same. -/
def leR : List V → List V → Prop
  | [], _ => True
  | _ :: _, [] => False
  | a :: x, b :: y => ltV a b ∨ (a = b ∧ leR x y)
theorem leR_iff : ∀ (x y : List V), cmpR x y ≤ 0 ↔ leR x y
  | [], [] => by simp [cmpR, leR]
  | [], _ :: _ => by simp [cmpR, leR]
  | _ :: _, [] => by simp [cmpR, leR]
  | a :: x, b :: y => by
    unfold cmpR leR
    by_cases h : cmpV a b = 0
    · have e := cmpV_zero.1 h
      subst e
      rw [if_pos h, leR_iff x y]
      constructor
      · exact fun h => .inr ⟨rfl, h⟩
      · rintro (h | ⟨_, h⟩)
        · exact absurd h (ltV_irrefl _)
        · exact h
    · rw [if_neg h]
      have hv : cmpV a b = -1 ∨ cmpV a b = 0 ∨ cmpV a b = 1 := by
        unfold cmpV
        split
        · simp
        · split <;> simp
      constructor
      · intro h2
        rcases hv with hv | hv | hv
        · exact .inl (cmpV_neg.1 hv)
        · exact absurd hv h
        · omega
      · rintro (h2 | ⟨rfl, _⟩)
        · rw [cmpV_neg.2 h2]; decide
        · exact absurd (cmpV_zero.2 rfl) h
theorem leR_refl : ∀ x : List V, leR x x
  | [] => trivial
  | _ :: x => .inr ⟨rfl, leR_refl x⟩
theorem leR_trans : ∀ {x y z : List V}, leR x y → leR y z → leR x z
  | [], _, _, _, _ => trivial
  | _ :: _, [], _, h, _ => h.elim
  | _ :: _, _ :: _, [], _, h => h.elim
  | _ :: _, _ :: _, _ :: _, h1, h2 => by
    rcases h1 with h1 | ⟨rfl, h1⟩
    · rcases h2 with h2 | ⟨rfl, _⟩
      · exact .inl (ltV_trans h1 h2)
      · exact .inl h1
    · rcases h2 with h2 | ⟨rfl, h2⟩
      · exact .inl h2
      · exact .inr ⟨rfl, leR_trans h1 h2⟩
theorem leR_antisymm : ∀ {x y : List V}, leR x y → leR y x → x = y
  | [], [], _, _ => rfl
  | [], _ :: _, _, h => h.elim
  | _ :: _, [], h, _ => h.elim
  | a :: x, b :: y, h1, h2 => by
    rcases h1 with h1 | ⟨rfl, h1⟩
    · rcases h2 with h2 | ⟨rfl, h2⟩
      · exact absurd (ltV_trans h1 h2) (ltV_irrefl _)
      · exact absurd h1 (ltV_irrefl _)
    · rcases h2 with h2 | ⟨_, h2⟩
      · exact absurd h2 (ltV_irrefl _)
      · rw [leR_antisymm h1 h2]
theorem leR_total : ∀ (x y : List V), leR x y ∨ leR y x
  | [], _ => .inl trivial
  | _ :: _, [] => .inr trivial
  | a :: x, b :: y => by
    rcases ltV_total a b with h | rfl | h
    · exact .inl (.inl h)
    · rcases leR_total x y with h | h
      · exact .inl (.inr ⟨rfl, h⟩)
      · exact .inr (.inr ⟨rfl, h⟩)
    · exact .inr (.inl h)
/-- Two sorted lists with the same members are one. -/
theorem sorted_perm : ∀ {l m : List (List V)}, l.Perm m → l.Pairwise leR → m.Pairwise leR → l = m
  | [], m, hp, _, _ => (List.Perm.nil_eq hp)
  | a :: l, [], hp, _, _ => by simpa using hp.length_eq
  | a :: l, b :: m, hp, h1, h2 => by
    rw [List.pairwise_cons] at h1 h2
    have e : a = b := by
      have ha : a ∈ b :: m := hp.subset List.mem_cons_self
      have hb : b ∈ a :: l := hp.symm.subset List.mem_cons_self
      have l1 : leR b a := by
        rcases List.mem_cons.1 ha with e | e
        · rw [e]; exact leR_refl _
        · exact h2.1 a e
      have l2 : leR a b := by
        rcases List.mem_cons.1 hb with e | e
        · rw [e]; exact leR_refl _
        · exact h1.1 b e
      exact leR_antisymm l2 l1
    subst e
    rw [sorted_perm (List.Perm.cons_inv hp) h1.2 h2.2]
end Go.Proofs.YtkbapoeilcapfaaGreat

/- Compare, in full. -/
namespace Go.Proofs.YtkbapoeilcapfaaGreat
open Go.RowKit

theorem cmp1_walk (a b : V) (w : World) (ha : a.s.size ≤ 9223372036854775807) (hb : b.s.size ≤ 9223372036854775807) : Calls Tryz.prog 112 #[.agg #[.int .i64 a.k, .int .i64 a.n, .string a.s], .agg #[.int .i64 b.k, .int .i64 b.n, .string b.s]] w fun e w' => e = .returned (.int .i64 (cmpV a b)) ∧ Below w.heap.size w w' := by
  have hbel : ∀ o1 o2, Below w.heap.size w ((w.alloc o1).alloc o2) := fun o1 o2 => ((Below.refl _ _).alloc (Nat.le_refl _) _).alloc (by simp) _
  obtain ⟨k, n, s⟩ := a
  obtain ⟨k', n', s'⟩ := b
  dsimp only at ha hb ⊢
  by_cases h1 : k < k'
  · have HX := Lib.hid (show cmpV ⟨k, n, s⟩ ⟨k', n', s'⟩ = -1 from cmpV_neg.2 (.inl h1))
    go_enter Tryz.func112, Tryz.ntmps112
    go_wp2
    go_ret
    exact ⟨by rw [HX.out]; rfl, hbel _ _⟩
  by_cases h2 : k' < k
  · have HX := Lib.hid (show cmpV ⟨k, n, s⟩ ⟨k', n', s'⟩ = 1 by
      unfold cmpV; dsimp only; rw [if_neg (by omega), if_neg (by omega)])
    have hk : (k == k') = false := by simp; omega
    go_enter Tryz.func112, Tryz.ntmps112
    go_wp2
    go_ret
    exact ⟨by rw [HX.out]; rfl, hbel _ _⟩
  obtain rfl : k = k' := by omega
  clear h1 h2
  by_cases h3 : n < n'
  · have HX := Lib.hid (show cmpV ⟨k, n, s⟩ ⟨k, n', s'⟩ = -1 from cmpV_neg.2 (.inr ⟨rfl, .inl h3⟩))
    go_enter Tryz.func112, Tryz.ntmps112
    go_wp2
    go_ret
    exact ⟨by rw [HX.out]; rfl, hbel _ _⟩
  by_cases h4 : n' < n
  · have HX := Lib.hid (show cmpV ⟨k, n, s⟩ ⟨k, n', s'⟩ = 1 by
      unfold cmpV; dsimp only; rw [if_neg (by omega), if_neg (by omega)])
    have hk : (n == n') = false := by simp; omega
    go_enter Tryz.func112, Tryz.ntmps112
    go_wp2
    go_ret
    exact ⟨by rw [HX.out]; rfl, hbel _ _⟩
  obtain rfl : n = n' := by omega
  clear h3 h4
  by_cases h5 : s.toList < s'.toList
  · have HX := Lib.hid (show cmpV ⟨k, n, s⟩ ⟨k, n, s'⟩ = -1 from cmpV_neg.2 (.inr ⟨rfl, .inr ⟨rfl, h5⟩⟩))
    have hl : Op.bytesLess s.toList s'.toList = true := by rw [bytesLess_eq]; exact decide_eq_true h5
    clear h5
    go_enter Tryz.func112, Tryz.ntmps112
    go_wp2
    go_ret
    exact ⟨by rw [HX.out]; rfl, hbel _ _⟩
  have hl : Op.bytesLess s.toList s'.toList = false := by rw [bytesLess_eq]; exact decide_eq_false h5
  by_cases h6 : s = s'
  · subst h6
    have HX := Lib.hid (show cmpV ⟨k, n, s⟩ ⟨k, n, s⟩ = 0 from cmpV_zero.2 rfl)
    clear h5
    go_enter Tryz.func112, Tryz.ntmps112
    go_wp2
    go_ret
    exact ⟨by rw [HX.out]; rfl, hbel _ _⟩
  · have HX := Lib.hid (show cmpV ⟨k, n, s⟩ ⟨k, n, s'⟩ = 1 by
      unfold cmpV
      dsimp only
      rw [if_neg, if_neg (fun h => h6 (toList_inj h.2.2))]
      rintro (h | ⟨_, h | ⟨_, h⟩⟩)
      · omega
      · omega
      · exact h5 h)
    have hq : (s.toList == s'.toList) = false := by
      rw [beq_eq_false_iff_ne]
      exact fun h => h6 (toList_inj h)
    clear h5
    go_enter Tryz.func112, Tryz.ntmps112
    go_wp2
    go_ret
    exact ⟨by rw [HX.out]; rfl, hbel _ _⟩
theorem cmpR_drop {x y : List V} {k : Nat} {a b : V} (ha : x[k]? = some a) (hb : y[k]? = some b) : cmpR (x.drop k) (y.drop k) = if cmpV a b = 0 then cmpR (x.drop (k + 1)) (y.drop (k + 1)) else cmpV a b := by
  obtain ⟨h1, e1⟩ := List.getElem?_eq_some_iff.1 ha
  obtain ⟨h2, e2⟩ := List.getElem?_eq_some_iff.1 hb
  rw [List.drop_eq_getElem_cons h1, List.drop_eq_getElem_cons h2, e1, e2]
  rfl
theorem cmp_walk {w : World} {A A2 : Option Addr} {n n2 c c2 : Nat} (x y : List V) (hr : RdV w A n x) (hr2 : RdV w A2 n2 y) :
    Calls Tryz.prog 82 #[.slice A n c, .slice A2 n2 c2] w fun e w' => e = .returned (.int .i64 (cmpR x y)) ∧ Below w.heap.size w w' := by
  have hn := hr.max
  have hn2 := hr2.max
  have hlx := hr.len
  have hly := hr2.len
  obtain ⟨E, hE⟩ : ∃ E, E = cmpR x y := ⟨_, rfl⟩
  rw [← hE]
  have HE := Lib.hid hE
  clear hE
  go_enter Tryz.func82, Tryz.ntmps82
  go_wp2
  go_loopw [5] (fun i wr => ∃ k : Nat, k ≤ n ∧ k ≤ n2 ∧ i = .int .i64 k ∧ cmpR (x.drop k) (y.drop k) = E ∧ Below w.heap.size w wr) (fun i _ => n - (intOf i).toNat)
  case atStart => exact ⟨0, by omega, by omega, rfl, HE.out.symm, Below.refl _ _⟩
  case round =>
    obtain ⟨k, hk, hk2, rfl, hE, bel⟩ := hrel
    by_cases hlt : k < n
    · by_cases hlt2 : k < n2
      · obtain ⟨ad, a, rfl, had, ha, hs, d0, d1, d2⟩ := hr.at_ bel hlt
        obtain ⟨ad2, b, rfl, had2, hb, hs2, e0, e1, e2⟩ := hr2.at_ bel hlt2
        have HC := fun W => cmp1_walk a b W hs hs2
        have HD := cmpR_drop ha hb
        rw [hE] at HD
        obtain ⟨q, hq⟩ : ∃ q, q = cmpV a b := ⟨_, rfl⟩
        rw [← hq] at HC HD
        have HC := Lib.hid HC
        by_cases hq0 : q = 0
        · subst hq0
          rw [if_pos rfl] at HD
          have HD := Lib.hid HD
          clear hr hr2 ha hb hq hE
          go_wp2
          go_region_with (go_at_call 112; refine (HC.out _).mono ?_; rintro e w1 ⟨rfl, b1⟩)
          all_goals
            have b2 : Below w.heap.size w w1 := (below_drew bel).trans (b1.mono bel.size)
            go_wp2
            go_roundw
          all_goals first
            | exact ⟨k + 1, by omega, by omega, by go_num, HD.out.symm, b2⟩
            | (simp [intOf]; omega)
        · rw [if_neg hq0] at HD
          have HD := Lib.hid HD
          have hqt : (q != 0) = true := by simpa using hq0
          clear hr hr2 ha hb hq hE
          go_wp2
          go_region_with (go_at_call 112; refine (HC.out _).mono ?_; rintro e w1 ⟨rfl, b1⟩)
          all_goals
            have b2 : Below w.heap.size w w1 := (below_drew bel).trans (b1.mono bel.size)
            go_wp2
            go_ret
            exact ⟨by rw [HD.out]; rfl, b2⟩
      · obtain rfl : k = n2 := by omega
        have HF : E = 1 := by
          rw [← hE, List.drop_eq_getElem_cons (show k < x.length by omega), List.drop_eq_nil_of_le (show y.length ≤ k by omega)]
          rfl
        have HF := Lib.hid HF
        clear hr hr2 hE
        go_wp2
        go_ret
        exact ⟨by rw [HF.out]; rfl, bel⟩
    · obtain rfl : k = n := by omega
      by_cases hlt2 : k < n2
      · have HF : E = -1 := by
          rw [← hE, List.drop_eq_nil_of_le (show x.length ≤ k by omega), List.drop_eq_getElem_cons (show k < y.length by omega)]
          rfl
        have HF := Lib.hid HF
        clear hr hr2 hE
        go_wp2
        go_ret
        exact ⟨by rw [HF.out]; rfl, bel⟩
      · obtain rfl : k = n2 := by omega
        have HF : E = 0 := by
          rw [← hE, List.drop_eq_nil_of_le (show x.length ≤ k by omega), List.drop_eq_nil_of_le (show y.length ≤ k by omega)]
          rfl
        have HF := Lib.hid HF
        clear hr hr2 hE
        go_wp2
        go_ret
        exact ⟨by rw [HF.out]; rfl, bel⟩
end Go.Proofs.YtkbapoeilcapfaaGreat

/- Sort. -/
namespace Go.Proofs.YtkbapoeilcapfaaGreat
open Go.RowKit

abbrev It := Value × List V
def RdIts (w : World) (its : List It) : Prop := ∀ x ∈ its, ∃ B m c, x.1 = Value.slice B m c ∧ RdV w B m x.2
theorem RdIts.below {w w' : World} {its : List It} (h : RdIts w its) (hb : Below w.heap.size w w') : RdIts w' its := fun x hx => by
  obtain ⟨B, m, c, e, hr⟩ := h x hx
  exact ⟨B, m, c, e, hr.below hb⟩
def leI (a b : It) : Prop := leR a.2 b.2
def SortPost (w : World) (n : Nat) (its : List It) (e : Ending) (w' : World) : Prop :=
  ∃ (v : Value) (js : List It), e = .returned v ∧ w'.ownsRow w.heap.size 25 1 v n (js.map Prod.fst) ∧ js.Perm its ∧ js.Pairwise leI ∧ Below w.heap.size w w'
theorem sort_small {w : World} {A : Option Addr} {n c : Nat} (its : List It) (hr : Rd1 w A n (its.map Prod.fst)) (hi : RdIts w its) (h2 : n < 2) :
    Calls Tryz.prog 65 #[.slice A n c] w (SortPost w n its) := by
  have hl : its.length = n := by simpa using hr.1
  have b0 : Below w.heap.size w (w.alloc (.cells #[] 25)) := (Below.refl _ _).alloc (Nat.le_refl _) _
  have ho := World.ownsRow_lit (base := w.heap.size) (e := 25) (size := 1) w #[] 0 (Nat.le_refl _) (by simp [maxLen]) (by simp)
  have hrd := hr.below b0
  have hp : its.Pairwise leI := by
    match its, hl with
    | [], _ => exact List.Pairwise.nil
    | [x], _ => exact List.pairwise_singleton _ _
    | x :: y :: t, h => simp at h; omega
  have HP := Lib.hid (And.intro hp b0)
  have HR := Lib.hid (And.intro ho hrd)
  have hone : ∀ u ∈ its.map Prod.fst, u.oneCell' = true := by
    intro u hu
    obtain ⟨x, hx, rfl⟩ := List.mem_map.1 hu
    obtain ⟨B, m, c, e, _⟩ := hi x hx
    rw [e]
    rfl
  have HO := Lib.hid hone
  clear hp b0 hr hrd ho hone hi
  go_enter Tryz.func65, Tryz.ntmps65
  go_wp2_with (at_builtin; refine wp_appendL w.heap.size rfl (.tmp 9) (.tmp 10) 23 25 (.slice none 0 0) 1 24 rfl Tryz.underlying23 info_L rfl (by omega) (by omega) (.slice (some ⟨w.heap.size, 0, none⟩) 0 0) 0 [] rfl A n c (its.map Prod.fst) rfl (by simp [hl]) (fun h => by obtain ⟨ad, e, _, hc⟩ := HR.out.2.2.2 h; exact ⟨ad, e, hc⟩) HO.out HR.out.1 (by simp) (by omega) ?_; intro v1 w1 h1 t1 _)
  go_ret
  refine ⟨_, its, rfl, by simpa using h1, List.Perm.refl _, HP.out.1, ?_⟩
  exact below_turn HP.out.2 t1 (by simp) (fun k hk => by simp [Value.ownBlock] at hk; omega)
theorem own_below {w w' : World} {base : Nat} {e : TypeId} {size n : Nat} {v : Value} {xs : List Value} (h : w.ownsRow base e size v n xs) (hb : Below w.heap.size w w') : w'.ownsRow base e size v n xs :=
  own_turn h (Turn.of_below hb (fun _ => False)) (fun _ _ h => h)
theorem own_slice_cap {w : World} {base : Nat} {e : TypeId} {size n : Nat} {v : Value} {xs : List Value} (h : w.ownsRow base e size v n xs) : ∃ A c, v = .slice A n c ∧ n ≤ c := by
  rcases h.2 with ⟨rfl, rfl⟩ | ⟨g, cap, cur, rfl, _, _, h, _⟩
  · exact ⟨none, 0, rfl, Nat.le_refl _⟩
  · exact ⟨_, cap, rfl, h⟩
theorem addr_add_add (a : Addr) (m n : Nat) : (a.add m).add n = a.add (m + n) := by
  rcases Nat.eq_zero_or_pos m with rfl | hm
  · simp [Addr.add]
  · rcases Nat.eq_zero_or_pos n with rfl | hn
    · simp [Addr.add]
    · have h1 : ¬ m = 0 := by omega
      have h2 : ¬ n = 0 := by omega
      have h3 : ¬ m + n = 0 := by omega
      simp [Addr.add, h1, h2, Nat.add_assoc]
theorem Rd1.drop {w : World} {ad : Addr} {n h : Nat} {xs : List Value} (hr : Rd1 w (some ad) n xs) (hh : h ≤ n) : Rd1 w (some (ad.add h)) (n - h) (xs.drop h) :=
  ⟨by have := hr.1; simp; omega, by have := hr.2.1; omega, fun hn => by
    obtain ⟨a, e, hlt, hc⟩ := hr.2.2 (by omega)
    obtain rfl := Option.some.inj e
    refine ⟨_, rfl, by rw [add_block]; exact hlt, fun j u hu => ?_⟩
    rw [addr_add_add]
    exact hc _ _ (by rwa [List.getElem?_drop] at hu)⟩
theorem Rd1.take {w : World} {A : Option Addr} {n h : Nat} {xs : List Value} (hr : Rd1 w A n xs) (hh : h ≤ n) : Rd1 w A h (xs.take h) :=
  ⟨by have := hr.1; simp; omega, by have := hr.2.1; omega, fun hn => by
    obtain ⟨a, e, hlt, hc⟩ := hr.2.2 (by omega)
    refine ⟨a, e, hlt, fun j u hu => hc j u ?_⟩
    rw [List.getElem?_take] at hu
    split at hu
    · exact hu
    · cases hu⟩
/-- Behind the two calls. -/
def Mid (w : World) (its : List It) (va vb : Value) (w2 : World) : Prop :=
  ∃ ja jb : List It, w2.ownsRow w.heap.size 25 1 va ja.length (ja.map Prod.fst) ∧ w2.ownsRow w.heap.size 25 1 vb jb.length (jb.map Prod.fst) ∧ (ja ++ jb).Perm its ∧ ja.Pairwise leI ∧ jb.Pairwise leI ∧ Below w.heap.size w w2
/-- What the merging keeps: plain. -/
structure Mg (its xa xb xo : List It) : Prop where
  perm : (xo ++ (xa ++ xb)).Perm its
  so : xo.Pairwise leI
  sa : xa.Pairwise leI
  sb : xb.Pairwise leI
  le : ∀ x ∈ xo, ∀ y ∈ xa ++ xb, leI x y
theorem Mg.a {its xa xb xo : List It} {x : It} (h : Mg its (x :: xa) xb xo) (hx : ∀ y ∈ xb, leI x y) : Mg its xa xb (xo ++ [x]) := by
  have ha := List.pairwise_cons.1 h.sa
  refine ⟨by simpa using h.perm, ?_, ha.2, h.sb, ?_⟩
  · rw [List.pairwise_append]
    exact ⟨h.so, List.pairwise_singleton _ _, fun y hy z hz => by obtain rfl := List.mem_singleton.1 hz; exact h.le y hy _ (by simp)⟩
  · intro y hy z hz
    rcases List.mem_append.1 hy with hy | hy
    · exact h.le y hy z (by rcases List.mem_append.1 hz with hz | hz <;> simp [hz])
    · obtain rfl := List.mem_singleton.1 hy
      rcases List.mem_append.1 hz with hz | hz
      · exact ha.1 z hz
      · exact hx z hz
theorem Mg.b {its xa xb xo : List It} {x : It} (h : Mg its xa (x :: xb) xo) (hx : ∀ y ∈ xa, leI x y) : Mg its xa xb (xo ++ [x]) := by
  have hb := List.pairwise_cons.1 h.sb
  refine ⟨?_, ?_, h.sa, hb.2, ?_⟩
  · refine List.Perm.trans ?_ h.perm
    rw [List.append_assoc]
    refine List.Perm.append_left _ ?_
    rw [List.singleton_append]
    exact List.perm_middle.symm
  · rw [List.pairwise_append]
    exact ⟨h.so, List.pairwise_singleton _ _, fun y hy z hz => by obtain rfl := List.mem_singleton.1 hz; exact h.le y hy _ (by simp)⟩
  · intro y hy z hz
    rcases List.mem_append.1 hy with hy | hy
    · exact h.le y hy z (by rcases List.mem_append.1 hz with hz | hz <;> simp [hz])
    · obtain rfl := List.mem_singleton.1 hy
      rcases List.mem_append.1 hz with hz | hz
      · exact hx z hz
      · exact hb.1 z hz
theorem leI_trans {x y z : It} (h1 : leI x y) (h2 : leI y z) : leI x z := leR_trans h1 h2
/-- The merging's state. -/
def MgRel (w2 : World) (its : List It) (a b o : Value) (wr : World) : Prop :=
  ∃ (xa xb xo : List It) (Aa Ab : Option Addr) (la lb ca cb : Nat), a = .slice Aa la ca ∧ b = .slice Ab lb cb ∧ la = xa.length ∧ lb = xb.length ∧ la ≤ ca ∧ lb ≤ cb ∧ Rd1 w2 Aa la (xa.map Prod.fst) ∧ Rd1 w2 Ab lb (xb.map Prod.fst) ∧
    wr.ownsRow w2.heap.size 25 1 o xo.length (xo.map Prod.fst) ∧ Mg its xa xb xo ∧ Below w2.heap.size w2 wr
theorem MgRel.start {w w2 : World} {its : List It} {va vb : Value} (M : Mid w its va vb w2) : MgRel w2 its va vb (.slice none 0 0) w2 := by
  obtain ⟨ja, jb, oa, ob, p, sa, sb, b⟩ := M
  obtain ⟨Aa, ca, rfl, ha⟩ := own_slice_cap oa
  obtain ⟨Ab, cb, rfl, hb⟩ := own_slice_cap ob
  exact ⟨ja, jb, [], Aa, Ab, _, _, ca, cb, rfl, rfl, rfl, rfl, ha, hb, (Rd1.of_own oa).2, (Rd1.of_own ob).2, World.ownsRow_nil _ _ _ _, ⟨by simpa using p, List.Pairwise.nil, sa, sb, by simp⟩, Below.refl _ _⟩
theorem Rd1.tail {w : World} {ad : Addr} {n : Nat} {x : Value} {xs : List Value} (c : Nat) (hr : Rd1 w (some ad) n (x :: xs)) (hc : n ≤ c) : Rd1 w (if c = 1 then some ad else some (ad.add 1)) (n - 1) xs := by
  have h := hr.drop (h := 1) (by have := hr.1; simp at this; omega)
  rw [List.drop_one, List.tail_cons] at h
  by_cases h1 : c = 1
  · have h0 : n - 1 = 0 := by omega
    rw [h0] at h ⊢
    exact ⟨h.1, by omega, fun h => absurd h (by omega)⟩
  · rw [if_neg h1]
    exact h
/-- The first element of what is left. -/
theorem head_at {w2 wr : World} {its : List It} {A : Option Addr} {n : Nat} {x : It} {xs : List It} (hr : Rd1 w2 A n ((x :: xs).map Prod.fst)) (b : Below w2.heap.size w2 wr) (hi : RdIts w2 its) (hx : x ∈ its) :
    ∃ ad B m c, A = some ad ∧ x.1 = Value.slice B m c ∧ wr.cell? ad = some (.slice B m c) ∧ wr.cell? (ad.add 0) = some (.slice B m c) ∧ RdV wr B m x.2 ∧ 0 < n := by
  have hn : 0 < n := by have := hr.1; simp at this; omega
  obtain ⟨ad, e, hlt, hc⟩ := (hr.below b).at2 (k := 0) hn
  obtain ⟨B, m, c, e2, hv⟩ := hi x hx
  have hc' : wr.cell? (ad.add 0) = some (.slice B m c) := by rw [hc]; simp [e2]
  exact ⟨ad, B, m, c, e, e2, by simpa [Addr.add] using hc', hc', hv.below b, hn⟩
set_option maxHeartbeats 2000000 in
theorem sort_big {w : World} {A : Option Addr} {n c : Nat} (its : List It) (hr : Rd1 w A n (its.map Prod.fst)) (hi : RdIts w its) (h2 : 2 ≤ n) (hc : n ≤ c) (hn5 : n ≤ 100000)
    (ih : ∀ m, m < n → ∀ (W : World) (B : Option Addr) (c' : Nat) (js : List It), Rd1 W B m (js.map Prod.fst) → RdIts W js → m ≤ c' → Calls Tryz.prog 65 #[.slice B m c'] W (SortPost W m js)) :
    Calls Tryz.prog 65 #[.slice A n c] w (SortPost w n its) := by
  have hl : its.length = n := by simpa using hr.1
  have hn := hr.2.1
  obtain ⟨ad, rfl, had, hcell⟩ := hr.2.2 (by omega)
  obtain ⟨h, hh⟩ : ∃ h, h = n / 2 := ⟨_, rfl⟩
  have hw : IntKind.i64.wrap ((n : Int) / 2) = (h : Int) := by
    rw [IntKind.wrap_i64]
    omega
  have hhn : h < n := by omega
  have hh0 : 0 < h := by omega
  have hhc : h ≤ c := by omega
  have hhn2 : h ≤ n := by omega
  have hf1 : decide ((n : Int) < 2) = false := by simp; omega
  have hne : ¬ c = h := by omega
  clear hh
  have HA := Lib.hid (fun (W : World) (b : Below w.heap.size w W) => ih h hhn W (some ad) c (its.take h) (by have := (hr.below b).take hhn2; rwa [← List.map_take] at this) (fun x hx => hi.below b x (List.mem_of_mem_take hx)) hhc)
  have HB := Lib.hid (fun (W : World) (b : Below w.heap.size w W) => ih (n - h) (by omega) W (some (ad.add h)) (c - h) (its.drop h) (by have := (hr.below b).drop hhn2; rwa [← List.map_drop] at this) (fun x hx => hi.below b x (List.mem_of_mem_drop hx)) (by omega))
  have B0 := below_drew (Below.refl w.heap.size w)
  have HI := Lib.hid hi
  have hmid : ∀ (va vb : Value) (w2 : World) (ja jb : List It) (q1 q2 : Nat), w2.ownsRow w.heap.size 25 1 va q1 (ja.map Prod.fst) → w2.ownsRow w.heap.size 25 1 vb q2 (jb.map Prod.fst) → ja.Perm (its.take h) → jb.Perm (its.drop h) → ja.Pairwise leI → jb.Pairwise leI → Below w.heap.size w w2 → Mid w its va vb w2 := by
    intro va vb w2 ja jb q1 q2 o1 o2 p1 p2 s1 s2 b
    have e1 : ja.length = q1 := by simpa using o1.1
    have e2 : jb.length = q2 := by simpa using o2.1
    exact ⟨ja, jb, e1 ▸ o1, e2 ▸ o2, by have := p1.append p2; rwa [List.take_append_drop] at this, s1, s2, b⟩
  have HM := Lib.hid hmid
  clear ih hr hi hcell hmid
  go_enter Tryz.func65, Tryz.ntmps65
  go_wp2
  go_region_with (first
    | (go_at_call 65; (with_reducible refine (HA.out _ B0).mono ?_); rintro e wa ⟨va, ja, rfl, oa, pa, sa, ba⟩; have BA := B0.trans ba)
    | (go_at_call 65; (with_reducible refine (HB.out _ B0).mono ?_); rintro e wb ⟨vb, jb, rfl, ob, pb, sb, bb⟩; have BB := B0.trans bb)
    | (go_at_call 65; (with_reducible refine (HB.out _ BA).mono ?_); rintro e w2 ⟨vb, jb, rfl, ob, pb, sb, bb⟩; have M := HM.out va vb w2 ja jb _ _ (own_below oa bb) (own_lower ob BA.size) pa pb sa sb (BA.trans (bb.mono BA.size)))
    | (go_at_call 65; (with_reducible refine (HA.out _ BB).mono ?_); rintro e w2 ⟨va, ja, rfl, oa, pa, sa, ba⟩; have M := HM.out va vb w2 ja jb _ _ (own_lower oa BB.size) (own_below ob ba) pa pb sa sb (BB.trans (ba.mono BB.size))))
  all_goals
    have hi2 : RdIts w2 its := by
      obtain ⟨_, _, _, _, _, _, _, b⟩ := M
      exact HI.out.below b
    have R0 := MgRel.start M
    have HM2 := Lib.hid M
    have HI2 := Lib.hid hi2
    clear BA B0 M hi2 hw hhn hh0 hhc hhn2 hf1 hne HA HB HM hn hc h2
    go_wp2
    go_loopw [3, 4, 5] (fun a b o wr => MgRel w2 its a b o wr) (fun a b _ _ => lenOf a + lenOf b)
    case atStart => exact R0
    case round =>
      clear R0
      obtain ⟨xa, xb, xo, Aa, Ab, la, lb, ca, cb, rfl, rfl, hla, hlb, hca, hcb, hra, hrb, ho, mg, bel⟩ := hrel
      have hxo : xo.length ≤ 100000 := by
        have := mg.perm.length_eq
        simp at this
        omega
      have szo := bel.size
      obtain ⟨Ao, co, rfl⟩ := own_slice ho
      cases xa with
      | nil =>
        cases xb with
        | nil =>
          obtain rfl : la = 0 := by simpa using hla
          obtain rfl : lb = 0 := by simpa using hlb
          have HF := Lib.hid (And.intro mg (And.intro ho bel))
          clear mg ho bel hra hrb hca hcb hla hlb hxo szo
          go_wp2
          go_ret
          obtain ⟨mg, ho, bel⟩ := HF.out
          obtain ⟨_, _, _, _, _, _, _, b⟩ := HM2.out
          have hp : xo.Perm its := by simpa using mg.perm
          refine ⟨_, xo, rfl, ?_, hp, mg.so, b.trans (bel.mono b.size)⟩
          have e : xo.length = n := hp.length_eq.trans hl
          rw [← e]
          exact own_lower ho b.size
        | cons y xb =>
          obtain rfl : la = 0 := by simpa using hla
          have hy : y ∈ its := mg.perm.subset (by simp)
          obtain ⟨ad3, B, m, cx, rfl, ex, cx1, cx2, hv, hpos⟩ := head_at hrb bel HI2.out hy
          have hone : 1 ≤ lb := hpos
          have hq0 : ((lb : Int) == 0) = false := by simp; omega
          have HF := Lib.hid (And.intro (mg.b (by simp)) (And.intro (hrb.tail cb hcb) (And.intro hra ex)))
          have HLA := Lib.hid (And.intro (show lb - 1 = xb.length by rw [hlb]; simp) (And.intro hca hcb))
          have Bq : ∀ q, Below w2.heap.size w2 (wr.drewN q) := fun q => ⟨bel.os, bel.tape, bel.output, bel.size, bel.block⟩
          have HBQ := Lib.hid Bq
          clear mg hra hrb hv hy hla hlb hca hcb bel ex Bq
          go_wp2
          go_quiet (fail)
          go_wp2_with (at_builtin; refine wp_append1 w2.heap.size rfl (.tmp 58) (.tmp 62) 23 25 (.slice none 0 0) 1 24 rfl Tryz.underlying23 info_L rfl (by omega) (by omega) (.slice Ao xo.length co) xo.length (xo.map Prod.fst) [.slice B m cx] rfl rfl (by simp) rfl (by simp [Value.oneCell']) ho szo (by omega) ?_; intro v1 w3 h1 t1 _)
          have B3 := below_turn (HBQ.out _) t1 szo (fun k hk => own_ge ho hk)
          have h2 : w3.ownsRow w2.heap.size 25 1 v1 (xo ++ [y]).length ((xo ++ [y]).map Prod.fst) := by simpa [HF.out.2.2.2] using h1
          have R : MgRel w2 its (.slice Aa 0 ca) (.slice (if cb = 1 then some ad3 else some (ad3.add 1)) (lb - 1) (cb - 1)) v1 w3 :=
            ⟨[], xb, xo ++ [y], _, _, 0, lb - 1, ca, cb - 1, rfl, rfl, rfl, HLA.out.1, HLA.out.2.1, by have := HLA.out.2.2; omega, HF.out.2.2.1, HF.out.2.1, h2, HF.out.1, B3⟩
          exact ⟨R, by simp [lenOf]; omega⟩
      | cons x xa =>
        cases xb with
        | nil =>
          obtain rfl : lb = 0 := by simpa using hlb
          have hx : x ∈ its := mg.perm.subset (by simp)
          obtain ⟨ad2, B, m, cx, rfl, ex, cx1, cx2, hv, hpos⟩ := head_at hra bel HI2.out hx
          have hone : 1 ≤ la := hpos
          have HF := Lib.hid (And.intro (mg.a (by simp)) (And.intro (hra.tail ca hca) (And.intro hrb ex)))
          have HLA := Lib.hid (And.intro (show la - 1 = xa.length by rw [hla]; simp) (And.intro hca hcb))
          have Bq : ∀ q, Below w2.heap.size w2 (wr.drewN q) := fun q => ⟨bel.os, bel.tape, bel.output, bel.size, bel.block⟩
          have HBQ := Lib.hid Bq
          clear mg hra hrb hv hx hla hlb hca hcb bel ex Bq
          go_wp2
          go_quiet (fail)
          go_wp2_with (at_builtin; refine wp_append1 w2.heap.size rfl (.tmp 50) (.tmp 54) 23 25 (.slice none 0 0) 1 24 rfl Tryz.underlying23 info_L rfl (by omega) (by omega) (.slice Ao xo.length co) xo.length (xo.map Prod.fst) [.slice B m cx] rfl rfl (by simp) rfl (by simp [Value.oneCell']) ho szo (by omega) ?_; intro v1 w3 h1 t1 _)
          have B3 := below_turn (HBQ.out _) t1 szo (fun k hk => own_ge ho hk)
          have h2 : w3.ownsRow w2.heap.size 25 1 v1 (xo ++ [x]).length ((xo ++ [x]).map Prod.fst) := by simpa [HF.out.2.2.2] using h1
          have R : MgRel w2 its (.slice (if ca = 1 then some ad2 else some (ad2.add 1)) (la - 1) (ca - 1)) (.slice Ab 0 cb) v1 w3 :=
            ⟨xa, [], xo ++ [x], _, _, la - 1, 0, ca - 1, cb, rfl, rfl, HLA.out.1, rfl, by have := HLA.out.2.1; omega, HLA.out.2.2, HF.out.2.1, HF.out.2.2.1, h2, HF.out.1, B3⟩
          exact ⟨R, by simp [lenOf]; omega⟩
        | cons y xb =>
          have hx : x ∈ its := mg.perm.subset (by simp)
          have hy : y ∈ its := mg.perm.subset (by simp)
          obtain ⟨ad2, B, m, cx, rfl, ex, cx1, cx2, hv, hpos⟩ := head_at hra bel HI2.out hx
          obtain ⟨ad3, By, my, cy, rfl, ey, cy1, cy2, hvy, hpos2⟩ := head_at hrb bel HI2.out hy
          have HC := fun (W : World) (b : Below wr.heap.size wr W) => cmp_walk (c := cx) (c2 := cy) x.2 y.2 (hv.below b) (hvy.below b)
          have hsa := (List.pairwise_cons.1 mg.sa).1
          have hsb := (List.pairwise_cons.1 mg.sb).1
          have hone : 1 ≤ la := hpos
          have hone2 : 1 ≤ lb := hpos2
          have hq0 : ((lb : Int) == 0) = false := by simp; omega
          have lt1 : ad2.block < wr.heap.size := World.block_lt_of_cell? wr _ cx1
          have lt2 : ad3.block < wr.heap.size := World.block_lt_of_cell? wr _ cy1
          have HB0 := Lib.hid (below_drew (Below.refl wr.heap.size wr))
          have HLA := Lib.hid (And.intro (show la - 1 = xa.length by rw [hla]; simp) (And.intro (show lb - 1 = xb.length by rw [hlb]; simp) (And.intro hca (And.intro hcb (And.intro hla hlb)))))
          obtain ⟨q, hq⟩ : ∃ q, q = cmpR x.2 y.2 := ⟨_, rfl⟩
          rw [← hq] at HC
          have HC := Lib.hid HC
          have HBL := Lib.hid bel
          have HC2 := Lib.hid (fun (W : World) (k1 : W.cell? ad2 = some (.slice B m cx)) (k2 : W.cell? ad3 = some (.slice By my cy)) (k3 : Below wr.heap.size wr W) => (HC.out W k3).mono (fun e w' (h : e = .returned (.int .i64 q) ∧ Below W.heap.size W w') => show e = .returned (.int .i64 q) ∧ w'.cell? ad2 = some (.slice B m cx) ∧ w'.cell? ad3 = some (.slice By my cy) ∧ Below wr.heap.size wr w' from ⟨h.1, cell_belowv k1 h.2 (World.block_lt_of_cell? W _ k1), cell_belowv k2 h.2 (World.block_lt_of_cell? W _ k2), k3.trans (h.2.mono k3.size)⟩))
          have hb0 := HB0.out
          have kd1 : wr.drew.cell? ad2 = some (.slice B m cx) := cx1
          have kd2 : wr.drew.cell? ad3 = some (.slice By my cy) := cy1
          by_cases hle : q ≤ 0
          · have hxy : leI x y := (leR_iff _ _).1 (hq ▸ hle)
            have HF := Lib.hid (And.intro (mg.a (fun z hz => by rcases List.mem_cons.1 hz with rfl | hz; exact hxy; exact leI_trans hxy (hsb z hz))) (And.intro (hra.tail ca hca) (And.intro hrb ex)))
            have hqd : decide (q ≤ 0) = true := by simpa using hle
            clear mg hra hrb hv hvy hx hy hla hlb hca hcb bel ex ey hq hsa hsb hxy
            go_wp2
            go_region_held3 (fun w' => w'.cell? ad2 = some (.slice B m cx) ∧ w'.cell? ad3 = some (.slice By my cy) ∧ Below wr.heap.size wr w') (first | (refine ⟨?_, ?_, ?_⟩ <;> assumption) | go_keep)
              (first | (go_at_call 82; refine (HC2.out _ (by assumption) (by assumption) (by assumption)).mono ?_; rintro e w1 ⟨rfl, k1, k2, b1w⟩))
            all_goals
              have d1 := cell_belowv cx1 b1w lt1
              have d2 := cell_belowv cx2 b1w (by rw [add_block]; exact lt1)
              have ho1 := own_below ho b1w
              have sz1 : w2.heap.size ≤ w1.heap.size := Nat.le_trans szo b1w.size
              have HB1 := Lib.hid (HBL.out.trans (b1w.mono szo))
              go_wp2_with (at_builtin; refine wp_append1 w2.heap.size rfl (.tmp 50) (.tmp 54) 23 25 (.slice none 0 0) 1 24 rfl Tryz.underlying23 info_L rfl (by omega) (by omega) (.slice Ao xo.length co) xo.length (xo.map Prod.fst) [.slice B m cx] rfl rfl (by simp) rfl (by simp [Value.oneCell']) ho1 sz1 (by omega) ?_; intro v1 w3 h1 t1 _)
              have B3 := below_turn HB1.out t1 sz1 (fun k hk => own_ge ho1 hk)
              have h2 : w3.ownsRow w2.heap.size 25 1 v1 (xo ++ [x]).length ((xo ++ [x]).map Prod.fst) := by simpa [HF.out.2.2.2] using h1
              have R : MgRel w2 its (.slice (if ca = 1 then some ad2 else some (ad2.add 1)) (la - 1) (ca - 1)) (.slice (some ad3) lb cb) v1 w3 :=
                ⟨xa, y :: xb, xo ++ [x], _, _, la - 1, lb, ca - 1, cb, rfl, rfl, HLA.out.1, HLA.out.2.2.2.2.2, by have := HLA.out.2.2.1; omega, HLA.out.2.2.2.1, HF.out.2.1, HF.out.2.2.1, h2, HF.out.1, B3⟩
              exact ⟨R, by simp [lenOf]; omega⟩
          · have hyx : leI y x := by
              rcases leR_total y.2 x.2 with h | h
              · exact h
              · exact absurd (hq ▸ (leR_iff _ _).2 h) hle
            have HF := Lib.hid (And.intro (mg.b (fun z hz => by rcases List.mem_cons.1 hz with rfl | hz; exact hyx; exact leI_trans hyx (hsa z hz))) (And.intro (hrb.tail cb hcb) (And.intro hra ey)))
            have hqd : decide (q ≤ 0) = false := by simpa using hle
            clear mg hra hrb hv hvy hx hy hla hlb hca hcb bel ex ey hq hsa hsb hyx
            go_wp2
            go_region_held3 (fun w' => w'.cell? ad2 = some (.slice B m cx) ∧ w'.cell? ad3 = some (.slice By my cy) ∧ Below wr.heap.size wr w') (first | (refine ⟨?_, ?_, ?_⟩ <;> assumption) | go_keep)
              (first | (go_at_call 82; refine (HC2.out _ (by assumption) (by assumption) (by assumption)).mono ?_; rintro e w1 ⟨rfl, k1, k2, b1w⟩))
            all_goals
              have d1 := cell_belowv cy1 b1w lt2
              have d2 := cell_belowv cy2 b1w (by rw [add_block]; exact lt2)
              have ho1 := own_below ho b1w
              have sz1 : w2.heap.size ≤ w1.heap.size := Nat.le_trans szo b1w.size
              have HB1 := Lib.hid (HBL.out.trans (b1w.mono szo))
              go_wp2_with (at_builtin; refine wp_append1 w2.heap.size rfl (.tmp 58) (.tmp 62) 23 25 (.slice none 0 0) 1 24 rfl Tryz.underlying23 info_L rfl (by omega) (by omega) (.slice Ao xo.length co) xo.length (xo.map Prod.fst) [.slice By my cy] rfl rfl (by simp) rfl (by simp [Value.oneCell']) ho1 sz1 (by omega) ?_; intro v1 w3 h1 t1 _)
              have B3 := below_turn HB1.out t1 sz1 (fun k hk => own_ge ho1 hk)
              have h2 : w3.ownsRow w2.heap.size 25 1 v1 (xo ++ [y]).length ((xo ++ [y]).map Prod.fst) := by simpa [HF.out.2.2.2] using h1
              have R : MgRel w2 its (.slice (some ad2) la ca) (.slice (if cb = 1 then some ad3 else some (ad3.add 1)) (lb - 1) (cb - 1)) v1 w3 :=
                ⟨x :: xa, xb, xo ++ [y], _, _, la, lb - 1, ca, cb - 1, rfl, rfl, HLA.out.2.2.2.2.1, HLA.out.2.1, HLA.out.2.2.1, by have := HLA.out.2.2.2.1; omega, HF.out.2.2.1, HF.out.2.1, h2, HF.out.1, B3⟩
              exact ⟨R, by simp [lenOf]; omega⟩
end Go.Proofs.YtkbapoeilcapfaaGreat

/- what bytes are as a value, as a row; no program in sight. -/
namespace Go.Proofs.YtkbapoeilcapfaaGreat
open Go.RowKit
set_option linter.unusedVariables false
set_option linter.unusedSimpArgs false

def isB (bs : List Int) : Prop := ∀ y ∈ bs, 0 ≤ y ∧ y ≤ 255
def strOf (bs : List Int) : ByteArray := ⟨(bs.map fun i => UInt8.ofNat i.toNat).toArray⟩
def bigE (bs : List Int) : Int := bs.foldl (fun a b => a * 256 + b) 0
def rawV : List Int → Option (V × Nat)
  | [] => none
  | k :: t =>
    if k = 1 then (match t with | b :: _ => some (⟨1, b, ⟨#[]⟩⟩, 2) | [] => none)
    else if k = 2 then (if 7 ≤ t.length then some (⟨2, bigE (t.take 7) - 9007199254740992, ⟨#[]⟩⟩, 8) else none)
    else if k = 3 then (match t with | m :: u => if m.toNat ≤ u.length then some (⟨3, 0, strOf (u.take m.toNat)⟩, 2 + m.toNat) else none | [] => none)
    else some (⟨k, 0, ⟨#[]⟩⟩, 1)
def decV (bs : List Int) : Option (V × Nat) := (rawV bs).filter fun x => vOk x.1
def decA (bs : List Int) : Nat → Nat → List V → Option (List V × Nat)
  | 0, a, acc => some (acc, a)
  | k + 1, a, acc => match decV (bs.drop a) with
    | none => none
    | some (v, m) => decA bs k (a + m) (acc ++ [v])
def decR : List Int → Option (List V × Nat)
  | [] => none
  | c :: t => if c ≤ 32 then decA (c :: t) c.toNat 1 [] else none

theorem isB.drop {bs : List Int} (h : isB bs) (k : Nat) : isB (bs.drop k) := fun y hy => h y (List.mem_of_mem_drop hy)
theorem isB.take {bs : List Int} (h : isB bs) (k : Nat) : isB (bs.take k) := fun y hy => h y (List.mem_of_mem_take hy)
theorem isB.append {a b : List Int} (h : isB a) (k : isB b) : isB (a ++ b) := fun y hy => (List.mem_append.1 hy).elim (h y) (k y)
theorem strOf_size (bs : List Int) : (strOf bs).size = bs.length := by
  show ((bs.map fun i => UInt8.ofNat i.toNat).toArray).size = _
  simp
theorem bytes_str {bs : List Int} (h : isB bs) : bytesOf (strOf bs) = bs := by
  show ((bs.map fun i => UInt8.ofNat i.toNat).toArray).toList.map (fun b => (b.toNat : Int)) = bs
  rw [List.toList_toArray, List.map_map]
  conv => rhs; rw [← List.map_id bs]
  refine List.map_congr_left fun y hy => ?_
  have := h y hy
  simp only [Function.comp_def, UInt8.toNat_ofNat', id]
  omega
theorem str_bytes (s : ByteArray) : strOf (bytesOf s) = s := by
  unfold strOf bytesOf
  obtain ⟨⟨l⟩⟩ := s
  simp [List.map_map, Function.comp_def]
theorem empty_of_size {s : ByteArray} (h : s.size = 0) : s = ⟨#[]⟩ := by
  obtain ⟨⟨l⟩⟩ := s
  have : l.length = 0 := h
  rw [List.eq_nil_of_length_eq_zero this]
theorem isB_bytes (s : ByteArray) : isB (bytesOf s) := by
  intro y hy
  obtain ⟨b, _, rfl⟩ := List.mem_map.1 hy
  have := b.toNat_lt
  omega
theorem big_be (m : Int) (h0 : 0 ≤ m) (h1 : m < 72057594037927936) : bigE (be7 m) = m := by
  simp only [bigE, be7, List.foldl]
  omega
theorem be_big (bs : List Int) (h : isB bs) (hl : bs.length = 7) : be7 (bigE bs) = bs := by
  match bs, hl with
  | [a, b, c, d, e, f, g], _ =>
    have ha := h a (by simp)
    have hb := h b (by simp)
    have hc := h c (by simp)
    have hd := h d (by simp)
    have he := h e (by simp)
    have hf := h f (by simp)
    have hg := h g (by simp)
    simp only [bigE, be7, List.foldl]
    refine List.cons_eq_cons.2 ⟨by omega, List.cons_eq_cons.2 ⟨by omega, List.cons_eq_cons.2 ⟨by omega, List.cons_eq_cons.2 ⟨by omega, List.cons_eq_cons.2 ⟨by omega, List.cons_eq_cons.2 ⟨by omega, List.cons_eq_cons.2 ⟨by omega, rfl⟩⟩⟩⟩⟩⟩⟩
theorem isB_be (m : Int) : isB (be7 m) := by
  intro y hy
  simp only [be7, List.mem_cons, List.not_mem_nil, or_false] at hy
  omega
theorem isB_encV (v : V) (h : vOk v = true) : isB (encV v) := by
  unfold vOk at h
  have h := of_decide_eq_true h
  unfold encV
  split
  · intro y hy
    simp only [List.mem_cons, List.not_mem_nil, or_false] at hy
    omega
  · split
    · intro y hy
      rcases List.mem_cons.1 hy with e | e
      · omega
      · exact isB_be _ y e
    · split
      · intro y hy
        rcases List.mem_cons.1 hy with e | e
        · omega
        · rcases List.mem_cons.1 e with e | e
          · omega
          · exact isB_bytes _ y e
      · intro y hy
        simp at hy
        omega
theorem decV_enc (v : V) (h : vOk v = true) (t : List Int) : decV (encV v ++ t) = some (v, (encV v).length) := by
  have hv := h
  unfold vOk at h
  have h := of_decide_eq_true h
  obtain ⟨k, n, s⟩ := v
  simp only at h
  unfold decV
  rcases h with ⟨rfl, rfl, hs⟩ | ⟨rfl, hn, hs⟩ | ⟨rfl, h1, h2, hs⟩ | ⟨rfl, rfl, hs⟩
  · obtain rfl := empty_of_size hs
    simp [encV, rawV, hv]
  · obtain rfl := empty_of_size hs
    simp [encV, rawV, hv]
  · obtain rfl := empty_of_size hs
    have e := big_be (n + 9007199254740992) (by omega) (by omega)
    have ht : List.take 7 (be7 (n + 9007199254740992) ++ t) = be7 (n + 9007199254740992) := List.take_left' rfl
    have hl : (be7 (n + 9007199254740992)).length = 7 := rfl
    have e3 : rawV (2 :: (be7 (n + 9007199254740992) ++ t)) = some (⟨2, n, ⟨#[]⟩⟩, 8) := by
      simp only [rawV]
      rw [if_neg (by decide), if_pos trivial, if_pos (by rw [List.length_append]; omega), ht, e]
      simp
    simp only [encV, List.cons_append]
    rw [if_neg (by decide), if_pos trivial, List.cons_append, e3]
    simp [hv, hl]
  · have hl : (bytesOf s).length = s.size := bytesOf_length s
    have ht : List.take s.size (bytesOf s ++ t) = bytesOf s := List.take_left' hl
    simp only [encV, rawV, List.cons_append, Int.toNat_natCast, ht, str_bytes, List.length_append, hl]
    simp [hv]
    exact ⟨by rw [hl]; omega, by rw [ht, str_bytes], by rw [hl]; omega⟩
theorem decV_sound {bs : List Int} {v : V} {m : Nat} (hb : isB bs) (h : decV bs = some (v, m)) : vOk v = true ∧ bs.take m = encV v ∧ m = (encV v).length ∧ m ≤ bs.length := by
  unfold decV at h
  obtain ⟨h, hv⟩ := Option.filter_eq_some_iff.1 h
  refine ⟨hv, ?_⟩
  match bs, hb, h with
  | k :: t, hb, h =>
    have hk := hb k (by simp)
    simp only at hv
    simp only [rawV] at h
    split at h
    · subst k
      match t, h with
      | b :: t, h =>
        simp only [Option.some.injEq, Prod.mk.injEq] at h
        obtain ⟨rfl, rfl⟩ := h
        simp [encV]
    · split at h
      · subst k
        split at h
        · next hl =>
          simp only [Option.some.injEq, Prod.mk.injEq] at h
          obtain ⟨rfl, rfl⟩ := h
          have e : be7 (bigE (t.take 7)) = t.take 7 := be_big _ (isB.take (fun y hy => hb y (by simp [hy])) 7) (by simp; omega)
          simp only [encV, Int.sub_add_cancel, e]
          simp
          omega
        · cases h
      · split at h
        · subst k
          match t, h with
          | m0 :: u, h =>
            simp only at h
            split at h
            · next hl =>
              simp only [Option.some.injEq, Prod.mk.injEq] at h
              obtain ⟨rfl, rfl⟩ := h
              have hm := hb m0 (by simp)
              have e : bytesOf (strOf (u.take m0.toNat)) = u.take m0.toNat := bytes_str (isB.take (fun y hy => hb y (by simp [hy])) _)
              have e2 : (strOf (u.take m0.toNat)).size = m0.toNat := by rw [strOf_size]; simp; omega
              simp only [encV, e, e2]
              have e3 : ((m0.toNat : Nat) : Int) = m0 := by omega
              rw [e3]
              have e4 : 2 + m0.toNat = m0.toNat + 1 + 1 := by omega
              rw [e4]
              simp
              omega
            · cases h
        · simp only [Option.some.injEq, Prod.mk.injEq] at h
          obtain ⟨rfl, rfl⟩ := h
          unfold vOk at hv
          have hv := of_decide_eq_true hv
          simp only at hv
          have hk0 : k = 0 := by omega
          subst hk0
          simp [encV]
theorem encV_pos (v : V) : 1 ≤ (encV v).length := by
  unfold encV
  split
  · simp
  · split
    · simp
    · split <;> simp
theorem decA_enc (bs : List Int) (t : List Int) : ∀ (r : List V) (a : Nat) (acc : List V), r.all vOk = true → bs.drop a = r.flatMap encV ++ t → decA bs r.length a acc = some (acc ++ r, a + (r.flatMap encV).length)
  | [], a, acc, _, _ => by simp [decA]
  | v :: r, a, acc, h, hd => by
    simp only [List.all_cons, Bool.and_eq_true] at h
    have hd1 : bs.drop a = encV v ++ (r.flatMap encV ++ t) := by rw [hd]; simp
    simp only [List.length_cons, decA, hd1, decV_enc v h.1]
    rw [decA_enc bs t r (a + (encV v).length) (acc ++ [v]) h.2 (by rw [← List.drop_drop, hd1, List.drop_left])]
    simp
    omega
theorem decA_sound (bs : List Int) (hb : isB bs) : ∀ (k a : Nat) (acc r : List V) (m : Nat), a ≤ bs.length → decA bs k a acc = some (r, m) → ∃ r', r = acc ++ r' ∧ r'.length = k ∧ r'.all vOk = true ∧ (bs.drop a).take (m - a) = r'.flatMap encV ∧ m = a + (r'.flatMap encV).length ∧ m ≤ bs.length
  | 0, a, acc, r, m, ha, h => by
    simp only [decA, Option.some.injEq, Prod.mk.injEq] at h
    obtain ⟨rfl, rfl⟩ := h
    exact ⟨[], by simp, rfl, rfl, by simp, by simp, ha⟩
  | k + 1, a, acc, r, m, ha, h => by
    unfold decA at h
    split at h
    · cases h
    · next v mv e =>
      obtain ⟨h1, h2, h3, h4⟩ := decV_sound (hb.drop a) e
      rw [List.length_drop] at h4
      obtain ⟨r', e1, e2, e3, e4, e5, e6⟩ := decA_sound bs hb k (a + mv) _ r m (by omega) h
      refine ⟨v :: r', by simp [e1], by simp [e2], by simp [h1, e3], ?_, by simp only [List.flatMap_cons, List.length_append]; omega, e6⟩
      rw [List.flatMap_cons, ← e4, ← h2, ← List.drop_drop]
      have : m - a = mv + (m - (a + mv)) := by omega
      rw [this, List.take_add]
theorem decR_enc (r : List V) (h : rowOk r = true) (t : List Int) : decR (encR r ++ t) = some (r, (encR r).length) := by
  unfold rowOk at h
  simp only [Bool.and_eq_true, decide_eq_true_eq] at h
  have := decA_enc (encR r ++ t) t r 1 [] h.2 (by simp [encR])
  simp only [encR, List.cons_append, decR, Int.toNat_natCast] at this ⊢
  rw [if_pos (by omega), this]
  simp
  omega
theorem decR_sound {bs : List Int} {r : List V} {m : Nat} (hb : isB bs) (h : decR bs = some (r, m)) : rowOk r = true ∧ bs.take m = encR r ∧ m = (encR r).length ∧ m ≤ bs.length := by
  match bs, hb, h with
  | c :: t, hb, h =>
    have hc := hb c (by simp)
    simp only [decR] at h
    split at h
    · obtain ⟨r', e1, e2, e3, e4, e5, e6⟩ := decA_sound (c :: t) hb _ 1 [] r m (by simp) h
      have : r = r' := by simpa using e1
      subst this
      refine ⟨by simp [rowOk, e3]; omega, ?_, by simp only [encR, List.length_cons]; omega, e6⟩
      have : m = (m - 1) + 1 := by omega
      rw [this, List.take_succ_cons, encR, ← e4]
      simp
      omega
    · cases h
theorem isB_encR (r : List V) (h : rowOk r = true) : isB (encR r) := by
  unfold rowOk at h
  simp only [Bool.and_eq_true, decide_eq_true_eq, List.all_eq_true] at h
  intro y hy
  rcases List.mem_cons.1 hy with e | e
  · omega
  · obtain ⟨v, hv, hy⟩ := List.mem_flatMap.1 e
    exact isB_encV v (h.2 v hv) y hy
end Go.Proofs.YtkbapoeilcapfaaGreat

/- the reader of a row's bytes. -/
namespace Go.Proofs.YtkbapoeilcapfaaGreat
open Go.RowKit
set_option linter.unusedVariables false
set_option linter.unusedSimpArgs false

/-- The reader at block b: the bytes' slice, where it stands, whether it has gone wrong. -/
def RAt (w : World) (b : Nat) (A : Option Addr) (n c at_ : Nat) (bad : Bool) : Prop := w.heap[b]? = some (.cells #[.slice A n c, .int .i64 at_, .bool bad] 218)
theorem zeros_u8 (k : Nat) : madeCells #[Value.int .u8 0] k = (List.replicate k (Value.int .u8 0)).toArray := madeCells_one _ _
/-- What next gives: the bytes, where the reader stands then, whether it has gone wrong. -/
def NPost (w : World) (b : Nat) (A : Option Addr) (n c k : Nat) (bs' : List Int) (at' : Nat) (bad' : Bool) (e : Ending) (w' : World) : Prop :=
  ∃ A' c', e = .returned (.slice A' k c') ∧ Rd1 w' A' k (u8s bs') ∧ RAt w' b A n c at' bad' ∧ Turn (fun i => i = b) w w'
theorem zeros_rd {w : World} {g k : Nat} (h : w.heap[g]? = some (.cells (List.replicate k (Value.int .u8 0)).toArray 5)) (hk : k ≤ 100000) : Rd1 w (some ⟨g, 0, none⟩) k (u8s (List.replicate k 0)) :=
  ⟨by simp, by omega, fun _ => ⟨_, rfl, lt_of_heap h, fun j u hu => by
    have ea : (⟨g, 0, none⟩ : Addr).add j = ⟨g, j, none⟩ := by unfold Addr.add; split <;> simp_all
    rw [ea]
    exact (cell_of_blk h j).trans (by rw [List.getElem?_toArray]; simpa [u8s] using hu)⟩⟩
theorem alloc_at {W w : World} (hs : W.heap.size = w.heap.size) (o : Obj) : (W.alloc o).heap[w.heap.size]? = some o := by
  rw [← hs]
  exact heap_alloc_new W o
theorem next_was {w : World} {b n c at_ k : Nat} {A : Option Addr} (h : RAt w b A n c at_ true) (hk : k ≤ 100000) :
    Calls Tryz.prog 162 #[.pointer (some ⟨b, 0, none⟩), .int .i64 k] w (NPost w b A n c k (List.replicate k 0) at_ true) := by
  have c2 : w.cell? ⟨b, 2, none⟩ = some (.bool true) := cell_of_blk h 2
  have f2 : w.frozen? ⟨b, 2, none⟩ = false := free_of_blk h 2
  have HH := Lib.hid h
  have info8 := info_u8
  clear h
  go_enter Tryz.func162, Tryz.ntmps162
  go_wp2
  go_quiet (fail)
  go_wp2_with (at_make; refine wp_makeN rfl (.tmp 26) 136 5 (.int .u8 0) 1 rfl Tryz.underlying136 info8 rfl k rfl (by omega) (by omega) ?_)
  go_ret
  refine ⟨_, _, rfl, zeros_rd (alloc_at (by simp [World.setCell]) _) hk, ?_, ?_⟩
  · exact blk_alloc (blk_set (w := w.drewN _) HH.out 2 (.bool true)) _
  · exact (((Turn.refl (fun i => i = b) w).drewN _).setCell (.inl rfl) _).alloc _
theorem next_short {w : World} {b n c at_ k : Nat} {A : Option Addr} (h : RAt w b A n c at_ false) (hat : at_ ≤ n) (hn : n ≤ 100000) (hk : k ≤ 100000) (hs : n < at_ + k) :
    Calls Tryz.prog 162 #[.pointer (some ⟨b, 0, none⟩), .int .i64 k] w (NPost w b A n c k (List.replicate k 0) at_ true) := by
  have c0 : w.cell? ⟨b, 0, none⟩ = some (.slice A n c) := cell_of_blk h 0
  have c1 : w.cell? ⟨b, 1, none⟩ = some (.int .i64 at_) := cell_of_blk h 1
  have c2 : w.cell? ⟨b, 2, none⟩ = some (.bool false) := cell_of_blk h 2
  have f2 : w.frozen? ⟨b, 2, none⟩ = false := free_of_blk h 2
  have ht : decide ((n : Int) - at_ < k) = true := by simp; omega
  have HH := Lib.hid h
  have info8 := info_u8
  clear h
  go_enter Tryz.func162, Tryz.ntmps162
  go_wp2
  go_quiet (fail)
  go_wp2_with (at_make; refine wp_makeN rfl (.tmp 26) 136 5 (.int .u8 0) 1 rfl Tryz.underlying136 info8 rfl k rfl (by omega) (by omega) ?_)
  go_ret
  refine ⟨_, _, rfl, zeros_rd (alloc_at (by simp [World.setCell]) _) hk, ?_, ?_⟩
  · exact blk_alloc (blk_set (w := w.drewN _) HH.out 2 (.bool true)) _
  · exact (((Turn.refl (fun i => i = b) w).drewN _).setCell (.inl rfl) _).alloc _
theorem next_ok {w : World} {b n c at_ k : Nat} {ad : Addr} (bs : List Int) (hr : Rd1 w (some ad) n (u8s bs)) (h : RAt w b (some ad) n c at_ false) (hab : ad.block ≠ b) (hn : n ≤ 100000) (hnc : n ≤ c) (hc : c ≤ 9223372036854775807) (hs : at_ + k ≤ n) :
    Calls Tryz.prog 162 #[.pointer (some ⟨b, 0, none⟩), .int .i64 k] w (NPost w b (some ad) n c k ((bs.drop at_).take k) (at_ + k) false) := by
  have c0 : w.cell? ⟨b, 0, none⟩ = some (.slice (some ad) n c) := cell_of_blk h 0
  have c1 : w.cell? ⟨b, 1, none⟩ = some (.int .i64 at_) := cell_of_blk h 1
  have c2 : w.cell? ⟨b, 2, none⟩ = some (.bool false) := cell_of_blk h 2
  have f1 : w.frozen? ⟨b, 1, none⟩ = false := free_of_blk h 1
  have ht : decide ((n : Int) - at_ < k) = false := by simp; omega
  have hk1 : at_ + k ≤ c := by omega
  have hk2 : at_ ≤ at_ + k := by omega
  have HH := Lib.hid (And.intro h hr)
  clear h hr
  go_enter Tryz.func162, Tryz.ntmps162
  go_wp2
  go_quiet (fail)
  go_wp2
  go_quiet (fail)
  go_wp2
  · obtain rfl : c = at_ := by assumption
    go_ret
    have hk0 : k = 0 := by omega
    refine ⟨_, _, rfl, ⟨by have := HH.out.2.1; simp at this ⊢; omega, by omega, fun h => absurd h (by omega)⟩, blk_set (w := w.drewN _) HH.out.1 1 _, ?_⟩
    exact (((Turn.refl (fun i => i = b) w).drewN _).setCell (.inl rfl) _).drewN _
  · go_ret
    have T : ∀ q v q2, Turn (fun i => i = b) w (((w.drewN q).setCell ⟨b, 1, none⟩ v).drewN q2) := fun q v q2 => (((Turn.refl (fun i => i = b) w).drewN q).setCell (.inl rfl) v).drewN q2
    have R := (HH.out.2.drop (h := at_) (by omega)).take (h := k) (by omega)
    rw [← List.map_drop, ← List.map_take] at R
    refine ⟨_, _, rfl, R.turn (T _ _ _) (fun a e => ?_), blk_set (w := w.drewN _) HH.out.1 1 _, T _ _ _⟩
    obtain rfl := Option.some.inj e
    rw [add_block]
    exact hab
end Go.Proofs.YtkbapoeilcapfaaGreat
namespace Go.Proofs.YtkbapoeilcapfaaGreat
open Go.RowKit
set_option linter.unusedVariables false
set_option linter.unusedSimpArgs false

theorem byte_ok {w : World} {b n c at_ : Nat} {ad : Addr} (bs : List Int) (hr : Rd1 w (some ad) n (u8s bs)) (h : RAt w b (some ad) n c at_ false) (hab : ad.block ≠ b) (hn : n ≤ 100000) (hnc : n ≤ c) (hc : c ≤ 9223372036854775807) (hs : at_ < n) (x : Int) (hx : x = bs.getD at_ 0) (h0 : 0 ≤ x) (h1 : x ≤ 255) :
    Calls Tryz.prog 149 #[.pointer (some ⟨b, 0, none⟩)] w fun e w' => e = .returned (.int .i64 x) ∧ RAt w' b (some ad) n c (at_ + 1) false ∧ Turn (fun i => i = b) w w' := by
  have hbl : bs.length = n := by simpa using hr.1
  have hd : (bs.drop at_).take 1 = [x] := by
    rw [drop_cons bs 0 (show at_ < bs.length by omega), hx]
    rfl
  have HN := next_ok (k := 1) bs hr h hab hn hnc hc (by omega)
  rw [hd] at HN
  have HN := Lib.hid HN
  clear hr h hx hd hbl
  go_enter Tryz.func149, Tryz.ntmps149
  go_wp2_with (go_at_call 162; refine HN.out.mono ?_; rintro e w1 ⟨A', c', rfl, r1, a1, t1⟩; obtain ⟨ad1, rfl, had1, hc1⟩ := r1.at2 (k := 0) (by omega); have hc2 : w1.cell? (ad1.add 0) = some (.int .u8 x) := hc1.trans rfl; have hc3 : w1.cell? ad1 = some (.int .u8 x) := by simpa [Addr.add] using hc2)
  go_ret
  exact ⟨by trivial, a1, t1⟩
theorem byte_bad {w : World} {b n c at_ : Nat} {A : Option Addr} {bad : Bool} (h : RAt w b A n c at_ bad) (hat : at_ ≤ n) (hn : n ≤ 100000) (hs : bad = true ∨ n ≤ at_) :
    Calls Tryz.prog 149 #[.pointer (some ⟨b, 0, none⟩)] w fun e w' => e = .returned (.int .i64 0) ∧ RAt w' b A n c at_ true ∧ Turn (fun i => i = b) w w' := by
  have HN : Calls Tryz.prog 162 #[.pointer (some ⟨b, 0, none⟩), .int .i64 ((1 : Nat) : Int)] w (NPost w b A n c 1 (List.replicate 1 0) at_ true) := by
    cases bad with
    | true => exact next_was h (by omega)
    | false => exact next_short h hat hn (by omega) (by rcases hs with h | h; cases h; omega)
  have HN := Lib.hid HN
  clear h hs
  go_enter Tryz.func149, Tryz.ntmps149
  go_wp2_with (go_at_call 162; refine HN.out.mono ?_; rintro e w1 ⟨A', c', rfl, r1, a1, t1⟩; obtain ⟨ad1, rfl, had1, hc1⟩ := r1.at2 (k := 0) (by omega); have hc2 : w1.cell? (ad1.add 0) = some (.int .u8 0) := hc1.trans rfl; have hc3 : w1.cell? ad1 = some (.int .u8 0) := by simpa [Addr.add] using hc2)
  go_ret
  exact ⟨by trivial, a1, t1⟩
end Go.Proofs.YtkbapoeilcapfaaGreat
namespace Go.Proofs.YtkbapoeilcapfaaGreat
open Go.RowKit
set_option linter.unusedVariables false
set_option linter.unusedSimpArgs false

/-- What next gives: the bytes, where the reader stands, whether it has gone wrong. -/
def nextS (bs : List Int) (n a k : Nat) (bad : Bool) : List Int × Nat × Bool := if bad = true ∨ n < a + k then (List.replicate k 0, a, true) else ((bs.drop a).take k, a + k, false)
def byteS (bs : List Int) (n a : Nat) (bad : Bool) : Int × Nat × Bool := ((nextS bs n a 1 bad).1.getD 0 0, (nextS bs n a 1 bad).2)
/-- A reader of bytes. -/
structure Rdg (w : World) (b : Nat) (ad : Addr) (bs : List Int) (n c a : Nat) (bad : Bool) : Prop where
  rd : Rd1 w (some ad) n (u8s bs)
  isb : isB bs
  ne : ad.block ≠ b
  at_ : RAt w b (some ad) n c a bad
  le : a ≤ n
  cap : n ≤ c
  c64 : c ≤ 9223372036854775807
  n5 : n ≤ 100000
theorem Rdg.len {w : World} {b : Nat} {ad : Addr} {bs : List Int} {n c a : Nat} {bad : Bool} (h : Rdg w b ad bs n c a bad) : bs.length = n := by simpa using h.rd.1
theorem nextS_le (bs : List Int) (n a k : Nat) (bad : Bool) (h : a ≤ n) : (nextS bs n a k bad).2.1 ≤ n := by
  unfold nextS
  split <;> simp <;> omega
theorem isB_zeros (k : Nat) : isB (List.replicate k 0) := fun y hy => by
  obtain rfl := List.eq_of_mem_replicate hy
  omega
theorem nextS_isB (bs : List Int) (n a k : Nat) (bad : Bool) (h : isB bs) : isB (nextS bs n a k bad).1 := by
  unfold nextS
  split
  · exact isB_zeros k
  · exact (h.drop a).take k
theorem nextS_len (bs : List Int) (n a k : Nat) (bad : Bool) (h : bs.length = n) : (nextS bs n a k bad).1.length = k := by
  unfold nextS
  split
  · simp
  · simp; omega
theorem byteS_isB (bs : List Int) (n a : Nat) (bad : Bool) (h : isB bs) (hl : bs.length = n) : 0 ≤ (byteS bs n a bad).1 ∧ (byteS bs n a bad).1 ≤ 255 := by
  refine nextS_isB bs n a 1 bad h _ ?_
  have := nextS_len bs n a 1 bad hl
  show (nextS bs n a 1 bad).1.getD 0 0 ∈ _
  rw [List.getD_eq_getElem?_getD, List.getElem?_eq_getElem (by omega)]
  exact List.getElem_mem _
theorem next_any {w : World} {b n c a k : Nat} {ad : Addr} {bad : Bool} (bs : List Int) (R : Rdg w b ad bs n c a bad) (hk : k ≤ 100000) :
    Calls Tryz.prog 162 #[.pointer (some ⟨b, 0, none⟩), .int .i64 k] w (NPost w b (some ad) n c k (nextS bs n a k bad).1 (nextS bs n a k bad).2.1 (nextS bs n a k bad).2.2) := by
  unfold nextS
  split
  · next h =>
    cases bad with
    | true => exact next_was R.at_ hk
    | false => exact next_short R.at_ R.le R.n5 hk (by rcases h with h | h; cases h; exact h)
  · next h =>
    obtain rfl : bad = false := by cases bad <;> simp_all
    exact next_ok bs R.rd R.at_ R.ne R.n5 R.cap R.c64 (by simp at h; omega)
theorem Rdg.next {w w' : World} {b n c a k : Nat} {ad : Addr} {bad : Bool} {bs : List Int} (R : Rdg w b ad bs n c a bad) {a' : Nat} {bad' : Bool} (h : RAt w' b (some ad) n c a' bad') (ht : Turn (fun i => i = b) w w') (e : a' = (nextS bs n a k bad).2.1) : Rdg w' b ad bs n c a' bad' :=
  ⟨R.rd.turn ht (fun ad' e => by obtain rfl := Option.some.inj e; exact R.ne), R.isb, R.ne, h, by rw [e]; exact nextS_le _ _ _ _ _ R.le, R.cap, R.c64, R.n5⟩
theorem Rdg.below {w w' : World} {b n c a : Nat} {ad : Addr} {bad : Bool} {bs : List Int} (R : Rdg w b ad bs n c a bad) (h : Below w.heap.size w w') : Rdg w' b ad bs n c a bad :=
  ⟨R.rd.below h, R.isb, R.ne, blk_below R.at_ h (lt_of_heap R.at_), R.le, R.cap, R.c64, R.n5⟩
theorem Rdg.turn {w w' : World} {b n c a : Nat} {ad : Addr} {bad : Bool} {bs : List Int} {S : Nat → Prop} (R : Rdg w b ad bs n c a bad) (h : Turn S w w') (h1 : ¬ S b) (h2 : ¬ S ad.block) : Rdg w' b ad bs n c a bad :=
  ⟨R.rd.turn h (fun ad' e => by obtain rfl := Option.some.inj e; exact h2), R.isb, R.ne, h.heap R.at_ h1, R.le, R.cap, R.c64, R.n5⟩
theorem byte_any {w : World} {b n c a : Nat} {ad : Addr} {bad : Bool} (bs : List Int) (R : Rdg w b ad bs n c a bad) :
    Calls Tryz.prog 149 #[.pointer (some ⟨b, 0, none⟩)] w fun e w' => ∃ x : Nat, (x : Int) = (byteS bs n a bad).1 ∧ x ≤ 255 ∧ e = .returned (.int .i64 x) ∧ Rdg w' b ad bs n c (byteS bs n a bad).2.1 (byteS bs n a bad).2.2 ∧ Turn (fun i => i = b) w w' := by
  have hb := byteS_isB bs n a bad R.isb R.len
  by_cases h : bad = true ∨ n < a + 1
  · have e : byteS bs n a bad = (0, a, true) := by unfold byteS nextS; rw [if_pos h]; rfl
    rw [e]
    refine (byte_bad R.at_ R.le R.n5 (by rcases h with h | h; exact .inl h; exact .inr (by omega))).mono ?_
    rintro e w' ⟨rfl, h1, t1⟩
    exact ⟨0, rfl, by omega, rfl, ⟨R.rd.turn t1 (fun ad' e => by obtain rfl := Option.some.inj e; exact R.ne), R.isb, R.ne, h1, R.le, R.cap, R.c64, R.n5⟩, t1⟩
  · obtain rfl : bad = false := by cases bad <;> simp_all
    have e : byteS bs n a false = (bs.getD a 0, a + 1, false) := by
      unfold byteS nextS
      rw [if_neg h]
      have hl := R.len
      rw [drop_cons bs 0 (show a < bs.length by simp at h; omega)]
      rfl
    rw [e] at hb ⊢
    refine (byte_ok bs R.rd R.at_ R.ne R.n5 R.cap R.c64 (by simp at h; omega) _ rfl hb.1 hb.2).mono ?_
    rintro e w' ⟨rfl, h1, t1⟩
    refine ⟨(bs.getD a 0).toNat, by simp only at hb ⊢; omega, by simp only at hb; omega, ?_, ⟨R.rd.turn t1 (fun ad' e => by obtain rfl := Option.some.inj e; exact R.ne), R.isb, R.ne, h1, by simp at h; omega, R.cap, R.c64, R.n5⟩, t1⟩
    have : (((bs.getD a 0).toNat : Nat) : Int) = bs.getD a 0 := by simp only at hb; omega
    rw [this]

/-- What value gives. -/
def valS (bs : List Int) (n a : Nat) : V × Nat × Bool :=
  let x := byteS bs n a false
  if x.1 = 1 then (let y := byteS bs n x.2.1 x.2.2; (⟨1, y.1, ⟨#[]⟩⟩, y.2))
  else if x.1 = 2 then (let y := nextS bs n x.2.1 7 x.2.2; (⟨2, bigE y.1 - 9007199254740992, ⟨#[]⟩⟩, y.2))
  else if x.1 = 3 then (let y := byteS bs n x.2.1 x.2.2; let z := nextS bs n y.2.1 y.1.toNat y.2.2; (⟨3, 0, strOf z.1⟩, z.2))
  else (⟨x.1, 0, ⟨#[]⟩⟩, x.2)
theorem conv_rd {w : World} {A : Option Addr} {n c : Nat} {bs : List Int} (h : Rd1 w A n (u8s bs)) : (convert 136 9 (.slice A n c)).run Tryz.prog w = .ok (.string (strOf bs)) w := by
  rw [run_convert_bytes_string w 136 9 5 _ n c Tryz.underlying136 Tryz.underlying5 Tryz.underlying9 ]
  rcases Nat.eq_zero_or_pos n with h0 | h0
  · subst h0
    obtain rfl : bs = [] := List.eq_nil_of_length_eq_zero (by simpa using h.1)
    cases A with
    | none => simp [Conv.bytesToString]; rfl
    | some ad =>
      rw [run_bytesToString w ad 0 c [] (by exact run_loadCells_list (P := Tryz.prog) w ad [] (fun j v hj => by simp at hj))]
      rfl
  · obtain ⟨ad, rfl, _, hc⟩ := h.2.2 h0
    have hl : (loadCells ad n).run Tryz.prog w = .ok (bs.map (Value.int .u8)).toArray w := by
      have := run_loadCells_list (P := Tryz.prog) w ad (bs.map (Value.int .u8)) (fun j v hj => hc j v hj)
      have hn : (bs.map (Value.int .u8)).length = n := h.1
      rwa [hn] at this
    rw [run_bytesToString w ad n c bs hl, foldl_push_bytes]
    simp [strOf, ByteArray.empty, ByteArray.emptyWithCapacity]
    rfl
end Go.Proofs.YtkbapoeilcapfaaGreat

/- the reader: a value. -/
namespace Go.Proofs.YtkbapoeilcapfaaGreat
open Go.RowKit
set_option linter.unusedVariables false
set_option linter.unusedSimpArgs false

def ValPost (w : World) (b : Nat) (ad : Addr) (bs : List Int) (n c a : Nat) (e : Ending) (w' : World) : Prop :=
  e = .returned (valS bs n a).1.val ∧ Rdg w' b ad bs n c (valS bs n a).2.1 ((valS bs n a).2.2 || !vOk (valS bs n a).1) ∧ Turn (fun i => i = b) w w'
theorem vcells {w : World} {g : Nat} {k n : Int} {s : ByteArray} (h : w.heap[g]? = some (.cells #[.int .i64 k, .int .i64 n, .string s] 86)) :
    w.cell? ⟨g, 0, none⟩ = some (.int .i64 k) ∧ w.cell? ⟨g, 1, none⟩ = some (.int .i64 n) ∧ w.cell? ⟨g, 2, none⟩ = some (.string s) ∧ w.frozen? ⟨g, 0, none⟩ = false ∧ w.frozen? ⟨g, 1, none⟩ = false ∧ w.frozen? ⟨g, 2, none⟩ = false :=
  ⟨cell_of_blk h 0, cell_of_blk h 1, cell_of_blk h 2, free_of_blk h 0, free_of_blk h 1, free_of_blk h 2⟩
theorem rcells {w : World} {b n c a : Nat} {ad : Addr} {bs : List Int} {bad : Bool} (R : Rdg w b ad bs n c a bad) : w.cell? ⟨b, 2, none⟩ = some (.bool bad) ∧ w.frozen? ⟨b, 2, none⟩ = false ∧ b < w.heap.size :=
  ⟨cell_of_blk R.at_ 2, free_of_blk R.at_ 2, lt_of_heap R.at_⟩
theorem Rd1.blt {w : World} {b n c a : Nat} {ad : Addr} {bs : List Int} {bad : Bool} (R : Rdg w b ad bs n c a bad) (h0 : 0 < n) : ad.block < w.heap.size := by
  obtain ⟨ad', e, h, _⟩ := R.rd.2.2 h0
  obtain rfl := Option.some.inj e
  exact h
theorem vcheck0 (k n : Int) (w : World) : Calls Tryz.prog 163 #[.agg #[.int .i64 k, .int .i64 n, .string ⟨#[]⟩]] w (VPost ⟨k, n, ⟨#[]⟩⟩ w) := vcheck ⟨k, n, ⟨#[]⟩⟩ w (by
  have : (⟨#[]⟩ : ByteArray).size = 0 := rfl
  show (⟨#[]⟩ : ByteArray).size ≤ _
  omega)
theorem vErr_ne (v : V) : (vErr v != 0) = !vOk v := by
  unfold vErr
  cases vOk v <;> rfl
theorem val_end {w w4 : World} {b n c a1 : Nat} {ad : Addr} {bs : List Int} {bad0 : Bool} (R : Rdg w4 b ad bs n c a1 bad0) (t : Turn (fun i => i = b) w w4) (g : w4.heap[w.heap.size]? = some (.cells #[.int .i64 0, .int .i64 0, .string ⟨#[]⟩] 86))
    (hb : ¬ b = w.heap.size) (ha : ad.block < w.heap.size) (B : Bool) (x y : Int) (s : ByteArray) :
    ((((w4.setCell ⟨b, 2, none⟩ (.bool B)).setCell ⟨w.heap.size, 0, none⟩ (.int .i64 x)).setCell ⟨w.heap.size, 1, none⟩ (.int .i64 y)).setCell ⟨w.heap.size, 2, none⟩ (.string s)).heap[w.heap.size]? = some (.cells #[.int .i64 x, .int .i64 y, .string s] 86 (0, 0)) ∧
    Rdg ((((w4.setCell ⟨b, 2, none⟩ (.bool B)).setCell ⟨w.heap.size, 0, none⟩ (.int .i64 x)).setCell ⟨w.heap.size, 1, none⟩ (.int .i64 y)).setCell ⟨w.heap.size, 2, none⟩ (.string s)) b ad bs n c a1 B ∧
    Turn (fun i => i = b) w ((((w4.setCell ⟨b, 2, none⟩ (.bool B)).setCell ⟨w.heap.size, 0, none⟩ (.int .i64 x)).setCell ⟨w.heap.size, 1, none⟩ (.int .i64 y)).setCell ⟨w.heap.size, 2, none⟩ (.string s)) := by
  have tb : ∀ W : World, Turn (fun i => i = w.heap.size) W (((W.setCell ⟨w.heap.size, 0, none⟩ (.int .i64 x)).setCell ⟨w.heap.size, 1, none⟩ (.int .i64 y)).setCell ⟨w.heap.size, 2, none⟩ (.string s)) := fun W => (((Turn.refl (fun i => i = w.heap.size) W).setCell (.inl rfl) _).setCell (.inl rfl) _).setCell (.inl rfl) _
  have ta : Turn (fun i => i = b) w4 (w4.setCell ⟨b, 2, none⟩ (.bool B)) := (Turn.refl (fun i => i = b) w4).setCell (.inl rfl) _
  refine ⟨?_, ?_, ?_⟩
  · have := blk_set (blk_set (blk_set (blk_far g (p := ⟨b, 2, none⟩) (fun e => hb e.symm) (.bool B)) 0 (.int .i64 x)) 1 (.int .i64 y)) 2 (.string s)
    exact this
  · refine ⟨(R.rd.turn ta (fun a e => by obtain rfl := Option.some.inj e; exact R.ne)).turn (tb _) (fun a e => by obtain rfl := Option.some.inj e; omega), R.isb, R.ne, ?_, R.le, R.cap, R.c64, R.n5⟩
    exact (tb _).heap (blk_set R.at_ 2 (.bool B)) hb
  · exact (t.trans ta).then_ (tb _) (fun k hk => .inr (by omega))
set_option maxHeartbeats 400000 in
theorem value_other {w : World} {b n c a : Nat} {ad : Addr} (bs : List Int) (R : Rdg w b ad bs n c a false) (h0 : 0 < n) (h1 : ¬ (byteS bs n a false).1 = 1) (h2 : ¬ (byteS bs n a false).1 = 2) (h3 : ¬ (byteS bs n a false).1 = 3) :
    Calls Tryz.prog 150 #[.pointer (some ⟨b, 0, none⟩)] w (ValPost w b ad bs n c a) := by
  have HS : valS bs n a = (⟨(byteS bs n a false).1, 0, ⟨#[]⟩⟩, (byteS bs n a false).2) := by unfold valS; simp only [h1, h2, h3, if_false]
  unfold ValPost
  rw [HS]
  have R0 := R.below ((Below.refl _ w).alloc (Nat.le_refl _) (.cells #[.int .i64 0, .int .i64 0, .string ⟨#[]⟩] 86))
  have T0 := Lib.hid ((Turn.refl (fun i => i = b) w).alloc (.cells #[.int .i64 0, .int .i64 0, .string ⟨#[]⟩] 86))
  have g0 := Lib.hid (heap_alloc_new w (.cells #[.int .i64 0, .int .i64 0, .string ⟨#[]⟩] 86))
  have hbw : ¬ b = w.heap.size := by have := lt_of_heap R.at_; omega
  have HB := Lib.hid (byte_any bs R0)
  clear R0
  obtain ⟨xx, hxx⟩ : ∃ xx, xx = byteS bs n a false := ⟨_, rfl⟩
  rw [← hxx] at h1 h2 h3 HB ⊢
  obtain ⟨x, a1, bad1⟩ := xx
  simp only at h1 h2 h3 HB ⊢
  have HA := Rd1.blt R h0
  clear hxx R HS
  go_enter Tryz.func150, Tryz.ntmps150
  have ha : ad.block < w.heap.size := HA
  go_wp2_with (first
    | (exfalso; omega)
    | (go_at_call 149; refine HB.out.mono ?_; rintro e w1 ⟨x, rfl, hx5, rfl, R1, t1⟩; have HR1 := Lib.hid R1; have g1 := Lib.hid (t1.heap g0.out (fun e => hbw e.symm)); have t2 := Lib.hid (T0.out.trans t1); obtain ⟨c2, f2, hb⟩ := rcells R1; obtain ⟨r0, r1, r2, r3, r4, r5⟩ := vcells g1.out; have hr1 := lt_of_heap g1.out; clear R1 t1; cases bad1)
    | (go_at_call 163; refine (vcheck0 x 0 _).mono ?_; rintro e w4 ⟨rfl, b4⟩; have g4 := Lib.hid (blk_below (heap_alloc_new w1 _) b4 (by simp)); obtain ⟨p0, p1, p2, p3, p4, p5⟩ := vcells g4.out; have HR4 := Lib.hid ((HR1.out.below ((Below.refl _ w1).alloc (Nat.le_refl _) _)).below b4); have g5 := Lib.hid (blk_below (blk_alloc g1.out _) b4 (lt_of_heap (blk_alloc g1.out _))); have t5 := Lib.hid ((t2.out.alloc _).trans (Turn.of_below b4 _)); obtain ⟨c4, f4, hb4⟩ := rcells HR4.out; obtain ⟨s0, s1, s2, s3, s4, s5⟩ := vcells g5.out))
  · have E := val_end HR4.out t5.out g5.out hbw ha (vErr ⟨x, 0, ⟨#[]⟩⟩ != 0) x 0 ⟨#[]⟩
    exact ⟨rfl, _, results_cell_row (p := 2) (ty := 86) rfl _ _ w.heap.size 86 _ (0, 0) _ rfl E.1 Tryz.underlying86 rfl (by kernel_rfl), rfl, by rw [Bool.false_or, ← vErr_ne]; exact E.2.1, E.2.2⟩
  · have E := val_end HR1.out t2.out g1.out hbw ha true x 0 ⟨#[]⟩
    exact ⟨rfl, _, results_cell_row (p := 2) (ty := 86) rfl _ _ w.heap.size 86 _ (0, 0) _ rfl (blk_alloc E.1 _) Tryz.underlying86 rfl (by kernel_rfl), rfl, by rw [Bool.true_or]; exact E.2.1.below ((Below.refl _ _).alloc (Nat.le_refl _) _), E.2.2.alloc _⟩
end Go.Proofs.YtkbapoeilcapfaaGreat
namespace Go.Proofs.YtkbapoeilcapfaaGreat
open Go.RowKit
set_option linter.unusedVariables false
set_option linter.unusedSimpArgs false

abbrev vcs (k n : Int) (s : ByteArray) : Obj := .cells #[.int .i64 k, .int .i64 n, .string s] 86
/-- In the midst of value: block q holds the value, the cell of the result lies ahead. -/
structure Mid5 (w w2 : World) (q b : Nat) (ad : Addr) (bs : List Int) (n c a : Nat) (bad : Bool) (k x : Int) (s : ByteArray) : Prop where
  R : Rdg w2 b ad bs n c a bad
  t : Turn (fun i => i = b) w w2
  gq : w2.heap[q]? = some (vcs k x s)
  gr : w2.heap[w.heap.size]? = some (vcs 0 0 ⟨#[]⟩)
  hb : ¬ b = w.heap.size
  qb : ¬ q = b
  qr : w.heap.size < q
  ha : ad.block < w.heap.size
section
variable {w w2 w3 : World} {q b : Nat} {ad : Addr} {bs : List Int} {n c a : Nat} {bad : Bool} {k x : Int} {s : ByteArray}
theorem Mid5.start {w1 : World} (R1 : Rdg w1 b ad bs n c a bad) (t1 : Turn (fun i => i = b) (w.alloc (vcs 0 0 ⟨#[]⟩)) w1) (hb : b < w.heap.size) (ha : ad.block < w.heap.size) (k : Int) : Mid5 w (w1.alloc (vcs k 0 ⟨#[]⟩)) w1.heap.size b ad bs n c a bad k 0 ⟨#[]⟩ :=
  have g1 := t1.heap (heap_alloc_new w _) (fun e => by omega)
  have h1 := lt_of_heap R1.at_
  ⟨R1.below ((Below.refl _ w1).alloc (Nat.le_refl _) _), (((Turn.refl (fun i => i = b) w).alloc _).trans t1).alloc _, heap_alloc_new w1 _, blk_alloc g1 _, by omega, by omega, lt_of_heap g1, ha⟩
theorem Mid5.call (M : Mid5 w w2 q b ad bs n c a bad k x s) {a' : Nat} {bad' : Bool} (R : Rdg w3 b ad bs n c a' bad') (t : Turn (fun i => i = b) w2 w3) : Mid5 w w3 q b ad bs n c a' bad' k x s :=
  ⟨R, M.t.trans t, t.heap M.gq M.qb, t.heap M.gr (fun e => M.hb e.symm), M.hb, M.qb, M.qr, M.ha⟩
theorem Mid5.below (M : Mid5 w w2 q b ad bs n c a bad k x s) (h : Below w2.heap.size w2 w3) : Mid5 w w3 q b ad bs n c a bad k x s :=
  ⟨M.R.below h, M.t.trans (Turn.of_below h _), blk_below M.gq h (lt_of_heap M.gq), blk_below M.gr h (lt_of_heap M.gr), M.hb, M.qb, M.qr, M.ha⟩
theorem Mid5.setn (M : Mid5 w w2 q b ad bs n c a bad k x s) (y : Int) : Mid5 w (w2.setCell ⟨q, 1, none⟩ (.int .i64 y)) q b ad bs n c a bad k y s :=
  have t : Turn (fun i => i = q) w2 (w2.setCell ⟨q, 1, none⟩ (.int .i64 y)) := (Turn.refl (fun i => i = q) w2).setCell (.inl rfl) _
  ⟨M.R.turn t (fun e => M.qb e.symm) (fun e => by have := M.qr; have := M.ha; omega), M.t.then_ t (fun i e => .inr (by have := M.qr; omega)), blk_set M.gq 1 _, t.heap M.gr (fun e => by have := M.qr; omega), M.hb, M.qb, M.qr, M.ha⟩
theorem Mid5.sets (M : Mid5 w w2 q b ad bs n c a bad k x s) (y : ByteArray) : Mid5 w (w2.setCell ⟨q, 2, none⟩ (.string y)) q b ad bs n c a bad k x y :=
  have t : Turn (fun i => i = q) w2 (w2.setCell ⟨q, 2, none⟩ (.string y)) := (Turn.refl (fun i => i = q) w2).setCell (.inl rfl) _
  ⟨M.R.turn t (fun e => M.qb e.symm) (fun e => by have := M.qr; have := M.ha; omega), M.t.then_ t (fun i e => .inr (by have := M.qr; omega)), blk_set M.gq 2 _, t.heap M.gr (fun e => by have := M.qr; omega), M.hb, M.qb, M.qr, M.ha⟩
theorem Mid5.cells (M : Mid5 w w2 q b ad bs n c a bad k x s) :
    (w2.cell? ⟨b, 2, none⟩ = some (.bool bad) ∧ w2.frozen? ⟨b, 2, none⟩ = false ∧ b < w2.heap.size) ∧
    (w2.cell? ⟨q, 0, none⟩ = some (.int .i64 k) ∧ w2.cell? ⟨q, 1, none⟩ = some (.int .i64 x) ∧ w2.cell? ⟨q, 2, none⟩ = some (.string s) ∧ w2.frozen? ⟨q, 0, none⟩ = false ∧ w2.frozen? ⟨q, 1, none⟩ = false ∧ w2.frozen? ⟨q, 2, none⟩ = false) ∧
    (w2.cell? ⟨w.heap.size, 0, none⟩ = some (.int .i64 0) ∧ w2.cell? ⟨w.heap.size, 1, none⟩ = some (.int .i64 0) ∧ w2.cell? ⟨w.heap.size, 2, none⟩ = some (.string ⟨#[]⟩) ∧ w2.frozen? ⟨w.heap.size, 0, none⟩ = false ∧ w2.frozen? ⟨w.heap.size, 1, none⟩ = false ∧ w2.frozen? ⟨w.heap.size, 2, none⟩ = false) ∧
    ¬ b = w.heap.size ∧ ¬ q = b ∧ w.heap.size < q ∧ ¬ q = w.heap.size ∧ w.heap.size < w2.heap.size ∧ q < w2.heap.size :=
  ⟨rcells M.R, vcells M.gq, vcells M.gr, M.hb, M.qb, M.qr, by have := M.qr; omega, lt_of_heap M.gr, lt_of_heap M.gq⟩
theorem Mid5.out (M : Mid5 w w2 q b ad bs n c a bad k x s) (B : Bool) {v : V} (hv : v = ⟨k, x, s⟩) {B' : Bool} (hB : B = B') :
    ((((w2.setCell ⟨b, 2, none⟩ (.bool B)).setCell ⟨w.heap.size, 0, none⟩ (.int .i64 k)).setCell ⟨w.heap.size, 1, none⟩ (.int .i64 x)).setCell ⟨w.heap.size, 2, none⟩ (.string s)).heap[w.heap.size]? = some (.cells v.val.cells 86 (0, 0)) ∧
    Rdg ((((w2.setCell ⟨b, 2, none⟩ (.bool B)).setCell ⟨w.heap.size, 0, none⟩ (.int .i64 k)).setCell ⟨w.heap.size, 1, none⟩ (.int .i64 x)).setCell ⟨w.heap.size, 2, none⟩ (.string s)) b ad bs n c a B' ∧
    Turn (fun i => i = b) w ((((w2.setCell ⟨b, 2, none⟩ (.bool B)).setCell ⟨w.heap.size, 0, none⟩ (.int .i64 k)).setCell ⟨w.heap.size, 1, none⟩ (.int .i64 x)).setCell ⟨w.heap.size, 2, none⟩ (.string s)) := by
  subst hv hB
  exact val_end M.R M.t M.gr M.hb M.ha B k x s
end
theorem byteS_nat (bs : List Int) (n a : Nat) (bad : Bool) (h : isB bs) (hl : bs.length = n) : ∃ (x : Nat) (a' : Nat) (bad' : Bool), byteS bs n a bad = ((x : Int), a', bad') ∧ x ≤ 255 := by
  have := byteS_isB bs n a bad h hl
  obtain ⟨y, a', bad'⟩ : ∃ y, y = byteS bs n a bad := ⟨_, rfl⟩
  refine ⟨(byteS bs n a bad).1.toNat, (byteS bs n a bad).2.1, (byteS bs n a bad).2.2, ?_, by omega⟩
  rw [Int.toNat_of_nonneg this.1]
theorem byte_at_ {w : World} {b n c a x a' : Nat} {ad : Addr} {bad bad' : Bool} {bs : List Int} (R : Rdg w b ad bs n c a bad) (h : byteS bs n a bad = ((x : Int), a', bad')) :
    Calls Tryz.prog 149 #[.pointer (some ⟨b, 0, none⟩)] w fun e w' => e = .returned (.int .i64 x) ∧ Rdg w' b ad bs n c a' bad' ∧ Turn (fun i => i = b) w w' := by
  refine (byte_any bs R).mono ?_
  rintro e w' ⟨y, hy, _, rfl, h1, h2⟩
  rw [h] at hy h1
  exact ⟨by rw [hy], h1, h2⟩
theorem value_bool {w : World} {b n c a a1 : Nat} {ad : Addr} {bad1 : Bool} {bs : List Int} (R : Rdg w b ad bs n c a false) (h0 : 0 < n) (h1 : byteS bs n a false = (((1 : Nat) : Int), a1, bad1)) :
    Calls Tryz.prog 150 #[.pointer (some ⟨b, 0, none⟩)] w (ValPost w b ad bs n c a) := by
  obtain ⟨y, a2, bad2, h2, hy5⟩ := byteS_nat bs n a1 bad1 R.isb R.len
  have HS : valS bs n a = (⟨1, y, ⟨#[]⟩⟩, a2, bad2) := by unfold valS; simp [h1, h2]
  unfold ValPost
  rw [HS]
  have R0 := R.below ((Below.refl _ w).alloc (Nat.le_refl _) (.cells #[.int .i64 0, .int .i64 0, .string ⟨#[]⟩] 86))
  have HB := Lib.hid (byte_at_ R0 h1)
  have HH := Lib.hid (And.intro (lt_of_heap R.at_) (Rd1.blt R h0))
  have H2 := Lib.hid h2
  clear R0 HS h1 h2 R
  go_enter Tryz.func150, Tryz.ntmps150
  go_wp2_with (first
    | (go_at_call 149; refine (byte_at_ M1.out.R H2.out).mono ?_; rintro e w2 ⟨rfl, R2, t2⟩; have M2 := Lib.hid (M1.out.call R2 t2); obtain ⟨⟨c0, c1, c2⟩, ⟨p0, p1, p2, p3, p4, p5⟩, ⟨s0, s1, s2, s3, s4, s5⟩, u0, u1, u2, u3, u4, u5⟩ := M2.out.cells; clear R2 t2; cases bad2)
    | (go_at_call 149; refine HB.out.mono ?_; rintro e w1 ⟨rfl, R1, t1⟩; have M1 := Lib.hid (Mid5.start R1 t1 HH.out.1 HH.out.2 1); clear R1 t1)
    | (go_at_call 163; refine (vcheck0 1 y _).mono ?_; rintro e w4 ⟨rfl, b4⟩; have M4 := Lib.hid ((M2.out.setn y).below b4); obtain ⟨⟨c0, c1, c2⟩, ⟨p0, p1, p2, p3, p4, p5⟩, ⟨s0, s1, s2, s3, s4, s5⟩, _, _, _, _, u4, u5⟩ := M4.out.cells))
  · have E := M4.out.out (vErr ⟨1, y, ⟨#[]⟩⟩ != 0) (v := ⟨1, y, ⟨#[]⟩⟩) rfl (B' := (false || !vOk ⟨1, y, ⟨#[]⟩⟩)) (by rw [Bool.false_or, ← vErr_ne])
    exact ⟨rfl, _, results_cell_row (p := 2) (ty := 86) rfl _ _ w.heap.size 86 _ (0, 0) _ rfl E.1 Tryz.underlying86 rfl (by kernel_rfl), rfl, E.2.1, E.2.2⟩
  · have E := (M2.out.setn y).out true (v := ⟨1, y, ⟨#[]⟩⟩) rfl (B' := (true || !vOk ⟨1, y, ⟨#[]⟩⟩)) (by rw [Bool.true_or])
    exact ⟨rfl, _, results_cell_row (p := 2) (ty := 86) rfl _ _ w.heap.size 86 _ (0, 0) _ rfl E.1 Tryz.underlying86 rfl (by kernel_rfl), rfl, E.2.1, E.2.2⟩
end Go.Proofs.YtkbapoeilcapfaaGreat
namespace Go.Proofs.YtkbapoeilcapfaaGreat
open Go.RowKit
set_option linter.unusedVariables false
set_option linter.unusedSimpArgs false

theorem next_at_ {w : World} {b n c a k a' : Nat} {ad : Addr} {bad bad' : Bool} {bs cs : List Int} (R : Rdg w b ad bs n c a bad) (hk : k ≤ 100000) (h : nextS bs n a k bad = (cs, a', bad')) :
    Calls Tryz.prog 162 #[.pointer (some ⟨b, 0, none⟩), .int .i64 k] w fun e w' => ∃ A' c', e = .returned (.slice A' k c') ∧ Rd1 w' A' k (u8s cs) ∧ Rdg w' b ad bs n c a' bad' ∧ Turn (fun i => i = b) w w' := by
  refine (next_any bs R hk).mono ?_
  rintro e w' ⟨A', c', rfl, h1, h2, h3⟩
  rw [h] at h1 h2
  exact ⟨A', c', rfl, h1, R.next (k := k) h2 h3 (by rw [h]), h3⟩
theorem value_text {w : World} {b n c a a1 : Nat} {ad : Addr} {bad1 : Bool} {bs : List Int} (R : Rdg w b ad bs n c a false) (h0 : 0 < n) (h1 : byteS bs n a false = (((3 : Nat) : Int), a1, bad1)) :
    Calls Tryz.prog 150 #[.pointer (some ⟨b, 0, none⟩)] w (ValPost w b ad bs n c a) := by
  obtain ⟨y, a2, bad2, h2, hy5⟩ := byteS_nat bs n a1 bad1 R.isb R.len
  obtain ⟨cs, a3, bad3, h3⟩ : ∃ cs a3 bad3, nextS bs n a2 y bad2 = (cs, a3, bad3) := ⟨_, _, _, rfl⟩
  obtain ⟨t, ht⟩ : ∃ t, t = strOf cs := ⟨_, rfl⟩
  have hts : t.size ≤ 9223372036854775807 := by
    have := nextS_len bs n a2 y bad2 R.len
    rw [h3] at this
    rw [ht, strOf_size]
    simp only at this
    omega
  have HS : valS bs n a = (⟨3, 0, t⟩, a3, bad3) := by unfold valS; simp [h1, h2, h3, ht]
  unfold ValPost
  rw [HS]
  have R0 := R.below ((Below.refl _ w).alloc (Nat.le_refl _) (.cells #[.int .i64 0, .int .i64 0, .string ⟨#[]⟩] 86))
  have HB := Lib.hid (byte_at_ R0 h1)
  have HH := Lib.hid (And.intro (lt_of_heap R.at_) (Rd1.blt R h0))
  have H2 := Lib.hid h2
  have H3 := Lib.hid h3
  have HT := Lib.hid (And.intro ht hts)
  clear R0 HS h1 h2 h3 R ht hts
  go_enter Tryz.func150, Tryz.ntmps150
  go_wp2_with (first
    | (go_at_call 149; refine (byte_at_ M1.out.R H2.out).mono ?_; rintro e w2 ⟨rfl, R2, t2⟩; have M2 := Lib.hid (M1.out.call R2 t2); clear R2 t2)
    | (go_at_call 149; refine HB.out.mono ?_; rintro e w1 ⟨rfl, R1, t1⟩; have M1 := Lib.hid (Mid5.start R1 t1 HH.out.1 HH.out.2 3); clear R1 t1)
    | (go_at_call 162; refine (next_at_ M2.out.R (by omega) H3.out).mono ?_; rintro e w3 ⟨A', c', rfl, hr3, R3, t3⟩; have hconv := conv_rd (c := c') hr3; rw [← HT.out.1] at hconv; have M3 := Lib.hid (M2.out.call R3 t3); obtain ⟨⟨c0, c1, c2⟩, ⟨p0, p1, p2, p3, p4, p5⟩, ⟨s0, s1, s2, s3, s4, s5⟩, u0, u1, u2, u3, u4, u5⟩ := M3.out.cells; clear R3 t3 hr3; cases bad3)
    | (go_at_call 163; refine (vcheck ⟨3, 0, t⟩ _ HT.out.2).mono ?_; rintro e w4 ⟨rfl, b4⟩; have M4 := Lib.hid ((M3.out.sets t).below b4); obtain ⟨⟨c0, c1, c2⟩, ⟨p0, p1, p2, p3, p4, p5⟩, ⟨s0, s1, s2, s3, s4, s5⟩, _, _, _, _, u4, u5⟩ := M4.out.cells))
  · have E := M4.out.out (vErr ⟨3, 0, t⟩ != 0) (v := ⟨3, 0, t⟩) rfl (B' := (false || !vOk ⟨3, 0, t⟩)) (by rw [Bool.false_or, ← vErr_ne])
    exact ⟨rfl, _, results_cell_row (p := 2) (ty := 86) rfl _ _ w.heap.size 86 _ (0, 0) _ rfl E.1 Tryz.underlying86 rfl (by kernel_rfl), rfl, E.2.1, E.2.2⟩
  · have E := (M3.out.sets t).out true (v := ⟨3, 0, t⟩) rfl (B' := (true || !vOk ⟨3, 0, t⟩)) (by rw [Bool.true_or])
    exact ⟨rfl, _, results_cell_row (p := 2) (ty := 86) rfl _ _ w.heap.size 86 _ (0, 0) _ rfl E.1 Tryz.underlying86 rfl (by kernel_rfl), rfl, E.2.1, E.2.2⟩
end Go.Proofs.YtkbapoeilcapfaaGreat
namespace Go.Proofs.YtkbapoeilcapfaaGreat
open Go.RowKit
set_option linter.unusedVariables false
set_option linter.unusedSimpArgs false

theorem or64 {z y : Int} (z0 : 0 ≤ z) (z1 : z < 281474976710656) (y0 : 0 ≤ y) (y1 : y ≤ 255) : bits .or .u64 (z * 256) y = z * 256 + y := by
  obtain ⟨a, rfl⟩ := Int.eq_ofNat_of_zero_le z0
  obtain ⟨c, rfl⟩ := Int.eq_ofNat_of_zero_le y0
  have e : ((a : Int) * 256) = ((a * 256 : Nat) : Int) := by omega
  rw [e, u64_or_nat (a * 256) c (by omega) (by omega)]
  have h : a * 256 ||| c = a * 256 + c := by
    have := Nat.shiftLeft_add_eq_or_of_lt (i := 8) (b := c) (by omega) a
    rw [Nat.shiftLeft_eq] at this
    exact this.symm
  rw [h]
  omega
theorem bigE_snoc {cs : List Int} {k : Nat} (h : k < cs.length) : bigE (cs.take (k + 1)) = bigE (cs.take k) * 256 + cs.getD k 0 := by
  unfold bigE
  rw [take_snoc cs 0 h, List.foldl_append]
  rfl
theorem bigE_rng : ∀ (k : Nat) (cs : List Int), isB cs → 0 ≤ bigE (cs.take k) ∧ bigE (cs.take k) < 256 ^ k
  | 0, cs, _ => by simp [bigE]
  | k + 1, cs, h => by
    have ih := bigE_rng k cs h
    rcases Nat.lt_or_ge k cs.length with hl | hl
    · rw [bigE_snoc hl]
      have hm : cs.getD k 0 ∈ cs := by
        rw [List.getD_eq_getElem?_getD, List.getElem?_eq_getElem hl]
        exact List.getElem_mem hl
      have := h _ hm
      rw [Int.pow_succ]
      omega
    · rw [List.take_of_length_le (by omega)] at ih ⊢
      rw [Int.pow_succ]
      have : (0 : Int) < 256 ^ k := Int.pow_pos (by decide)
      omega
theorem getD_isB {cs : List Int} (h : isB cs) (k : Nat) : 0 ≤ cs.getD k 0 ∧ cs.getD k 0 ≤ 255 := by
  rcases Nat.lt_or_ge k cs.length with hl | hl
  · refine h _ ?_
    rw [List.getD_eq_getElem?_getD, List.getElem?_eq_getElem hl]
    exact List.getElem_mem hl
  · rw [List.getD_eq_getElem?_getD, List.getElem?_eq_none hl]
    simp
theorem value_int {w : World} {b n c a a1 : Nat} {ad : Addr} {bad1 : Bool} {bs : List Int} (R : Rdg w b ad bs n c a false) (h0 : 0 < n) (h1 : byteS bs n a false = (((2 : Nat) : Int), a1, bad1)) :
    Calls Tryz.prog 150 #[.pointer (some ⟨b, 0, none⟩)] w (ValPost w b ad bs n c a) := by
  obtain ⟨cs, a3, bad3, h3⟩ : ∃ cs a3 bad3, nextS bs n a1 7 bad1 = (cs, a3, bad3) := ⟨_, _, _, rfl⟩
  have hci : isB cs := by have := nextS_isB bs n a1 7 bad1 R.isb; rw [h3] at this; exact this
  have hcl : cs.length = 7 := by have := nextS_len bs n a1 7 bad1 R.len; rw [h3] at this; exact this
  have HS : valS bs n a = (⟨2, bigE cs - 9007199254740992, ⟨#[]⟩⟩, a3, bad3) := by unfold valS; simp [h1, h3]
  unfold ValPost
  rw [HS]
  have R0 := R.below ((Below.refl _ w).alloc (Nat.le_refl _) (.cells #[.int .i64 0, .int .i64 0, .string ⟨#[]⟩] 86))
  have HB := Lib.hid (byte_at_ R0 h1)
  have HH := Lib.hid (And.intro (lt_of_heap R.at_) (Rd1.blt R h0))
  have H3 := Lib.hid h3
  have HC := Lib.hid (And.intro hci hcl)
  clear R0 HS h1 h3 R hci hcl
  go_enter Tryz.func150, Tryz.ntmps150
  go_wp2_with (first
    | (go_at_call 149; refine HB.out.mono ?_; rintro e w1 ⟨rfl, R1, t1⟩; have M1 := Lib.hid (Mid5.start R1 t1 HH.out.1 HH.out.2 2); clear R1 t1)
    | (go_at_call 162; refine (next_at_ (k := 7) M1.out.R (by omega) H3.out).mono ?_; rintro e w3 ⟨A', c', rfl, hr3, R3, t3⟩; have M3 := Lib.hid (M1.out.call R3 t3); have HR := Lib.hid hr3; clear R3 t3 hr3))
  go_loopw [22, 4] (fun i x wr => ∃ k : Nat, k ≤ 7 ∧ i = .int .i64 k ∧ x = .int .u64 (bigE (cs.take k)) ∧ wr = w3) (fun i _ _ => 7 - (intOf i).toNat)
  case atStart => exact ⟨0, by omega, rfl, rfl, rfl⟩
  case round =>
    obtain ⟨k, hk, rfl, rfl, hw⟩ := hrel
    obtain rfl := hw.symm
    clear hw
    by_cases hlt : k < 7
    · obtain ⟨ad', rfl, had, hc⟩ := HR.out.at2 hlt
      have hl : k < cs.length := by rw [HC.out.2]; exact hlt
      rw [getD_map 0 hl] at hc
      have B := bigE_rng k cs HC.out.1
      have D := getD_isB HC.out.1 k
      have E := Lib.hid (bigE_snoc hl)
      obtain ⟨z, hz⟩ : ∃ z, z = bigE (cs.take k) := ⟨_, rfl⟩
      obtain ⟨y, hy⟩ : ∃ y, y = cs.getD k 0 := ⟨_, rfl⟩
      rw [← hz] at B E ⊢
      rw [← hy] at D hc E
      have hz6 : z < 281474976710656 := by have B := B.2; rcases (show k = 0 ∨ k = 1 ∨ k = 2 ∨ k = 3 ∨ k = 4 ∨ k = 5 ∨ k = 6 by omega) with rfl | rfl | rfl | rfl | rfl | rfl | rfl <;> omega
      clear hz hy
      go_wp2
      go_roundw
      case rel => exact ⟨k + 1, by omega, by go_num, by rw [E.out, or64 B.1 hz6 D.1 D.2], by trivial⟩
      case measure => simp [intOf]; omega
    · obtain rfl : k = 7 := by omega
      have B := bigE_rng 7 cs HC.out.1
      rw [List.take_of_length_le (by rw [HC.out.2]; omega)] at B ⊢
      obtain ⟨z, hz⟩ : ∃ z, z = bigE cs := ⟨_, rfl⟩
      rw [← hz] at B ⊢
      have z0 := B.1
      have z1 : z < 72057594037927936 := B.2
      have HZ := Lib.hid hz
      clear B hz hlt hk
      obtain ⟨⟨c0, c1, c2⟩, ⟨p0, p1, p2, p3, p4, p5⟩, ⟨s0, s1, s2, s3, s4, s5⟩, u0, u1, u2, u3, u4, u5⟩ := M3.out.cells
      cases bad3
      all_goals go_wp2_with (go_at_call 163; refine (vcheck0 2 (z - 9007199254740992) _).mono ?_; rintro e w4 ⟨rfl, b4⟩; have M4 := Lib.hid ((M3.out.setn (z - 9007199254740992)).below b4); obtain ⟨⟨c0, c1, c2⟩, ⟨p0, p1, p2, p3, p4, p5⟩, ⟨s0, s1, s2, s3, s4, s5⟩, _, _, _, _, u4, u5⟩ := M4.out.cells)
      · have hz := HZ.out
        subst hz
        have E := M4.out.out (vErr ⟨2, bigE cs - 9007199254740992, ⟨#[]⟩⟩ != 0) (v := ⟨2, bigE cs - 9007199254740992, ⟨#[]⟩⟩) rfl (B' := (false || !vOk ⟨2, bigE cs - 9007199254740992, ⟨#[]⟩⟩)) (by rw [Bool.false_or, ← vErr_ne])
        exact ⟨rfl, _, results_cell_row (p := 2) (ty := 86) rfl _ _ w.heap.size 86 _ (0, 0) _ rfl E.1 Tryz.underlying86 rfl (by kernel_rfl), rfl, E.2.1, E.2.2⟩
      · have hz := HZ.out
        subst hz
        have E := (M3.out.setn (bigE cs - 9007199254740992)).out true (v := ⟨2, bigE cs - 9007199254740992, ⟨#[]⟩⟩) rfl (B' := (true || !vOk ⟨2, bigE cs - 9007199254740992, ⟨#[]⟩⟩)) (by rw [Bool.true_or])
        exact ⟨rfl, _, results_cell_row (p := 2) (ty := 86) rfl _ _ w.heap.size 86 _ (0, 0) _ rfl E.1 Tryz.underlying86 rfl (by kernel_rfl), rfl, E.2.1, E.2.2⟩
theorem value_walk {w : World} {b n c a : Nat} {ad : Addr} {bs : List Int} (R : Rdg w b ad bs n c a false) (h0 : 0 < n) :
    Calls Tryz.prog 150 #[.pointer (some ⟨b, 0, none⟩)] w (ValPost w b ad bs n c a) := by
  obtain ⟨x, a1, bad1, h, _⟩ := byteS_nat bs n a false R.isb R.len
  by_cases h1 : x = 1
  · subst h1
    exact value_bool R h0 h
  · by_cases h2 : x = 2
    · subst h2
      exact value_int R h0 h
    · by_cases h3 : x = 3
      · subst h3
        exact value_text R h0 h
      · exact value_other bs R h0 (by rw [h]; simp only; omega) (by rw [h]; simp only; omega) (by rw [h]; simp only; omega)
end Go.Proofs.YtkbapoeilcapfaaGreat

/- row.Get: the row with which bytes begin. -/
namespace Go.Proofs.YtkbapoeilcapfaaGreat
open Go.RowKit
set_option linter.unusedVariables false
set_option linter.unusedSimpArgs false

theorem drop_of_byte {bs : List Int} {n a x a1 : Nat} (hl : bs.length = n) (h : byteS bs n a false = ((x : Int), a1, false)) : a < n ∧ a1 = a + 1 ∧ bs.drop a = (x : Int) :: bs.drop (a + 1) := by
  unfold byteS nextS at h
  by_cases hc : n < a + 1
  · simp [hc] at h
  · simp only [Bool.false_eq_true, hc, or_self, if_false, Prod.mk.injEq] at h
    have ha : a < bs.length := by omega
    have hd := drop_cons bs 0 ha
    refine ⟨by omega, h.2.1.symm, ?_⟩
    rw [hd] at h
    rw [hd]
    have : bs.getD a 0 = (x : Int) := by simpa using h.1
    rw [this]
theorem byte_bad_drop {bs : List Int} {n a : Nat} {x : Int} {a1 : Nat} (hl : bs.length = n) (h : byteS bs n a false = (x, a1, true)) : bs.drop a = [] ∧ x = 0 ∧ a1 = a := by
  unfold byteS nextS at h
  by_cases hc : n < a + 1
  · simp [hc] at h
    exact ⟨List.drop_eq_nil_iff.2 (by omega), h.1.symm, h.2.symm⟩
  · simp [hc] at h
theorem bad_byte {bs : List Int} {n a : Nat} : byteS bs n a true = (0, a, true) := by
  unfold byteS nextS
  simp
theorem bad_next {bs : List Int} {n a k : Nat} : nextS bs n a k true = (List.replicate k 0, a, true) := by
  unfold nextS
  simp
theorem valS_dec (bs : List Int) (n a : Nat) (hb : isB bs) (hl : bs.length = n) :
    (∀ v m, decV (bs.drop a) = some (v, m) → valS bs n a = (v, a + m, false) ∧ vOk v = true) ∧ (decV (bs.drop a) = none → ((valS bs n a).2.2 || !vOk (valS bs n a).1) = true) := by
  have key : ∀ (v : V) (m a' : Nat), rawV (bs.drop a) = some (v, m) → valS bs n a = (v, a', false) → a' = a + m → (∀ v m, decV (bs.drop a) = some (v, m) → valS bs n a = (v, a + m, false) ∧ vOk v = true) ∧ (decV (bs.drop a) = none → ((valS bs n a).2.2 || !vOk (valS bs n a).1) = true) := by
    intro v m a' h1 h2 h3
    subst h3
    unfold decV
    rw [h1, h2]
    cases hv : vOk v
    · simp [Option.filter, hv]
    · simp [Option.filter, hv]
  have bad : rawV (bs.drop a) = none → (valS bs n a).2.2 = true → (∀ v m, decV (bs.drop a) = some (v, m) → valS bs n a = (v, a + m, false) ∧ vOk v = true) ∧ (decV (bs.drop a) = none → ((valS bs n a).2.2 || !vOk (valS bs n a).1) = true) := by
    intro h1 h2
    unfold decV
    rw [h1, h2]
    simp [Option.filter]
  obtain ⟨x, a1, bad1, h1, hx⟩ := byteS_nat bs n a false hb hl
  cases bad1 with
  | true =>
    obtain ⟨hd, hx0, _⟩ := byte_bad_drop hl h1
    refine bad (by rw [hd]; rfl) ?_
    unfold valS
    simp only [h1, hx0]
    simp
  | false =>
    obtain ⟨ha, rfl, hd⟩ := drop_of_byte hl h1
    obtain ⟨y, a2, bad2, h2, hy⟩ := byteS_nat bs n (a + 1) false hb hl
    by_cases x1 : x = 1
    · subst x1
      cases bad2 with
      | true =>
        obtain ⟨hd2, _, _⟩ := byte_bad_drop hl h2
        refine bad (by rw [hd, hd2]; rfl) ?_
        unfold valS
        simp [h1, h2]
      | false =>
        obtain ⟨ha2, rfl, hd2⟩ := drop_of_byte hl h2
        refine key ⟨1, y, ⟨#[]⟩⟩ 2 (a + 1 + 1) (by rw [hd, hd2]; rfl) ?_ (by omega)
        unfold valS
        simp [h1, h2]
    · by_cases x2 : x = 2
      · subst x2
        have hlen : (bs.drop (a + 1)).length = n - (a + 1) := by rw [List.length_drop, hl]
        by_cases h7 : n < a + 1 + 7
        · refine bad ?_ ?_
          · rw [hd]
            show (if 7 ≤ (bs.drop (a + 1)).length then _ else _) = _
            rw [if_neg (by omega)]
          · unfold valS nextS
            simp [h1, h7]
        · refine key ⟨2, bigE ((bs.drop (a + 1)).take 7) - 9007199254740992, ⟨#[]⟩⟩ 8 (a + 1 + 7) ?_ ?_ (by omega)
          · rw [hd]
            show (if 7 ≤ (bs.drop (a + 1)).length then _ else _) = _
            rw [if_pos (by omega)]
          · unfold valS nextS
            simp [h1, h7]
      · by_cases x3 : x = 3
        · subst x3
          cases bad2 with
          | true =>
            obtain ⟨hd2, _, _⟩ := byte_bad_drop hl h2
            refine bad (by rw [hd, hd2]; rfl) ?_
            unfold valS
            simp [h1, h2, bad_next]
          | false =>
            obtain ⟨ha2, rfl, hd2⟩ := drop_of_byte hl h2
            have hlen : (bs.drop (a + 1 + 1)).length = n - (a + 1 + 1) := by rw [List.length_drop, hl]
            by_cases hs : n < a + 1 + 1 + y
            · refine bad ?_ ?_
              · rw [hd, hd2]
                show (if (y : Int).toNat ≤ (bs.drop (a + 1 + 1)).length then _ else _) = _
                rw [if_neg (by omega)]
              · unfold valS nextS
                simp [h1, h2, hs]
            · refine key ⟨3, 0, strOf ((bs.drop (a + 1 + 1)).take y)⟩ (2 + y) (a + 1 + 1 + y) ?_ ?_ (by omega)
              · rw [hd, hd2]
                show (if (y : Int).toNat ≤ (bs.drop (a + 1 + 1)).length then _ else _) = _
                rw [if_pos (by omega), Int.toNat_natCast]
              · unfold valS nextS
                simp [h1, h2, hs]
        · refine key ⟨x, 0, ⟨#[]⟩⟩ 1 (a + 1) ?_ ?_ rfl
          · rw [hd]
            show (if (x : Int) = 1 then _ else if (x : Int) = 2 then _ else if (x : Int) = 3 then _ else _) = _
            rw [if_neg (by omega), if_neg (by omega), if_neg (by omega)]
          · unfold valS
            simp only [h1]
            rw [if_neg (by omega), if_neg (by omega), if_neg (by omega)]

def GetPost (w : World) (bs : List Int) (e : Ending) (w' : World) : Prop :=
  (match decR bs with
  | some (r, m) => ∃ v', e = .returned (.tuple #[v', .int .i64 m, .int .i64 0]) ∧ w'.ownsRow w.heap.size 86 3 v' r.length (cellsR r)
  | none => e = .returned (.tuple #[.slice none 0 0, .int .i64 0, .int .i64 20])) ∧ Below w.heap.size w w'
/-- The loop's state: so many values are read. -/
def GetSt (bs : List Int) (cnt k a : Nat) (bad : Bool) (r : List V) : Prop := if bad = true then decA bs cnt 1 [] = none else (r.length = k ∧ decA bs cnt 1 [] = decA bs (cnt - k) a r)
theorem cellsR_snoc (r : List V) (v : V) : cellsR (r ++ [v]) = cellsR r ++ cellsV v := by simp [cellsR]
theorem GetSt.step {bs : List Int} {n cnt k a : Nat} {r : List V} (h : GetSt bs cnt k a false r) (hb : isB bs) (hl : bs.length = n) (hk : k < cnt) : GetSt bs cnt (k + 1) (valS bs n a).2.1 ((valS bs n a).2.2 || !vOk (valS bs n a).1) (r ++ [(valS bs n a).1]) := by
  unfold GetSt at h
  rw [if_neg (by decide)] at h
  have e : cnt - k = cnt - (k + 1) + 1 := by omega
  rw [e, decA] at h
  have hv := valS_dec bs n a hb hl
  unfold GetSt
  cases hd : decV (bs.drop a) with
  | none =>
    rw [hd] at h
    rw [if_pos (hv.2 hd)]
    exact h.2
  | some x =>
    obtain ⟨v, m⟩ := x
    obtain ⟨h1, h2⟩ := hv.1 v m hd
    rw [hd] at h
    simp only [h1, h2, Bool.not_true, Bool.or_false, Bool.false_eq_true, if_false]
    exact ⟨by simp [h.1], h.2⟩
end Go.Proofs.YtkbapoeilcapfaaGreat
namespace Go.Proofs.YtkbapoeilcapfaaGreat
open Go.RowKit
set_option linter.unusedVariables false
set_option linter.unusedSimpArgs false

theorem Rdg.bcells {w : World} {b n c a : Nat} {ad : Addr} {bs : List Int} {bad : Bool} (R : Rdg w b ad bs n c a bad) : w.cell? ⟨b, 1, none⟩ = some (.int .i64 a) ∧ w.cell? ⟨b, 2, none⟩ = some (.bool bad) ∧ b < w.heap.size :=
  ⟨cell_of_blk R.at_ 1, cell_of_blk R.at_ 2, lt_of_heap R.at_⟩
theorem get_res {w w' : World} {bs : List Int} {cnt k a : Nat} {bad : Bool} {r : List V} (hd : bs.head? = some (cnt : Int)) (hs : GetSt bs cnt k a bad r) (hc : cnt ≤ 32) (hb : bad = true ∨ k = cnt) (b : Below w.heap.size w w') {v' : Value} (ho : w'.ownsRow w.heap.size 86 3 v' k (cellsR r)) (hk : bad = false → r.length = k)
    {e : Ending} (he : e = if bad = true then .returned (.tuple #[.slice none 0 0, .int .i64 0, .int .i64 20]) else .returned (.tuple #[v', .int .i64 a, .int .i64 0])) : GetPost w bs e w' := by
  obtain ⟨t, rfl⟩ : ∃ t, bs = (cnt : Int) :: t := by
    cases bs with
    | nil => simp at hd
    | cons x t => simp at hd; exact ⟨t, by rw [hd]⟩
  refine ⟨?_, b⟩
  have e1 : decR ((cnt : Int) :: t) = decA ((cnt : Int) :: t) cnt 1 [] := by
    show (if (cnt : Int) ≤ 32 then _ else _) = _
    rw [if_pos (by omega), Int.toNat_natCast]
  rw [e1]
  unfold GetSt at hs
  cases bad with
  | true =>
    rw [if_pos rfl] at hs
    rw [hs]
    exact he
  | false =>
    rw [if_neg (by decide)] at hs
    obtain rfl : k = cnt := by rcases hb with h | h; cases h; exact h
    rw [hs.2, Nat.sub_self]
    have := hk rfl
    subst this
    exact ⟨v', he, ho⟩
set_option maxHeartbeats 400000 in
theorem get_walk {w : World} {n c : Nat} {ad : Addr} {bs : List Int} (hr : Rd1 w (some ad) n (u8s bs)) (hb : isB bs) (hab : ad.block < w.heap.size) (hnc : n ≤ c) (hc : c ≤ 9223372036854775807) (hn : n ≤ 100000) :
    Calls Tryz.prog 129 #[.slice (some ad) n c] w (GetPost w bs) := by
  have hl : bs.length = n := by simpa using hr.1
  have b0 : Below w.heap.size w (w.alloc (.cells #[.slice (some ad) n c, .int .i64 ((0 : Nat) : Int), .bool false] 218)) := (Below.refl _ _).alloc (Nat.le_refl _) _
  have R : Rdg (w.alloc (.cells #[.slice (some ad) n c, .int .i64 ((0 : Nat) : Int), .bool false] 218)) w.heap.size ad bs n c 0 false := ⟨hr.below b0, hb, by omega, heap_alloc_new w _, by omega, hnc, hc, hn⟩
  obtain ⟨cnt, a1, bad1, h1, hcnt⟩ := byteS_nat bs n 0 false hb hl
  have HB := Lib.hid (byte_at_ R h1)
  have HI := Lib.hid (And.intro hb (And.intro hl hab))
  have HST : bad1 = false → bs.head? = some (cnt : Int) ∧ 0 < n ∧ GetSt bs cnt 0 a1 false [] := by
    rintro rfl
    obtain ⟨h2, h3, h4⟩ := drop_of_byte hl h1
    refine ⟨by rw [List.drop_zero] at h4; rw [h4]; rfl, by omega, ?_⟩
    unfold GetSt
    rw [if_neg (by decide), Nat.sub_zero, h3]
    exact ⟨rfl, rfl⟩
  have HBAD : bad1 = true → decR bs = none ∧ cnt = 0 := by
    rintro rfl
    obtain ⟨h2, h3, h4⟩ := byte_bad_drop hl h1
    rw [List.drop_zero] at h2
    rw [h2]
    exact ⟨rfl, by omega⟩
  have HBIG : ¬ cnt ≤ 32 → decR bs = none := by
    intro h
    cases bad1 with
    | true => exact (HBAD rfl).1
    | false =>
      obtain ⟨_, _, h4⟩ := drop_of_byte hl h1
      rw [List.drop_zero] at h4
      rw [h4]
      show (if (cnt : Int) ≤ 32 then _ else _) = _
      rw [if_neg (by omega)]
  have HH := Lib.hid (And.intro HST (And.intro HBAD HBIG))
  clear HST HBAD HBIG h1 R hr b0 hb hl
  go_enter Tryz.func129, Tryz.ntmps129
  go_wp2_with (go_at_call 149; refine HB.out.mono ?_; rintro e w1 ⟨rfl, R1, t1⟩; have HR1 := Lib.hid R1; have HT1 := Lib.hid t1; obtain ⟨d1, d2, d3⟩ := R1.bcells; clear R1 t1)
  have B1 : Below w.heap.size w w1 := ((Below.refl _ w).alloc (Nat.le_refl _) _).trans (HT1.out.below (by simp) (fun k hk => by omega))
  by_cases h32 : cnt ≤ 32
  · cases bad1 with
    | true =>
      obtain ⟨h2, rfl⟩ := HH.out.2.1 rfl
      have H2 := Lib.hid (And.intro h2 B1)
      clear h2 B1
      go_loopw [7, 8] (fun o i wr => o = .slice none 0 0 ∧ i = .int .i64 ((0 : Nat) : Int) ∧ wr = w1) (fun _ i _ => 0)
      case atStart => exact ⟨rfl, rfl, rfl⟩
      case round =>
        obtain ⟨rfl, rfl, hw⟩ := hrel
        obtain rfl := hw.symm
        clear hw
        go_wp2
        go_ret3
        refine ⟨?_, H2.out.2⟩
        rw [H2.out.1]
        exact rfl
    | false =>
      obtain ⟨hh, hn0, hst⟩ := HH.out.1 rfl
      have HD := Lib.hid hh
      have HB1 := Lib.hid B1
      clear hh B1
      go_loopw [7, 8] (fun o i wr => ∃ (k a : Nat) (bad : Bool) (r : List V), k ≤ cnt ∧ i = .int .i64 k ∧ GetSt bs cnt k a bad r ∧ r.length = k ∧ wr.ownsRow w.heap.size 86 3 o k (cellsR r) ∧ Rdg wr w.heap.size ad bs n c a bad ∧ Below w.heap.size w wr) (fun _ i _ => cnt - (intOf i).toNat)
      case atStart => exact ⟨0, a1, false, [], by omega, rfl, hst, rfl, World.ownsRow_nil _ _ _ _, HR1.out, HB1.out⟩
      case round =>
        obtain ⟨k, a, bad, r, hk, rfl, hst, hrl, ho, hR, bel⟩ := hrel
        obtain ⟨d1, d2, d3⟩ := hR.bcells
        by_cases hlt : k < cnt
        · cases bad with
          | false =>
            have HV := Lib.hid (value_walk hR hn0)
            obtain ⟨A3, c3, rfl⟩ := own_slice ho
            have HO := Lib.hid (And.intro ho (And.intro hR (And.intro bel (And.intro hst hrl))))
            obtain ⟨v, hv⟩ : ∃ v, v = (valS bs n a).1 := ⟨_, rfl⟩
            have hvp := HV.out
            unfold ValPost at hvp
            rw [← hv] at hvp
            obtain ⟨vk, vn, vs⟩ := v
            dsimp only [V.val] at hvp
            have HV := Lib.hid hvp
            have HN := Lib.hid hv
            clear ho hR bel hst hrl hvp hv
            go_wp2_with (first
              | (go_at_call 150; refine HV.out.mono ?_; rintro e w2 ⟨rfl, R2, t2⟩; have HR2 := Lib.hid R2; have HT2 := Lib.hid t2; have h2 := own_turn HO.out.1 t2 (own_ne_typed HO.out.1 HO.out.2.1.at_ (by decide)); have s2 : w.heap.size ≤ w2.heap.size := Nat.le_trans HO.out.2.2.1.size t2.size; clear R2 t2)
              | (at_builtin; refine wp_append1 w.heap.size rfl (.tmp 30) (.tmp 33) 25 86 (.agg #[.int .i64 0, .int .i64 0, .string ⟨#[]⟩]) 3 32 rfl Tryz.underlying25 info_V rfl (by omega) (by omega) (.slice A3 k c3) k _ [.int .i64 vk, .int .i64 vn, .string vs] rfl rfl (by simp) rfl (by simp [Value.oneCell']) h2 s2 (by omega) ?_; intro v1 w3 h3 t3 _))
            have R3 := HR2.out.turn t3 (own_ne_typed h2 HR2.out.at_ (by decide) _ · rfl) (fun hS => by have := own_ge h2 hS; have := HI.out.2.2; omega)
            have B3 := below_turn (HO.out.2.2.1.trans (HT2.out.below HO.out.2.2.1.size (fun k hk => by omega))) t3 s2 (fun k hk => own_ge h2 hk)
            have S3 := GetSt.step HO.out.2.2.2.1 HI.out.1 HI.out.2.1 hlt
            rw [HN.out] at R3
            go_roundw
            case rel =>
              refine ⟨k + 1, _, _, _, by omega, by go_num, S3, ?_, ?_, R3, B3⟩
              · have := HO.out.2.2.2.2
                simp [this]
              · rw [← HN.out, cellsR_snoc]
                exact h3
            case measure => simp [intOf]; omega
          | true =>
            have HO := Lib.hid (And.intro ho (And.intro hst (And.intro bel hrl)))
            obtain ⟨A3, c3, rfl⟩ := own_slice ho
            clear ho hst bel hrl
            go_wp2
            go_ret3
            exact get_res HD.out HO.out.2.1 h32 (.inl rfl) HO.out.2.2.1 HO.out.1 (fun h => by cases h) rfl
        · obtain rfl : k = cnt := by omega
          have HO := Lib.hid (And.intro ho (And.intro hst (And.intro bel hrl)))
          obtain ⟨A3, c3, rfl⟩ := own_slice ho
          clear ho hst bel hrl
          cases bad with
          | true =>
            go_wp2
            go_ret3
            exact get_res HD.out HO.out.2.1 h32 (.inl rfl) HO.out.2.2.1 HO.out.1 (fun h => by cases h) rfl
          | false =>
            go_wp2
            go_quiet (fail)
            go_wp2
            go_ret3
            have bel := HO.out.2.2.1
            exact get_res (w' := wr.drewN _) HD.out HO.out.2.1 h32 (.inr rfl) ⟨bel.os, bel.tape, bel.output, bel.size, bel.block⟩ HO.out.1 (fun h => HO.out.2.2.2) rfl
  · have h2 := HH.out.2.2 h32
    have H2 := Lib.hid (And.intro h2 B1)
    clear h2 B1
    go_loopw [7, 8] (fun o i wr => o = .slice none 0 0 ∧ i = .int .i64 ((0 : Nat) : Int) ∧ wr = w1) (fun _ i _ => 0)
    case atStart => exact ⟨rfl, rfl, rfl⟩
    case round =>
      obtain ⟨rfl, rfl, hw⟩ := hrel
      obtain rfl := hw.symm
      clear hw
      cases bad1
      all_goals go_wp2
      all_goals go_ret3
      all_goals refine ⟨?_, H2.out.2⟩
      all_goals rw [H2.out.1]
      all_goals exact rfl
end Go.Proofs.YtkbapoeilcapfaaGreat

/- the document's getValue. -/
namespace Go.Proofs.YtkbapoeilcapfaaGreat
open Go.RowKit
set_option linter.unusedVariables false
set_option linter.unusedSimpArgs false

theorem res_cell2 {P : Program} {fn : Func} {p u : Tmp} {ty : TypeId} (h : fn.results = #[.cell p ty, .tmp u]) (tmps : Array Value) (w : World) (g : Nat) (t : TypeId) (cs : Array Value) (fr : Nat × Nat) (d : TypeDesc)
    (hp : tmps.getD p undef = .pointer (some ⟨g, 0, none⟩)) (hg : w.heap[g]? = some (.cells cs t fr))
    (hu : P.underlying ty = some d) (hd : (match d with | .struct _ | .array _ _ => true | _ => false) = true) (hi : (P.info? ty).map (·.size) = some cs.size) {x : Value} (hx : tmps.getD u undef = x) :
    (results fn tmps).run P w = .ok (.tuple #[.agg cs, x]) w := by
  subst hx
  rw [results_cell_tmp h, hp]
  simp [asAddr, run_loadVar_row w g t ty cs fr d hg hu hd hi, Result.andThen]
/-- What getValue gives. -/
def GVPost (w : World) (bs : List Int) (e : Ending) (w' : World) : Prop :=
  ∃ (v : V) (m : Nat), e = .returned (.tuple #[v.val, .int .i64 m]) ∧ (∀ v' m', decV bs = some (v', m') → v = v' ∧ m = m') ∧ (decV bs = none → m = 0) ∧ Below w.heap.size w w'
theorem val_set {W : World} {r : Nat} {x0 x1 : Int} {s0 : ByteArray} (g : W.heap[r]? = some (vcs x0 x1 s0)) (k n : Int) (s : ByteArray) : (((W.setCell ⟨r, 0, none⟩ (.int .i64 k)).setCell ⟨r, 1, none⟩ (.int .i64 n)).setCell ⟨r, 2, none⟩ (.string s)).heap[r]? = some (.cells (V.mk k n s).val.cells 86 (0, 0)) := by
  have := blk_set (blk_set (blk_set g 0 (.int .i64 k)) 1 (.int .i64 n)) 2 (.string s)
  exact this
theorem val_below {w W : World} (b : Below w.heap.size w W) (k n : Int) (s : ByteArray) : Below w.heap.size w (((W.setCell ⟨w.heap.size, 0, none⟩ (.int .i64 k)).setCell ⟨w.heap.size, 1, none⟩ (.int .i64 n)).setCell ⟨w.heap.size, 2, none⟩ (.string s)) :=
  ((Turn.of_below b (fun _ => False)).setCell (.inr (Nat.le_refl _)) _ |>.setCell (.inr (Nat.le_refl _)) _ |>.setCell (.inr (Nat.le_refl _)) _).below (Nat.le_refl _) (fun _ h => h.elim)
theorem gv_fin {w w' : World} {bs : List Int} {v : V} {m : Nat} {a : Act} (hd : a.defers = []) (hp : a.tmps.getD 2 undef = .pointer (some ⟨w.heap.size, 0, none⟩)) (hx : a.tmps.getD 3 undef = .int .i64 m) (hg : w'.heap[w.heap.size]? = some (.cells v.val.cells 86 (0, 0)))
    (h1 : ∀ v' m', decV bs = some (v', m') → v = v' ∧ m = m') (h2 : decV bs = none → m = 0) (hw : Below w.heap.size w w') : bodyPost Tryz.prog Tryz.f135 (GVPost w bs) Exit.ret a w' :=
  ⟨hd, _, res_cell2 (p := 2) (u := 3) (ty := 86) rfl _ _ _ _ _ _ _ hp hg Tryz.underlying86 rfl (by kernel_rfl) hx, v, m, rfl, h1, h2, hw⟩
theorem gv_nil {w : World} {A : Option Addr} {c : Nat} : Calls Tryz.prog 135 #[.slice A 0 c] w (GVPost w []) := by
  go_enter Tryz.func135, Tryz.ntmps135
  go_wp2
  exact gv_fin (v := ⟨0, 0, ⟨#[]⟩⟩) (m := 0) rfl rfl rfl (heap_alloc_new w _) (fun v' m' h' => by cases h') (fun _ => rfl) ((Below.refl _ _).alloc (Nat.le_refl _) _)
theorem decV_raw {bs : List Int} {v : V} {m : Nat} (h : rawV bs = some (v, m)) : decV bs = if vOk v = true then some (v, m) else none := by
  unfold decV
  rw [h]
  cases hv : vOk v <;> simp [Option.filter, hv]
theorem decV_rnone {bs : List Int} (h : rawV bs = none) : decV bs = none := by
  unfold decV
  rw [h]
  rfl
theorem rd_head {w : World} {ad : Addr} {n : Nat} {k : Int} {t : List Int} (h : Rd1 w (some ad) n (u8s (k :: t))) : w.cell? ad = some (.int .u8 k) ∧ ad.block < w.heap.size ∧ t.length + 1 = n := by
  obtain ⟨ad', e, had, hc⟩ := h.at2 (k := 0) (by have := h.1; simp at this; omega)
  obtain rfl := Option.some.inj e
  exact ⟨by simpa [Addr.add] using hc, had, by simpa using h.1⟩
theorem rd_second {w : World} {ad : Addr} {n : Nat} {k y : Int} {t : List Int} (h : Rd1 w (some ad) n (u8s (k :: y :: t))) : w.cell? ⟨ad.block, ad.off + 1, none⟩ = some (.int .u8 y) := by
  obtain ⟨ad', e, had, hc⟩ := h.at2 (k := 1) (by have := h.1; simp at this; omega)
  obtain rfl := Option.some.inj e
  simpa [Addr.add] using hc
theorem gv_null {w : World} {ad : Addr} {n c : Nat} {t : List Int} (h : Rd1 w (some ad) n (u8s (0 :: t))) : Calls Tryz.prog 135 #[.slice (some ad) n c] w (GVPost w (0 :: t)) := by
  obtain ⟨c0, had, hn⟩ := rd_head h
  have HV := Lib.hid (show decV (0 :: t) = some (⟨0, 0, ⟨#[]⟩⟩, 1) from decV_enc ⟨0, 0, ⟨#[]⟩⟩ rfl t)
  clear h
  go_enter Tryz.func135, Tryz.ntmps135
  go_wp2
  exact gv_fin (v := ⟨0, 0, ⟨#[]⟩⟩) (m := 1) rfl rfl rfl (heap_alloc2_old w _ _) (fun v' m' h' => by rw [HV.out] at h'; cases h'; exact ⟨rfl, rfl⟩) (fun h' => by rw [HV.out] at h'; cases h') (((Below.refl _ _).alloc (Nat.le_refl _) _).alloc (by simp) _)
theorem gv_b1 {w : World} {ad : Addr} {n c : Nat}  (h : Rd1 w (some ad) n (u8s (1 :: [])))  : Calls Tryz.prog 135 #[.slice (some ad) n c] w (GVPost w (1 :: [])) := by
  obtain ⟨c0, had, hn⟩ := rd_head h
  have hn1 : n = 1 := by simpa using hn.symm
  subst hn1
  have HV := Lib.hid (show decV (1 :: []) = none from decV_rnone (by rfl))
  clear h
  go_enter Tryz.func135, Tryz.ntmps135
  go_wp2
  all_goals first
    | (exfalso; omega)
    | exact gv_fin (v := ⟨0, 0, ⟨#[]⟩⟩) (m := 0) rfl rfl rfl (heap_alloc2_old w _ _) (fun v' m' h' => by rw [HV.out] at h'; cases h') (fun _ => rfl) (((Below.refl _ _).alloc (Nat.le_refl _) _).alloc (by simp) _)
theorem gv_t1 {w : World} {ad : Addr} {n c : Nat}  (h : Rd1 w (some ad) n (u8s (3 :: [])))  : Calls Tryz.prog 135 #[.slice (some ad) n c] w (GVPost w (3 :: [])) := by
  obtain ⟨c0, had, hn⟩ := rd_head h
  have hn1 : n = 1 := by simpa using hn.symm
  subst hn1
  have HV := Lib.hid (show decV (3 :: []) = none from decV_rnone (by rfl))
  clear h
  go_enter Tryz.func135, Tryz.ntmps135
  go_wp2
  all_goals first
    | (exfalso; omega)
    | exact gv_fin (v := ⟨0, 0, ⟨#[]⟩⟩) (m := 0) rfl rfl rfl (heap_alloc2_old w _ _) (fun v' m' h' => by rw [HV.out] at h'; cases h') (fun _ => rfl) (((Below.refl _ _).alloc (Nat.le_refl _) _).alloc (by simp) _)
theorem gv_i7 {w : World} {ad : Addr} {n c : Nat} {t : List Int} (h : Rd1 w (some ad) n (u8s (2 :: t))) (hs : n < 8) : Calls Tryz.prog 135 #[.slice (some ad) n c] w (GVPost w (2 :: t)) := by
  obtain ⟨c0, had, hn⟩ := rd_head h
  have HV := Lib.hid (show decV (2 :: t) = none from decV_rnone (by show (if 7 ≤ t.length then _ else _) = _; rw [if_neg (by omega)]))
  clear h
  go_enter Tryz.func135, Tryz.ntmps135
  go_wp2
  all_goals first
    | (exfalso; omega)
    | exact gv_fin (v := ⟨0, 0, ⟨#[]⟩⟩) (m := 0) rfl rfl rfl (heap_alloc2_old w _ _) (fun v' m' h' => by rw [HV.out] at h'; cases h') (fun _ => rfl) (((Below.refl _ _).alloc (Nat.le_refl _) _).alloc (by simp) _)
theorem gv_ts {w : World} {ad : Addr} {n c : Nat} {y : Nat} {t : List Int} (h : Rd1 w (some ad) n (u8s (3 :: (y : Int) :: t))) (hs : n < 2 + y) (hy : y ≤ 255) : Calls Tryz.prog 135 #[.slice (some ad) n c] w (GVPost w (3 :: (y : Int) :: t)) := by
  obtain ⟨c0, had, hn⟩ := rd_head h
  have c1 := rd_second h
  have hn2 : 2 ≤ n := by simp at hn; omega
  have hn3 : ¬ (y : Int) ≤ n - 2 := by omega
  have hns := hn
  simp at hns
  have HV := Lib.hid (show decV (3 :: (y : Int) :: t) = none from decV_rnone (by show (if (y : Int).toNat ≤ t.length then _ else _) = _; rw [if_neg (by omega)]))
  clear h
  go_enter Tryz.func135, Tryz.ntmps135
  go_wp2
  all_goals first
    | (exfalso; omega)
    | exact gv_fin (v := ⟨0, 0, ⟨#[]⟩⟩) (m := 0) rfl rfl rfl (heap_alloc2_old w _ _) (fun v' m' h' => by rw [HV.out] at h'; cases h') (fun _ => rfl) (((Below.refl _ _).alloc (Nat.le_refl _) _).alloc (by simp) _)
theorem vcheckRef0 (k n : Int) (w : World) : Calls Tryz.prog 127 #[.agg #[.int .i64 k, .int .i64 n, .string ⟨#[]⟩]] w fun e w' => e = .returned (.bool (vOk ⟨k, n, ⟨#[]⟩⟩)) ∧ Below w.heap.size w w' := vcheckRef ⟨k, n, ⟨#[]⟩⟩ w (by
  have : (⟨#[]⟩ : ByteArray).size = 0 := rfl
  show (⟨#[]⟩ : ByteArray).size ≤ _
  omega)
theorem gv_bool {w : World} {ad : Addr} {n c y : Nat} {t : List Int} (h : Rd1 w (some ad) n (u8s (1 :: (y : Int) :: t))) (hy : y ≤ 255) : Calls Tryz.prog 135 #[.slice (some ad) n c] w (GVPost w (1 :: (y : Int) :: t)) := by
  obtain ⟨c0, had, hn⟩ := rd_head h
  have c1 := rd_second h
  have hn2 : 2 ≤ n := by simp at hn; omega
  obtain ⟨B, hB⟩ : ∃ B, B = vOk ⟨1, y, ⟨#[]⟩⟩ := ⟨_, rfl⟩
  have HV := Lib.hid (decV_raw (bs := 1 :: (y : Int) :: t) (v := ⟨1, y, ⟨#[]⟩⟩) (m := 2) rfl)
  have HC := fun W => vcheckRef0 1 y W
  rw [← hB] at HV HC
  have HC := Lib.hid HC
  clear h hB
  go_enter Tryz.func135, Tryz.ntmps135
  go_wp2_with (go_at_call 127; refine (HC.out _).mono ?_; rintro e w4 ⟨rfl, b4⟩; have g1 := Lib.hid (blk_below (heap_alloc2_old w _ _) b4 (by simp; omega)); have g2 := Lib.hid (blk_below (heap_alloc2_new w _ _) b4 (by simp)); have t4 := Lib.hid ((((Below.refl _ w).alloc (Nat.le_refl _) _).alloc (by simp) _).trans (b4.mono (by simp; omega))); obtain ⟨p0, p1, p2, p3, p4, p5⟩ := vcells g2.out; obtain ⟨r0, r1, r2, r3, r4, r5⟩ := vcells g1.out; have z1 := lt_of_heap g1.out; have z2 := lt_of_heap g2.out; cases B)
  · exact gv_fin (v := ⟨0, 0, ⟨#[]⟩⟩) (m := 0) rfl rfl rfl (val_set g1.out 0 0 ⟨#[]⟩) (fun v' m' h' => by rw [HV.out] at h'; cases h') (fun _ => rfl) (val_below t4.out _ _ _)
  · exact gv_fin (v := ⟨1, y, ⟨#[]⟩⟩) (m := 2) rfl rfl rfl (val_set g1.out 1 y ⟨#[]⟩) (fun v' m' h' => by rw [HV.out] at h'; cases h'; exact ⟨rfl, rfl⟩) (fun h' => by rw [HV.out] at h'; cases h') (val_below t4.out _ _ _)
theorem conv_slice {w : World} {A : Option Addr} {n c : Nat} {bs : List Int} (h : Rd1 w A n (u8s bs)) {w' : World} (b : Below w.heap.size w w') : (convert 136 9 (.slice A n c)).run Tryz.prog w' = .ok (.string (strOf bs)) w' := conv_rd (h.below b)
set_option maxRecDepth 3000 in
theorem gv_text {w : World} {ad : Addr} {n c y : Nat} {t : List Int} (h : Rd1 w (some ad) n (u8s (3 :: (y : Int) :: t))) (hs : 2 + y ≤ n) (hy : y ≤ 255) (hnc : n ≤ c) : Calls Tryz.prog 135 #[.slice (some ad) n c] w (GVPost w (3 :: (y : Int) :: t)) := by
  obtain ⟨c0, had, hn⟩ := rd_head h
  have c1 := rd_second h
  have hn2 : 2 ≤ n := by omega
  have hn3 : (y : Int) ≤ n - 2 := by omega
  have hc2 : 2 ≤ c := by omega
  have hcy : 2 + y ≤ c := by omega
  have hn5 : n ≤ 9223372036854775807 := h.2.1
  obtain ⟨s, hss⟩ : ∃ s, s = strOf (t.take y) := ⟨_, rfl⟩
  have hsz : s.size ≤ 9223372036854775807 := by rw [hss, strOf_size, List.length_take]; omega
  obtain ⟨B, hB⟩ : ∃ B, B = vOk ⟨3, 0, s⟩ := ⟨_, rfl⟩
  have HV := Lib.hid (decV_raw (bs := 3 :: (y : Int) :: t) (v := ⟨3, 0, s⟩) (m := 2 + y) (by show (if (y : Int).toNat ≤ t.length then _ else _) = _; simp at hn; rw [if_pos (by omega), Int.toNat_natCast, ← hss]))
  have HC := fun W => vcheckRef ⟨3, 0, s⟩ W hsz
  unfold CPost at HC
  rw [← hB] at HV HC
  have HC := Lib.hid HC
  have b2 : Below w.heap.size w ((w.alloc (vcs 0 0 ⟨#[]⟩)).alloc (vcs 3 0 ⟨#[]⟩)) := ((Below.refl _ w).alloc (Nat.le_refl _) _).alloc (by simp) _
  have hr2 : Rd1 w (some ⟨ad.block, ad.off + 2, none⟩) y (u8s (t.take y)) := by
    have := (h.drop (h := 2) hn2).take (h := y) (by omega)
    simpa [Addr.add, List.map_take] using this
  have hconv := conv_slice (c := c - 2) hr2 b2
  rw [← hss] at hconv
  have hconv0 : c = 2 → (convert 136 9 (.slice (some ad) 0 0)).run Tryz.prog ((w.alloc (vcs 0 0 ⟨#[]⟩)).alloc (vcs 3 0 ⟨#[]⟩)) = .ok (.string s) ((w.alloc (vcs 0 0 ⟨#[]⟩)).alloc (vcs 3 0 ⟨#[]⟩)) := by
    intro hc
    obtain rfl : y = 0 := by omega
    have hr0 : Rd1 w (some ad) 0 (u8s (t.take 0)) := ⟨rfl, by omega, fun h => absurd h (by omega)⟩
    have := conv_slice (c := 0) hr0 b2
    rwa [← hss] at this
  clear h hB hss hn hr2 b2
  go_enter Tryz.func135, Tryz.ntmps135
  by_cases hc : c = 2
  · have hq := hconv0 hc
    clear hconv0 hconv
    subst hc
    go_wp2_with (go_at_call 127; refine (HC.out _).mono ?_; rintro e w4 ⟨rfl, b4⟩; have g1 := Lib.hid (blk_below (heap_alloc2_old w _ _) b4 (by simp; omega)); have g2 := Lib.hid (blk_below (heap_alloc2_new w _ _) b4 (by simp)); have t4 := Lib.hid ((((Below.refl _ w).alloc (Nat.le_refl _) _).alloc (by simp) _).trans (b4.mono (by simp; omega))); obtain ⟨p0, p1, p2, p3, p4, p5⟩ := vcells g2.out; obtain ⟨r0, r1, r2, r3, r4, r5⟩ := vcells g1.out; have z1 := lt_of_heap g1.out; have z2 := lt_of_heap g2.out; cases B)
    · exact gv_fin (v := ⟨0, 0, ⟨#[]⟩⟩) (m := 0) rfl rfl rfl (val_set g1.out 0 0 ⟨#[]⟩) (fun v' m' h' => by rw [HV.out] at h'; cases h') (fun _ => rfl) (val_below t4.out _ _ _)
    · exact gv_fin (v := ⟨3, 0, s⟩) (m := 2 + y) rfl rfl rfl (val_set g1.out 3 0 s) (fun v' m' h' => by rw [HV.out] at h'; cases h'; exact ⟨rfl, rfl⟩) (fun h' => by rw [HV.out] at h'; cases h') (val_below t4.out _ _ _)
  · clear hconv0
    go_wp2_with (go_at_call 127; refine (HC.out _).mono ?_; rintro e w4 ⟨rfl, b4⟩; have g1 := Lib.hid (blk_below (heap_alloc2_old w _ _) b4 (by simp; omega)); have g2 := Lib.hid (blk_below (heap_alloc2_new w _ _) b4 (by simp)); have t4 := Lib.hid ((((Below.refl _ w).alloc (Nat.le_refl _) _).alloc (by simp) _).trans (b4.mono (by simp; omega))); obtain ⟨p0, p1, p2, p3, p4, p5⟩ := vcells g2.out; obtain ⟨r0, r1, r2, r3, r4, r5⟩ := vcells g1.out; have z1 := lt_of_heap g1.out; have z2 := lt_of_heap g2.out; cases B)
    · exact gv_fin (v := ⟨0, 0, ⟨#[]⟩⟩) (m := 0) rfl rfl rfl (val_set g1.out 0 0 ⟨#[]⟩) (fun v' m' h' => by rw [HV.out] at h'; cases h') (fun _ => rfl) (val_below t4.out _ _ _)
    · exact gv_fin (v := ⟨3, 0, s⟩) (m := 2 + y) rfl rfl rfl (val_set g1.out 3 0 s) (fun v' m' h' => by rw [HV.out] at h'; cases h'; exact ⟨rfl, rfl⟩) (fun h' => by rw [HV.out] at h'; cases h') (val_below t4.out _ _ _)
end Go.Proofs.YtkbapoeilcapfaaGreat
namespace Go.Proofs.YtkbapoeilcapfaaGreat
open Go.RowKit
set_option linter.unusedVariables false
set_option linter.unusedSimpArgs false

theorem gv_other {w : World} {ad : Addr} {n c k : Nat} {t : List Int} (h : Rd1 w (some ad) n (u8s ((k : Int) :: t))) (hk : 4 ≤ k) (hk5 : k ≤ 255) : Calls Tryz.prog 135 #[.slice (some ad) n c] w (GVPost w ((k : Int) :: t)) := by
  obtain ⟨c0, had, hn⟩ := rd_head h
  have HV := Lib.hid (show decV ((k : Int) :: t) = none by
    rw [decV_raw (v := ⟨k, 0, ⟨#[]⟩⟩) (m := 1) (by show (if (k : Int) = 1 then _ else if (k : Int) = 2 then _ else if (k : Int) = 3 then _ else _) = _; rw [if_neg (by omega), if_neg (by omega), if_neg (by omega)])]
    rw [if_neg]
    unfold vOk
    intro h
    have h := of_decide_eq_true h
    simp only at h
    omega)
  clear h
  go_enter Tryz.func135, Tryz.ntmps135
  go_wp2
  all_goals first
    | (exfalso; omega)
    | exact gv_fin (v := ⟨0, 0, ⟨#[]⟩⟩) (m := 0) rfl rfl rfl (heap_alloc2_old w _ _) (fun v' m' h' => by rw [HV.out] at h'; cases h') (fun _ => rfl) (((Below.refl _ _).alloc (Nat.le_refl _) _).alloc (by simp) _)
set_option maxRecDepth 3000 in
theorem gv_int {w : World} {ad : Addr} {n c : Nat} {t : List Int} (h : Rd1 w (some ad) n (u8s (2 :: t))) (hb : isB t) (hs : 8 ≤ n) : Calls Tryz.prog 135 #[.slice (some ad) n c] w (GVPost w (2 :: t)) := by
  obtain ⟨c0, had, hn⟩ := rd_head h
  have hn5 : n ≤ 9223372036854775807 := h.2.1
  obtain ⟨v, hv⟩ : ∃ v, v = bigE (t.take 7) - 9007199254740992 := ⟨_, rfl⟩
  obtain ⟨B, hB⟩ : ∃ B, B = vOk ⟨2, v, ⟨#[]⟩⟩ := ⟨_, rfl⟩
  have HV := Lib.hid (decV_raw (bs := 2 :: t) (v := ⟨2, v, ⟨#[]⟩⟩) (m := 8) (by show (if 7 ≤ t.length then _ else _) = _; rw [if_pos (by omega), ← hv]))
  have HC := fun W => vcheckRef0 2 v W
  rw [← hB] at HV HC
  have HC := Lib.hid HC
  have HH := Lib.hid (And.intro h (And.intro hb hv))
  have b2 := Lib.hid (((Below.refl w.heap.size w).alloc (Nat.le_refl _) (vcs 0 0 ⟨#[]⟩)).alloc (by simp) (vcs 2 0 ⟨#[]⟩))
  have hnt : 7 ≤ t.length := by omega
  clear h hB hb hv hn
  go_enter Tryz.func135, Tryz.ntmps135
  go_wp2
  go_loopw [6] (fun i wr => ∃ j k : Nat, j = k + 1 ∧ k ≤ 7 ∧ i = .int .i64 j ∧ wr.heap[w.heap.size + 1]? = some (vcs 2 (bigE (t.take k)) ⟨#[]⟩) ∧ wr.heap[w.heap.size]? = some (vcs 0 0 ⟨#[]⟩) ∧ Below w.heap.size w wr) (fun i _ => 8 - (intOf i).toNat)
  case atStart => exact ⟨1, 0, rfl, by omega, rfl, heap_alloc2_new w _ _, heap_alloc2_old w _ _, b2.out⟩
  case round =>
    obtain ⟨j, k, hj, hk, rfl, gq, gr, bel⟩ := hrel
    obtain ⟨p0, p1, p2, p3, p4, p5⟩ := vcells gq
    obtain ⟨r0, r1, r2, r3, r4, r5⟩ := vcells gr
    have z1 := lt_of_heap gq
    have z2 := lt_of_heap gr
    have G := Lib.hid (And.intro gq (And.intro gr bel))
    by_cases hlt : k < 7
    · obtain ⟨ad', e, _, hc⟩ := (HH.out.1.below bel).at2 (k := j) (by omega)
      obtain rfl := Option.some.inj e
      have hl : k < t.length := by omega
      have hc2 : wr.cell? (ad.add j) = some (.int .u8 (t.getD k 0)) := by
        rw [hc, hj, getD_map 0 (show k + 1 < (2 :: t).length by simp; omega)]
        rfl
      have B := bigE_rng k t HH.out.2.1
      have D := getD_isB HH.out.2.1 k
      have E := Lib.hid (bigE_snoc hl)
      obtain ⟨z, hz⟩ : ∃ z, z = bigE (t.take k) := ⟨_, rfl⟩
      obtain ⟨y, hy⟩ : ∃ y, y = t.getD k 0 := ⟨_, rfl⟩
      rw [← hz] at B E p1
      rw [← hy] at D hc2 E
      have hz6 : z < 281474976710656 := by have B := B.2; rcases (show k = 0 ∨ k = 1 ∨ k = 2 ∨ k = 3 ∨ k = 4 ∨ k = 5 ∨ k = 6 by omega) with rfl | rfl | rfl | rfl | rfl | rfl | rfl <;> omega
      have hz0 := B.1
      have hj8 : j < 8 := by omega
      have HJ := Lib.hid hj
      have HZ := Lib.hid hz
      have hj0 : (j : Int) < n := by omega
      have HK := Lib.hid (show k + 1 ≤ 7 by omega)
      clear hz hy B hc e gq gr bel hl hj hlt
      go_wp2
      go_region
      all_goals go_wp2
      go_roundw
      case rel =>
        refine ⟨j + 1, k + 1, by have := HJ.out; omega, HK.out, by go_num, ?_, ?_, ?_⟩
        · have h1 := blk_set G.out.1 1 (.int .i64 (256 * z + y))
          rw [E.out, show z * 256 + y = 256 * z + y by omega]
          exact h1
        · exact blk_far G.out.2.1 (p := ⟨w.heap.size + 1, 1, none⟩) (by simp) _
        · exact below_drew (G.out.2.2.setCell (by simp) _)
      case measure => simp [intOf]; omega
    · obtain rfl : k = 7 := by omega
      have B7 := bigE_rng 7 t HH.out.2.1
      have hz : bigE (t.take 7) = v + 9007199254740992 := by have := HH.out.2.2; omega
      rw [hz] at B7 p1
      have v0 := B7.1
      have v1 : v + 9007199254740992 < 72057594037927936 := B7.2
      have hj8 : ¬ j < 8 := by omega
      have HJ := Lib.hid hj
      clear B7 hz gq gr bel hlt hk hj
      go_wp2_with (go_at_call 127; refine (HC.out _).mono ?_; rintro e w4 ⟨rfl, b4⟩; have g1 := Lib.hid (blk_below (blk_far G.out.2.1 (p := ⟨w.heap.size + 1, 1, none⟩) (by simp) _) b4 (lt_of_heap (blk_far G.out.2.1 (p := ⟨w.heap.size + 1, 1, none⟩) (by simp) _))); have g2 := Lib.hid (blk_below (blk_set G.out.1 1 _) b4 (lt_of_heap (blk_set G.out.1 1 _))); have t4 := Lib.hid ((G.out.2.2.setCell (p := ⟨w.heap.size + 1, 1, none⟩) (by simp) (.int .i64 v)).trans (b4.mono (G.out.2.2.setCell (p := ⟨w.heap.size + 1, 1, none⟩) (by simp) (.int .i64 v)).size)); obtain ⟨p0, p1, p2, p3, p4, p5⟩ := vcells g2.out; obtain ⟨r0, r1, r2, r3, r4, r5⟩ := vcells g1.out; have z1 := lt_of_heap g1.out; have z2 := lt_of_heap g2.out; cases B)
      · exact gv_fin (v := ⟨0, 0, ⟨#[]⟩⟩) (m := 0) rfl rfl rfl (val_set g1.out 0 0 ⟨#[]⟩) (fun v' m' h' => by rw [HV.out] at h'; cases h') (fun _ => rfl) (val_below t4.out _ _ _)
      · exact gv_fin (v := ⟨2, v, ⟨#[]⟩⟩) (m := 8) rfl rfl rfl (val_set g1.out 2 v ⟨#[]⟩) (fun v' m' h' => by rw [HV.out] at h'; cases h'; exact ⟨rfl, rfl⟩) (fun h' => by rw [HV.out] at h'; cases h') (val_below t4.out _ _ _)
theorem gv_walk {w : World} {ad : Addr} {n c : Nat} {bs : List Int} (h : Rd1 w (some ad) n (u8s bs)) (hb : isB bs) (hnc : n ≤ c) : Calls Tryz.prog 135 #[.slice (some ad) n c] w (GVPost w bs) := by
  match bs, h, hb with
  | [], h, _ =>
    obtain rfl : n = 0 := by simpa using h.1.symm
    exact gv_nil
  | k :: t, h, hb =>
    have hk := hb k (by simp)
    obtain ⟨k, rfl⟩ : ∃ j : Nat, k = j := ⟨k.toNat, by omega⟩
    have hn := (rd_head h).2.2
    have ht : isB t := fun y hy => hb y (by simp [hy])
    rcases Nat.lt_or_ge k 4 with h4 | h4
    · rcases (show k = 0 ∨ k = 1 ∨ k = 2 ∨ k = 3 by omega) with rfl | rfl | rfl | rfl
      · exact gv_null h
      · match t, h, ht with
        | [], h, _ => exact gv_b1 h
        | y :: t, h, ht =>
          have hy := ht y (by simp)
          obtain ⟨y, rfl⟩ : ∃ j : Nat, y = j := ⟨y.toNat, by omega⟩
          exact gv_bool h (by omega)
      · by_cases h8 : n < 8
        · exact gv_i7 h h8
        · exact gv_int h ht (by omega)
      · match t, h, ht with
        | [], h, _ => exact gv_t1 h
        | y :: t, h, ht =>
          have hy := ht y (by simp)
          obtain ⟨y, rfl⟩ : ∃ j : Nat, y = j := ⟨y.toNat, by omega⟩
          by_cases hs : n < 2 + y
          · exact gv_ts h hs (by omega)
          · exact gv_text h (by omega) (by omega) hnc
    · exact gv_other h h4 (by omega)
end Go.Proofs.YtkbapoeilcapfaaGreat
namespace Go.Proofs.YtkbapoeilcapfaaGreat
open Go.RowKit
set_option linter.unusedVariables false
set_option linter.unusedSimpArgs false

theorem decA_succ (bs : List Int) (k a : Nat) (acc : List V) : decA bs (k + 1) a acc = match decV (bs.drop a) with
    | none => none
    | some (v, m) => decA bs k (a + m) (acc ++ [v]) := rfl
theorem gv_walk2 {w : World} {ad : Addr} {n c : Nat} {bs : List Int} (h : Rd1 w (some ad) n (u8s bs)) (hb : isB bs) (hnc : n ≤ c) :
    Calls Tryz.prog 135 #[.slice (some ad) n c] w fun e w' => ∃ (k x : Int) (s : ByteArray) (m : Nat), e = .returned (.tuple #[.agg #[.int .i64 k, .int .i64 x, .string s], .int .i64 m]) ∧ (∀ v' m', decV bs = some (v', m') → V.mk k x s = v' ∧ m = m') ∧ (decV bs = none → m = 0) ∧ Below w.heap.size w w' := by
  refine (gv_walk h hb hnc).mono ?_
  rintro e w' ⟨⟨k, x, s⟩, m, rfl, h1, h2, h3⟩
  exact ⟨k, x, s, m, rfl, h1, h2, h3⟩
def RGetP (w : World) (o : Option (List V × Nat)) (e : Ending) (w' : World) : Prop :=
  (match o with
  | some (r, m) => ∃ v', e = .returned (.tuple #[v', .int .i64 m, .bool true]) ∧ w'.ownsRow w.heap.size 86 3 v' r.length (cellsR r)
  | none => e = .returned (.tuple #[.slice none 0 0, .int .i64 0, .bool false])) ∧ Below w.heap.size w w'
def RGetPost (w : World) (bs : List Int) : Ending → World → Prop := RGetP w (decR bs)
theorem rget_nil {w : World} {A : Option Addr} {c : Nat} : Calls Tryz.prog 119 #[.slice A 0 c] w (RGetPost w []) := by
  go_enter Tryz.func119, Tryz.ntmps119
  go_wp2
  go_ret3
  exact ⟨rfl, Below.refl _ _⟩
theorem rget_big {w : World} {ad : Addr} {n c k : Nat} {t : List Int} (h : Rd1 w (some ad) n (u8s ((k : Int) :: t))) (hk : 32 < k) (hk5 : k ≤ 255) : Calls Tryz.prog 119 #[.slice (some ad) n c] w (RGetPost w ((k : Int) :: t)) := by
  obtain ⟨c0, had, hn⟩ := rd_head h
  have HV := Lib.hid (show decR ((k : Int) :: t) = none by
    show (if (k : Int) ≤ 32 then _ else _) = _
    rw [if_neg (by omega)])
  clear h
  go_enter Tryz.func119, Tryz.ntmps119
  go_wp2
  go_ret3
  unfold RGetPost
  rw [HV.out]
  exact ⟨rfl, Below.refl _ _⟩
theorem rget_ok {w : World} {ad : Addr} {n c k : Nat} {t : List Int} (h : Rd1 w (some ad) n (u8s ((k : Int) :: t))) (hb : isB ((k : Int) :: t)) (hk : k ≤ 32) (hnc : n ≤ c) (hn5 : n ≤ 100000) (hc5 : c ≤ 9223372036854775807) : Calls Tryz.prog 119 #[.slice (some ad) n c] w (RGetPost w ((k : Int) :: t)) := by
  obtain ⟨c0, had, hn⟩ := rd_head h
  obtain ⟨bs, hbs⟩ : ∃ bs, bs = (k : Int) :: t := ⟨_, rfl⟩
  have hd : decR ((k : Int) :: t) = decA bs k 1 [] := by
    rw [hbs]
    show (if (k : Int) ≤ 32 then _ else _) = _
    rw [if_pos (by omega), Int.toNat_natCast]
  unfold RGetPost
  rw [hd]
  rw [← hbs] at h hb
  have hbl : bs.length = n := by simpa using h.1
  have HH := Lib.hid (And.intro h (And.intro hb hbl))
  have hn1 : 1 ≤ n := by omega
  clear h hb hd hbs hn hbl
  go_enter Tryz.func119, Tryz.ntmps119
  have hg : ((n : Int) == 0 || decide ((32 : Int) < (k : Int))) = false := by simp; omega
  go_wp2
  clear hg
  go_loopw [5, 6, 7] (fun p o i wr => ∃ (j a : Nat) (r : List V), j ≤ k ∧ a ≤ n ∧ p = .int .i64 a ∧ i = .int .i64 j ∧ r.length = j ∧ decA bs k 1 [] = decA bs (k - j) a r ∧ wr.ownsRow w.heap.size 86 3 o j (cellsR r) ∧ Below w.heap.size w wr) (fun _ _ i _ => k - (intOf i).toNat)
  case atStart => exact ⟨0, 1, [], by omega, hn1, rfl, rfl, rfl, rfl, World.ownsRow_nil _ _ _ _, Below.refl _ _⟩
  case round =>
    obtain ⟨j, a, r, hj, ha, rfl, rfl, hrl, hdec, ho, bel⟩ := hrel
    have c0 := (bel.cell had).trans c0
    obtain ⟨A3, c3, rfl⟩ := own_slice ho
    have szr := bel.size
    by_cases hlt : j < k
    · have hst : decA bs (k - j) a r = decA bs (k - (j + 1) + 1) a r := by rw [show k - j = k - (j + 1) + 1 by omega]
      rw [hst, decA_succ] at hdec
      by_cases hca : c = a
      · obtain rfl := hca
        obtain rfl : c = n := by omega
        have hdn : bs.drop c = [] := List.drop_eq_nil_iff.2 (by rw [HH.out.2.2]; omega)
        rw [hdn] at hdec
        have HD := Lib.hid (show decA bs k 1 [] = none from hdec)
        have G := Lib.hid (And.intro ho bel)
        have HG := Lib.hid (gv_nil (w := wr) (A := some ad) (c := 0))
        clear ho bel hst hdec
        go_wp2_with (go_at_call 135; refine HG.out.mono ?_; rintro e w2 ⟨⟨vk, vn, vs⟩, m, he, h1, h2, b2⟩; dsimp only [V.val] at he; subst he; obtain rfl := h2 rfl; clear h1 h2)
        go_ret3
        rw [HD.out]
        exact ⟨rfl, (G.out.2.trans (b2.mono szr)).alloc (Nat.le_trans szr b2.size) _⟩
      · have R2 : Rd1 wr (some (ad.add a)) (n - a) (u8s (bs.drop a)) := by
          have := (HH.out.1.below bel).drop (h := a) ha
          rwa [← List.map_drop] at this
        have HG := Lib.hid (gv_walk2 (c := c - a) R2 (HH.out.2.1.drop a) (by omega))
        have G := Lib.hid (And.intro ho bel)
        clear R2 ho bel hst
        cases hd : decV (bs.drop a) with
        | none =>
          rw [hd] at hdec
          have HD := Lib.hid (And.intro (show decA bs k 1 [] = none from hdec) hd)
          clear hdec hd
          go_wp2_with (go_at_call 135; refine HG.out.mono ?_; rintro e w2 ⟨vk, vn, vs, m, rfl, h1, h2, b2⟩; obtain rfl := h2 HD.out.2; clear h1 h2)
          go_ret3
          rw [HD.out.1]
          exact ⟨rfl, (G.out.2.trans (b2.mono szr)).alloc (Nat.le_trans szr b2.size) _⟩
        | some x =>
          obtain ⟨v, m⟩ := x
          rw [hd] at hdec
          have S := decV_sound (HH.out.2.1.drop a) hd
          have hm : 1 ≤ m := by rw [S.2.2.1]; exact encV_pos v
          have hm2 : a + m ≤ n := by have := S.2.2.2; rw [List.length_drop, HH.out.2.2] at this; omega
          have HD := Lib.hid (And.intro (show decA bs k 1 [] = decA bs (k - (j + 1)) (a + m) (r ++ [v]) from hdec) (And.intro hd hrl))
          clear hdec hd S hrl
          go_wp2_with (first
            | (go_at_call 135; refine HG.out.mono ?_; rintro e w2 ⟨vk, vn, vs, m', rfl, h1, _, b2⟩; obtain ⟨hv, rfl⟩ := h1 _ _ HD.out.2.1; have HV := Lib.hid hv; have h2 := own_below G.out.1 b2; have s2 := Nat.le_trans szr b2.size; have B2 := Lib.hid (G.out.2.trans (b2.mono szr)); clear h1 hv b2)
            | (at_builtin; refine wp_append1 (W := w2.alloc (vcs vk vn vs)) w.heap.size rfl (.tmp 36) (.tmp 38) 25 86 (.agg #[.int .i64 0, .int .i64 0, .string ⟨#[]⟩]) 3 32 rfl Tryz.underlying25 info_V rfl (by omega) (by omega) (.slice A3 j c3) j _ [.int .i64 vk, .int .i64 vn, .string vs] rfl rfl (by simp) rfl (by simp [Value.oneCell']) (h2.alloc _) (by simp; omega) (by omega) ?_; intro v1 w3 h3 t3 _))
          have B3 := below_turn (B2.out.alloc s2 (vcs vk vn vs)) t3 (by simp; omega) (fun i hi => own_ge h2 hi)
          go_roundw
          case rel =>
            refine ⟨j + 1, a + m', _, by omega, hm2, by go_num, by go_num, ?_, HD.out.1, ?_, B3⟩
            · have := HD.out.2.2
              simp [this]
            · rw [← HV.out, cellsR_snoc]
              exact h3
          case measure => simp [intOf]; omega
    · obtain rfl : j = k := by omega
      rw [Nat.sub_self] at hdec
      have G := Lib.hid (And.intro ho (And.intro bel (And.intro hdec hrl)))
      clear ho bel hdec hrl
      go_wp2
      go_ret3
      rw [G.out.2.2.1]
      obtain rfl := G.out.2.2.2
      exact ⟨⟨_, rfl, G.out.1⟩, G.out.2.1⟩
theorem rget_walk {w : World} {ad : Addr} {n c : Nat} {bs : List Int} (h : Rd1 w (some ad) n (u8s bs)) (hb : isB bs) (hnc : n ≤ c) (hn5 : n ≤ 100000) (hc5 : c ≤ 9223372036854775807) : Calls Tryz.prog 119 #[.slice (some ad) n c] w (RGetPost w bs) := by
  match bs, h, hb with
  | [], h, _ =>
    obtain rfl : n = 0 := by simpa using h.1.symm
    exact rget_nil
  | k :: t, h, hb =>
    have hk := hb k (by simp)
    obtain ⟨k, rfl⟩ : ∃ j : Nat, k = j := ⟨k.toNat, by omega⟩
    by_cases h32 : k ≤ 32
    · exact rget_ok h hb h32 hnc hn5 hc5
    · exact rget_big h (by omega) (by omega)
end Go.Proofs.YtkbapoeilcapfaaGreat

/- What a row's reading gives. -/
namespace Go.Proofs.YtkbapoeilcapfaaGreat
open Go.RowKit Go.ChangeShapes Go.WideShapes Go.Deep

section
variable {H : Type} {enc : TypeId × Value → H} {W : World} {base : Nat} {spare : Nat → Bool} {held : Bool}
theorem rd_ints {k : IntKind} {t e : TypeId} (ht : Tryz.prog.underlying t = some (.slice e)) (he : Tryz.prog.underlying e = some (.int k)) (hc : Tryz.prog.cellsOf e = 1) {fuel : Nat} {cs : List Value} {x : DataW H × List MemPlace}
    (h : DataW.trod enc Tryz.prog W base spare held fuel t cs = some x) : ∃ A len cap, ∃ xs : List Int, cs = [.slice A len cap] ∧ Rd1 W A len (xs.map (Value.int k)) ∧ ∀ y ∈ xs, (Lit.int k y).wf = true := by
  rcases open_ints ht he hc h with ⟨hcs, _⟩ | ⟨x, l, c, zs, hcs, _, hl, hm, hz, _, hcell, hwz⟩
  · exact ⟨none, 0, 0, [], hcs, ⟨rfl, by omega, fun h => absurd h (by omega)⟩, by simp⟩
  · have hle : l ≤ zs.length := by rw [hz]; split <;> omega
    refine ⟨_, _, _, zs.take l, hcs, ⟨by simp; omega, by simp only [maxLen] at hm; omega, fun hn => ⟨_, rfl, ?_, fun j u hu => ?_⟩⟩, fun y hy => hwz y (List.mem_of_mem_take hy)⟩
    · have := World.block_lt_of_cell? W _ (hcell 0 (by omega))
      rwa [add_block] at this
    · rw [List.getElem?_map, List.getElem?_take] at hu
      split at hu
      · rename_i hj
        rw [hcell j (by omega), List.getD_eq_getElem?_getD]
        rw [List.getElem?_eq_getElem (by omega)] at hu ⊢
        simpa using hu
      · simp at hu
theorem slice_cells {A B : Option Addr} {len cap l c : Nat} (h : (Value.slice A len cap).cells.toList = [.slice B l c]) : A = B ∧ len = l ∧ cap = c := by
  simpa [Value.cells] using h
theorem open_SInt {A : Option Addr} {len cap : Nat} {d : DataW H} {ps : List MemPlace} (h : DataW.Trod enc Tryz.prog W base spare held 22 (.slice A len cap) d ps) : ∃ xs : List Int, Rd1 W A len (xs.map (Value.int .i64)) := by
  obtain ⟨fuel, hf⟩ := h
  obtain ⟨B, l, c, xs, e, hr, _⟩ := rd_ints Tryz.underlying22 Tryz.underlying3 (by kernel_rfl) hf
  obtain ⟨rfl, rfl, rfl⟩ := slice_cells e
  exact ⟨xs, hr⟩
theorem open_SByte {A : Option Addr} {len cap : Nat} {d : DataW H} {ps : List MemPlace} (h : DataW.Trod enc Tryz.prog W base spare held 136 (.slice A len cap) d ps) : ∃ xs : List Int, Rd1 W A len (xs.map (Value.int .u8)) ∧ ∀ y ∈ xs, (Lit.int .u8 y).wf = true := by
  obtain ⟨fuel, hf⟩ := h
  obtain ⟨B, l, c, xs, e, hr, hw⟩ := rd_ints Tryz.underlying136 Tryz.underlying5 (by kernel_rfl) hf
  obtain ⟨rfl, rfl, rfl⟩ := slice_cells e
  exact ⟨xs, hr, hw⟩
theorem len3 {α : Type} : ∀ {cs : List α}, cs.length = 3 → ∃ a b c, cs = [a, b, c]
  | [a, b, c], _ => ⟨a, b, c, rfl⟩
theorem triple_cells {t : TypeId} (f0 f1 f2 : Field) (hu : Tryz.prog.underlying t = some (.struct #[f0, f1, f2])) (hone : oneCellFields Tryz.prog #[f0, f1, f2] = true) (h0 : Tryz.prog.underlying f0.type = some (.int .i64)) (h1 : Tryz.prog.underlying f1.type = some (.int .i64)) (h2 : Tryz.prog.underlying f2.type = some .string) (hC : Tryz.prog.cellsOf t = 3) {n : Nat} {cs : List Value} {y : DataW H × List MemPlace}
    (h : DataW.trod enc Tryz.prog W base spare held n t cs = some y) : ∃ v : V, cs = [.int .i64 v.k, .int .i64 v.n, .string v.s] ∧ v.s.size ≤ maxLen := by
  obtain ⟨ys, m, _, _, hlen, hyl, hf⟩ := DataW.trod_struct hu h
  obtain ⟨o0, k0⟩ := hone_of hone 0 f0 rfl
  obtain ⟨o1, k1⟩ := hone_of hone 1 f1 rfl
  obtain ⟨o2, k2⟩ := hone_of hone 2 f2 rfl
  obtain ⟨c0, c1, c2, rfl⟩ := len3 (hlen.trans hC)
  obtain ⟨y0, y1, y2, rfl⟩ := len3 hyl
  have e0 := hf 0 f0 rfl
  have e1 := hf 1 f1 rfl
  have e2 := hf 2 f2 rfl
  rw [o0, k0] at e0
  rw [o1, k1] at e1
  rw [o2, k2] at e2
  obtain ⟨a, ea, _, _⟩ := DataW.trod_int h0 (by simpa using e0)
  obtain ⟨b, eb, _, _⟩ := DataW.trod_int h1 (by simpa using e1)
  obtain ⟨s, es, _, hs⟩ := DataW.trod_string h2 (by simpa using e2)
  simp at ea eb es
  exact ⟨⟨a, b, s⟩, by rw [ea, eb, es], hs⟩
theorem val_cells {n : Nat} {cs : List Value} {y : DataW H × List MemPlace} (h : DataW.trod enc Tryz.prog W base spare held n 86 cs = some y) : ∃ v : V, cs = [.int .i64 v.k, .int .i64 v.n, .string v.s] ∧ v.s.size ≤ maxLen :=
  triple_cells _ _ _ Tryz.underlying86 (by kernel_rfl) Tryz.underlying3 Tryz.underlying3 Tryz.underlying9 (by kernel_rfl) h
theorem rd_row {fuel : Nat} {cs : List Value} {x : DataW H × List MemPlace} (h : DataW.trod enc Tryz.prog W base spare held fuel 25 cs = some x) : ∃ A len cap r, cs = [.slice A len cap] ∧ RdV W A len r := by
  rcases open_slice Tryz.underlying25 h with ⟨hcs, _⟩ | ⟨a, l, c, m, n, D, Pl, hcs, hb, hl, hm, hmm, hx, hi⟩
  · exact ⟨none, 0, 0, [], hcs, RdV.nil _⟩
  · have hC : Tryz.prog.cellsOf 86 = 3 := by kernel_rfl
    have hlm : l ≤ m := by rw [hmm]; split <;> omega
    have hex : ∀ i, ∃ v : V, (i < l → V.at_ W (a.add (i * 3)) v) ∧ v.s.size ≤ maxLen := fun i => by
      by_cases hil : i < l
      · obtain ⟨cs', hc, ht'⟩ := hi i (by omega)
        rw [hC] at hc
        obtain ⟨v, rfl, hs⟩ := val_cells ht'
        obtain ⟨_, _, hat⟩ := World.cells?_some hc
        have h0 := hat 0 (by omega)
        have h1 := hat 1 (by omega)
        have h2 := hat 2 (by omega)
        refine ⟨v, fun _ => ⟨?_, ?_, ?_⟩, hs⟩
        · simpa [Addr.add] using h0
        · have e : (a.add (i * 3)).add 1 = ⟨(a.add (i * 3)).block, (a.add (i * 3)).off + 1, none⟩ := rfl
          rw [e] at h1; simpa using h1
        · have e : (a.add (i * 3)).add 2 = ⟨(a.add (i * 3)).block, (a.add (i * 3)).off + 2, none⟩ := rfl
          rw [e] at h2; simpa using h2
      · exact ⟨dV, fun h => absurd h hil, Nat.zero_le _⟩
    obtain ⟨f, hf⟩ := Classical.axiomOfChoice hex
    refine ⟨_, l, c, (List.range l).map f, hcs, by simp, by simp only [maxLen] at hm; omega, fun hn => ⟨a, rfl, ?_, fun i v hv => ?_⟩, ?_⟩
    · have := World.block_lt_of_cell? W _ ((hf 0).1 hn).1
      rwa [add_block] at this
    · rw [List.getElem?_map] at hv
      by_cases hil : i < l
      · rw [List.getElem?_range hil] at hv
        obtain rfl : f i = v := by simpa using hv
        exact (hf i).1 hil
      · rw [List.getElem?_eq_none (by simpa using hil)] at hv
        cases hv
    · intro v hv
      obtain ⟨i, _, rfl⟩ := List.mem_map.1 hv
      exact (hf i).2
theorem open_SValue {A : Option Addr} {len cap : Nat} {d : DataW H} {ps : List MemPlace} (h : DataW.Trod enc Tryz.prog W base spare held 25 (.slice A len cap) d ps) : ∃ r, RdV W A len r := by
  obtain ⟨fuel, hf⟩ := h
  obtain ⟨B, l, c, r, e, hr⟩ := rd_row hf
  obtain ⟨rfl, rfl, rfl⟩ := slice_cells e
  exact ⟨r, hr⟩
end
end Go.Proofs.YtkbapoeilcapfaaGreat
