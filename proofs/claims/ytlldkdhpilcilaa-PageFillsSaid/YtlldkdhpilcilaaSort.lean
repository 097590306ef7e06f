/- Sort. -/
import Derived.Test.YtlldkdhpilcilaaCmp
import Derived.Deep.RegionHeld3
namespace Go.Proofs.Ytlldkdhpilcilaa
open Go.RowKit

abbrev It := Value × List V
def RdIts (w : World) (its : List It) : Prop := ∀ x ∈ its, ∃ B m c, x.1 = Value.slice B m c ∧ RdV w B m x.2
theorem RdIts.below {w w' : World} {its : List It} (h : RdIts w its) (hb : Below w.heap.size w w') : RdIts w' its := fun x hx => by
  obtain ⟨B, m, c, e, hr⟩ := h x hx
  exact ⟨B, m, c, e, hr.below hb⟩
def leI (a b : It) : Prop := leR a.2 b.2
def SortPost (w : World) (n : Nat) (its : List It) (e : Ending) (w' : World) : Prop :=
  ∃ (v : Value) (js : List It), e = .returned v ∧ w'.ownsRow w.heap.size 24 1 v n (js.map Prod.fst) ∧ js.Perm its ∧ js.Pairwise leI ∧ Below w.heap.size w w'
theorem sort_small {w : World} {A : Option Addr} {n c : Nat} (its : List It) (hr : Rd1 w A n (its.map Prod.fst)) (hi : RdIts w its) (h2 : n < 2) :
    Calls Try.prog 28 #[.slice A n c] w (SortPost w n its) := by
  have hl : its.length = n := by simpa using hr.1
  have b0 : Below w.heap.size w (w.alloc (.cells #[] 24)) := (Below.refl _ _).alloc (Nat.le_refl _) _
  have ho := World.ownsRow_lit (base := w.heap.size) (e := 24) (size := 1) w #[] 0 (Nat.le_refl _) (by simp [maxLen]) (by simp)
  have hrd := hr.below b0
  have hp : its.Pairwise leI := by
    match its, hl with
    | [], _ => exact List.Pairwise.nil
    | [x], _ => exact List.pairwise_singleton _ _
    | x :: y :: t, h => simp at h; omega
  have HP := Lib.hid (And.intro hp b0)
  have HR := Lib.hid (And.intro ho hrd)
  have hone : ∀ u ∈ its.map Prod.fst, u.oneCell' = true := by
    intro u hu
    obtain ⟨x, hx, rfl⟩ := List.mem_map.1 hu
    obtain ⟨B, m, c, e, _⟩ := hi x hx
    rw [e]
    rfl
  have HO := Lib.hid hone
  clear hp b0 hr hrd ho hone hi
  go_enter Try.func28, Try.ntmps28
  go_wp2_with (at_builtin; refine wp_appendL w.heap.size rfl (.tmp 9) (.tmp 10) 38 24 (.slice none 0 0) 1 24 rfl Try.underlying38 info_L rfl (by omega) (by omega) (.slice (some ⟨w.heap.size, 0, none⟩) 0 0) 0 [] rfl A n c (its.map Prod.fst) rfl (by simp [hl]) (fun h => by obtain ⟨ad, e, _, hc⟩ := HR.out.2.2.2 h; exact ⟨ad, e, hc⟩) HO.out HR.out.1 (by simp) (by omega) ?_; intro v1 w1 h1 t1 _)
  go_ret
  refine ⟨_, its, rfl, by simpa using h1, List.Perm.refl _, HP.out.1, ?_⟩
  exact below_turn HP.out.2 t1 (by simp) (fun k hk => by simp [Value.ownBlock] at hk; omega)
theorem own_below {w w' : World} {base : Nat} {e : TypeId} {size n : Nat} {v : Value} {xs : List Value} (h : w.ownsRow base e size v n xs) (hb : Below w.heap.size w w') : w'.ownsRow base e size v n xs :=
  own_turn h (Turn.of_below hb (fun _ => False)) (fun _ _ h => h)
theorem own_slice_cap {w : World} {base : Nat} {e : TypeId} {size n : Nat} {v : Value} {xs : List Value} (h : w.ownsRow base e size v n xs) : ∃ A c, v = .slice A n c ∧ n ≤ c := by
  rcases h.2 with ⟨rfl, rfl⟩ | ⟨g, cap, cur, rfl, _, _, h, _⟩
  · exact ⟨none, 0, rfl, Nat.le_refl _⟩
  · exact ⟨_, cap, rfl, h⟩
theorem addr_add_add (a : Addr) (m n : Nat) : (a.add m).add n = a.add (m + n) := by
  rcases Nat.eq_zero_or_pos m with rfl | hm
  · simp [Addr.add]
  · rcases Nat.eq_zero_or_pos n with rfl | hn
    · simp [Addr.add]
    · have h1 : ¬ m = 0 := by omega
      have h2 : ¬ n = 0 := by omega
      have h3 : ¬ m + n = 0 := by omega
      simp [Addr.add, h1, h2, Nat.add_assoc]
theorem Rd1.drop {w : World} {ad : Addr} {n h : Nat} {xs : List Value} (hr : Rd1 w (some ad) n xs) (hh : h ≤ n) : Rd1 w (some (ad.add h)) (n - h) (xs.drop h) :=
  ⟨by have := hr.1; simp; omega, by have := hr.2.1; omega, fun hn => by
    obtain ⟨a, e, hlt, hc⟩ := hr.2.2 (by omega)
    obtain rfl := Option.some.inj e
    refine ⟨_, rfl, by rw [add_block]; exact hlt, fun j u hu => ?_⟩
    rw [addr_add_add]
    exact hc _ _ (by rwa [List.getElem?_drop] at hu)⟩
theorem Rd1.take {w : World} {A : Option Addr} {n h : Nat} {xs : List Value} (hr : Rd1 w A n xs) (hh : h ≤ n) : Rd1 w A h (xs.take h) :=
  ⟨by have := hr.1; simp; omega, by have := hr.2.1; omega, fun hn => by
    obtain ⟨a, e, hlt, hc⟩ := hr.2.2 (by omega)
    refine ⟨a, e, hlt, fun j u hu => hc j u ?_⟩
    rw [List.getElem?_take] at hu
    split at hu
    · exact hu
    · cases hu⟩
/-- Behind the two calls. -/
def Mid (w : World) (its : List It) (va vb : Value) (w2 : World) : Prop :=
  ∃ ja jb : List It, w2.ownsRow w.heap.size 24 1 va ja.length (ja.map Prod.fst) ∧ w2.ownsRow w.heap.size 24 1 vb jb.length (jb.map Prod.fst) ∧ (ja ++ jb).Perm its ∧ ja.Pairwise leI ∧ jb.Pairwise leI ∧ Below w.heap.size w w2
/-- What the merging keeps: plain. -/
structure Mg (its xa xb xo : List It) : Prop where
  perm : (xo ++ (xa ++ xb)).Perm its
  so : xo.Pairwise leI
  sa : xa.Pairwise leI
  sb : xb.Pairwise leI
  le : ∀ x ∈ xo, ∀ y ∈ xa ++ xb, leI x y
theorem Mg.a {its xa xb xo : List It} {x : It} (h : Mg its (x :: xa) xb xo) (hx : ∀ y ∈ xb, leI x y) : Mg its xa xb (xo ++ [x]) := by
  have ha := List.pairwise_cons.1 h.sa
  refine ⟨by simpa using h.perm, ?_, ha.2, h.sb, ?_⟩
  · rw [List.pairwise_append]
    exact ⟨h.so, List.pairwise_singleton _ _, fun y hy z hz => by obtain rfl := List.mem_singleton.1 hz; exact h.le y hy _ (by simp)⟩
  · intro y hy z hz
    rcases List.mem_append.1 hy with hy | hy
    · exact h.le y hy z (by rcases List.mem_append.1 hz with hz | hz <;> simp [hz])
    · obtain rfl := List.mem_singleton.1 hy
      rcases List.mem_append.1 hz with hz | hz
      · exact ha.1 z hz
      · exact hx z hz
theorem Mg.b {its xa xb xo : List It} {x : It} (h : Mg its xa (x :: xb) xo) (hx : ∀ y ∈ xa, leI x y) : Mg its xa xb (xo ++ [x]) := by
  have hb := List.pairwise_cons.1 h.sb
  refine ⟨?_, ?_, h.sa, hb.2, ?_⟩
  · refine List.Perm.trans ?_ h.perm
    rw [List.append_assoc]
    refine List.Perm.append_left _ ?_
    rw [List.singleton_append]
    exact List.perm_middle.symm
  · rw [List.pairwise_append]
    exact ⟨h.so, List.pairwise_singleton _ _, fun y hy z hz => by obtain rfl := List.mem_singleton.1 hz; exact h.le y hy _ (by simp)⟩
  · intro y hy z hz
    rcases List.mem_append.1 hy with hy | hy
    · exact h.le y hy z (by rcases List.mem_append.1 hz with hz | hz <;> simp [hz])
    · obtain rfl := List.mem_singleton.1 hy
      rcases List.mem_append.1 hz with hz | hz
      · exact hx z hz
      · exact hb.1 z hz
theorem leI_trans {x y z : It} (h1 : leI x y) (h2 : leI y z) : leI x z := leR_trans h1 h2
/-- The merging's state. -/
def MgRel (w2 : World) (its : List It) (a b o : Value) (wr : World) : Prop :=
  ∃ (xa xb xo : List It) (Aa Ab : Option Addr) (la lb ca cb : Nat), a = .slice Aa la ca ∧ b = .slice Ab lb cb ∧ la = xa.length ∧ lb = xb.length ∧ la ≤ ca ∧ lb ≤ cb ∧ Rd1 w2 Aa la (xa.map Prod.fst) ∧ Rd1 w2 Ab lb (xb.map Prod.fst) ∧
    wr.ownsRow w2.heap.size 24 1 o xo.length (xo.map Prod.fst) ∧ Mg its xa xb xo ∧ Below w2.heap.size w2 wr
theorem MgRel.start {w w2 : World} {its : List It} {va vb : Value} (M : Mid w its va vb w2) : MgRel w2 its va vb (.slice none 0 0) w2 := by
  obtain ⟨ja, jb, oa, ob, p, sa, sb, b⟩ := M
  obtain ⟨Aa, ca, rfl, ha⟩ := own_slice_cap oa
  obtain ⟨Ab, cb, rfl, hb⟩ := own_slice_cap ob
  exact ⟨ja, jb, [], Aa, Ab, _, _, ca, cb, rfl, rfl, rfl, rfl, ha, hb, (Rd1.of_own oa).2, (Rd1.of_own ob).2, World.ownsRow_nil _ _ _ _, ⟨by simpa using p, List.Pairwise.nil, sa, sb, by simp⟩, Below.refl _ _⟩
theorem Rd1.tail {w : World} {ad : Addr} {n : Nat} {x : Value} {xs : List Value} (c : Nat) (hr : Rd1 w (some ad) n (x :: xs)) (hc : n ≤ c) : Rd1 w (if c = 1 then some ad else some (ad.add 1)) (n - 1) xs := by
  have h := hr.drop (h := 1) (by have := hr.1; simp at this; omega)
  rw [List.drop_one, List.tail_cons] at h
  by_cases h1 : c = 1
  · have h0 : n - 1 = 0 := by omega
    rw [h0] at h ⊢
    exact ⟨h.1, by omega, fun h => absurd h (by omega)⟩
  · rw [if_neg h1]
    exact h
/-- The first element of what is left. -/
theorem head_at {w2 wr : World} {its : List It} {A : Option Addr} {n : Nat} {x : It} {xs : List It} (hr : Rd1 w2 A n ((x :: xs).map Prod.fst)) (b : Below w2.heap.size w2 wr) (hi : RdIts w2 its) (hx : x ∈ its) :
    ∃ ad B m c, A = some ad ∧ x.1 = Value.slice B m c ∧ wr.cell? ad = some (.slice B m c) ∧ wr.cell? (ad.add 0) = some (.slice B m c) ∧ RdV wr B m x.2 ∧ 0 < n := by
  have hn : 0 < n := by have := hr.1; simp at this; omega
  obtain ⟨ad, e, hlt, hc⟩ := (hr.below b).at2 (k := 0) hn
  obtain ⟨B, m, c, e2, hv⟩ := hi x hx
  have hc' : wr.cell? (ad.add 0) = some (.slice B m c) := by rw [hc]; simp [e2]
  exact ⟨ad, B, m, c, e, e2, by simpa [Addr.add] using hc', hc', hv.below b, hn⟩
set_option maxHeartbeats 2000000 in
theorem sort_big {w : World} {A : Option Addr} {n c : Nat} (its : List It) (hr : Rd1 w A n (its.map Prod.fst)) (hi : RdIts w its) (h2 : 2 ≤ n) (hc : n ≤ c) (hn5 : n ≤ 100000)
    (ih : ∀ m, m < n → ∀ (W : World) (B : Option Addr) (c' : Nat) (js : List It), Rd1 W B m (js.map Prod.fst) → RdIts W js → m ≤ c' → Calls Try.prog 28 #[.slice B m c'] W (SortPost W m js)) :
    Calls Try.prog 28 #[.slice A n c] w (SortPost w n its) := by
  have hl : its.length = n := by simpa using hr.1
  have hn := hr.2.1
  obtain ⟨ad, rfl, had, hcell⟩ := hr.2.2 (by omega)
  obtain ⟨h, hh⟩ : ∃ h, h = n / 2 := ⟨_, rfl⟩
  have hw : IntKind.i64.wrap ((n : Int) / 2) = (h : Int) := by
    rw [IntKind.wrap_i64]
    omega
  have hhn : h < n := by omega
  have hh0 : 0 < h := by omega
  have hhc : h ≤ c := by omega
  have hhn2 : h ≤ n := by omega
  have hf1 : decide ((n : Int) < 2) = false := by simp; omega
  have hne : ¬ c = h := by omega
  clear hh
  have HA := Lib.hid (fun (W : World) (b : Below w.heap.size w W) => ih h hhn W (some ad) c (its.take h) (by have := (hr.below b).take hhn2; rwa [← List.map_take] at this) (fun x hx => hi.below b x (List.mem_of_mem_take hx)) hhc)
  have HB := Lib.hid (fun (W : World) (b : Below w.heap.size w W) => ih (n - h) (by omega) W (some (ad.add h)) (c - h) (its.drop h) (by have := (hr.below b).drop hhn2; rwa [← List.map_drop] at this) (fun x hx => hi.below b x (List.mem_of_mem_drop hx)) (by omega))
  have B0 := below_drew (Below.refl w.heap.size w)
  have HI := Lib.hid hi
  have hmid : ∀ (va vb : Value) (w2 : World) (ja jb : List It) (q1 q2 : Nat), w2.ownsRow w.heap.size 24 1 va q1 (ja.map Prod.fst) → w2.ownsRow w.heap.size 24 1 vb q2 (jb.map Prod.fst) → ja.Perm (its.take h) → jb.Perm (its.drop h) → ja.Pairwise leI → jb.Pairwise leI → Below w.heap.size w w2 → Mid w its va vb w2 := by
    intro va vb w2 ja jb q1 q2 o1 o2 p1 p2 s1 s2 b
    have e1 : ja.length = q1 := by simpa using o1.1
    have e2 : jb.length = q2 := by simpa using o2.1
    exact ⟨ja, jb, e1 ▸ o1, e2 ▸ o2, by have := p1.append p2; rwa [List.take_append_drop] at this, s1, s2, b⟩
  have HM := Lib.hid hmid
  clear ih hr hi hcell hmid
  go_enter Try.func28, Try.ntmps28
  go_wp2
  go_region_with (first
    | (go_at_call 28; (with_reducible refine (HA.out _ B0).mono ?_); rintro e wa ⟨va, ja, rfl, oa, pa, sa, ba⟩; have BA := B0.trans ba)
    | (go_at_call 28; (with_reducible refine (HB.out _ B0).mono ?_); rintro e wb ⟨vb, jb, rfl, ob, pb, sb, bb⟩; have BB := B0.trans bb)
    | (go_at_call 28; (with_reducible refine (HB.out _ BA).mono ?_); rintro e w2 ⟨vb, jb, rfl, ob, pb, sb, bb⟩; have M := HM.out va vb w2 ja jb _ _ (own_below oa bb) (own_lower ob BA.size) pa pb sa sb (BA.trans (bb.mono BA.size)))
    | (go_at_call 28; (with_reducible refine (HA.out _ BB).mono ?_); rintro e w2 ⟨va, ja, rfl, oa, pa, sa, ba⟩; have M := HM.out va vb w2 ja jb _ _ (own_lower oa BB.size) (own_below ob ba) pa pb sa sb (BB.trans (ba.mono BB.size))))
  all_goals
    have hi2 : RdIts w2 its := by
      obtain ⟨_, _, _, _, _, _, _, b⟩ := M
      exact HI.out.below b
    have R0 := MgRel.start M
    have HM2 := Lib.hid M
    have HI2 := Lib.hid hi2
    clear BA B0 M hi2 hw hhn hh0 hhc hhn2 hf1 hne HA HB HM hn hc h2
    go_wp2
    go_loopw [3, 4, 5] (fun a b o wr => MgRel w2 its a b o wr) (fun a b _ _ => lenOf a + lenOf b)
    case atStart => exact R0
    case round =>
      clear R0
      obtain ⟨xa, xb, xo, Aa, Ab, la, lb, ca, cb, rfl, rfl, hla, hlb, hca, hcb, hra, hrb, ho, mg, bel⟩ := hrel
      have hxo : xo.length ≤ 100000 := by
        have := mg.perm.length_eq
        simp at this
        omega
      have szo := bel.size
      obtain ⟨Ao, co, rfl⟩ := own_slice ho
      cases xa with
      | nil =>
        cases xb with
        | nil =>
          obtain rfl : la = 0 := by simpa using hla
          obtain rfl : lb = 0 := by simpa using hlb
          have HF := Lib.hid (And.intro mg (And.intro ho bel))
          clear mg ho bel hra hrb hca hcb hla hlb hxo szo
          go_wp2
          go_ret
          obtain ⟨mg, ho, bel⟩ := HF.out
          obtain ⟨_, _, _, _, _, _, _, b⟩ := HM2.out
          have hp : xo.Perm its := by simpa using mg.perm
          refine ⟨_, xo, rfl, ?_, hp, mg.so, b.trans (bel.mono b.size)⟩
          have e : xo.length = n := hp.length_eq.trans hl
          rw [← e]
          exact own_lower ho b.size
        | cons y xb =>
          obtain rfl : la = 0 := by simpa using hla
          have hy : y ∈ its := mg.perm.subset (by simp)
          obtain ⟨ad3, B, m, cx, rfl, ex, cx1, cx2, hv, hpos⟩ := head_at hrb bel HI2.out hy
          have hone : 1 ≤ lb := hpos
          have hq0 : ((lb : Int) == 0) = false := by simp; omega
          have HF := Lib.hid (And.intro (mg.b (by simp)) (And.intro (hrb.tail cb hcb) (And.intro hra ex)))
          have HLA := Lib.hid (And.intro (show lb - 1 = xb.length by rw [hlb]; simp) (And.intro hca hcb))
          have Bq : ∀ q, Below w2.heap.size w2 (wr.drewN q) := fun q => ⟨bel.os, bel.tape, bel.output, bel.size, bel.block⟩
          have HBQ := Lib.hid Bq
          clear mg hra hrb hv hy hla hlb hca hcb bel ex Bq
          go_wp2
          go_quiet (fail)
          go_wp2_with (at_builtin; refine wp_append1 w2.heap.size rfl (.tmp 58) (.tmp 62) 38 24 (.slice none 0 0) 1 24 rfl Try.underlying38 info_L rfl (by omega) (by omega) (.slice Ao xo.length co) xo.length (xo.map Prod.fst) [.slice B m cx] rfl rfl (by simp) rfl (by simp [Value.oneCell']) ho szo (by omega) ?_; intro v1 w3 h1 t1 _)
          have B3 := below_turn (HBQ.out _) t1 szo (fun k hk => own_ge ho hk)
          have h2 : w3.ownsRow w2.heap.size 24 1 v1 (xo ++ [y]).length ((xo ++ [y]).map Prod.fst) := by simpa [HF.out.2.2.2] using h1
          have R : MgRel w2 its (.slice Aa 0 ca) (.slice (if cb = 1 then some ad3 else some (ad3.add 1)) (lb - 1) (cb - 1)) v1 w3 :=
            ⟨[], xb, xo ++ [y], _, _, 0, lb - 1, ca, cb - 1, rfl, rfl, rfl, HLA.out.1, HLA.out.2.1, by have := HLA.out.2.2; omega, HF.out.2.2.1, HF.out.2.1, h2, HF.out.1, B3⟩
          exact ⟨R, by simp [lenOf]; omega⟩
      | cons x xa =>
        cases xb with
        | nil =>
          obtain rfl : lb = 0 := by simpa using hlb
          have hx : x ∈ its := mg.perm.subset (by simp)
          obtain ⟨ad2, B, m, cx, rfl, ex, cx1, cx2, hv, hpos⟩ := head_at hra bel HI2.out hx
          have hone : 1 ≤ la := hpos
          have HF := Lib.hid (And.intro (mg.a (by simp)) (And.intro (hra.tail ca hca) (And.intro hrb ex)))
          have HLA := Lib.hid (And.intro (show la - 1 = xa.length by rw [hla]; simp) (And.intro hca hcb))
          have Bq : ∀ q, Below w2.heap.size w2 (wr.drewN q) := fun q => ⟨bel.os, bel.tape, bel.output, bel.size, bel.block⟩
          have HBQ := Lib.hid Bq
          clear mg hra hrb hv hx hla hlb hca hcb bel ex Bq
          go_wp2
          go_quiet (fail)
          go_wp2_with (at_builtin; refine wp_append1 w2.heap.size rfl (.tmp 50) (.tmp 54) 38 24 (.slice none 0 0) 1 24 rfl Try.underlying38 info_L rfl (by omega) (by omega) (.slice Ao xo.length co) xo.length (xo.map Prod.fst) [.slice B m cx] rfl rfl (by simp) rfl (by simp [Value.oneCell']) ho szo (by omega) ?_; intro v1 w3 h1 t1 _)
          have B3 := below_turn (HBQ.out _) t1 szo (fun k hk => own_ge ho hk)
          have h2 : w3.ownsRow w2.heap.size 24 1 v1 (xo ++ [x]).length ((xo ++ [x]).map Prod.fst) := by simpa [HF.out.2.2.2] using h1
          have R : MgRel w2 its (.slice (if ca = 1 then some ad2 else some (ad2.add 1)) (la - 1) (ca - 1)) (.slice Ab 0 cb) v1 w3 :=
            ⟨xa, [], xo ++ [x], _, _, la - 1, 0, ca - 1, cb, rfl, rfl, HLA.out.1, rfl, by have := HLA.out.2.1; omega, HLA.out.2.2, HF.out.2.1, HF.out.2.2.1, h2, HF.out.1, B3⟩
          exact ⟨R, by simp [lenOf]; omega⟩
        | cons y xb =>
          have hx : x ∈ its := mg.perm.subset (by simp)
          have hy : y ∈ its := mg.perm.subset (by simp)
          obtain ⟨ad2, B, m, cx, rfl, ex, cx1, cx2, hv, hpos⟩ := head_at hra bel HI2.out hx
          obtain ⟨ad3, By, my, cy, rfl, ey, cy1, cy2, hvy, hpos2⟩ := head_at hrb bel HI2.out hy
          have HC := fun (W : World) (b : Below wr.heap.size wr W) => cmp_walk (c := cx) (c2 := cy) x.2 y.2 (hv.below b) (hvy.below b)
          have hsa := (List.pairwise_cons.1 mg.sa).1
          have hsb := (List.pairwise_cons.1 mg.sb).1
          have hone : 1 ≤ la := hpos
          have hone2 : 1 ≤ lb := hpos2
          have hq0 : ((lb : Int) == 0) = false := by simp; omega
          have lt1 : ad2.block < wr.heap.size := World.block_lt_of_cell? wr _ cx1
          have lt2 : ad3.block < wr.heap.size := World.block_lt_of_cell? wr _ cy1
          have HB0 := Lib.hid (below_drew (Below.refl wr.heap.size wr))
          have HLA := Lib.hid (And.intro (show la - 1 = xa.length by rw [hla]; simp) (And.intro (show lb - 1 = xb.length by rw [hlb]; simp) (And.intro hca (And.intro hcb (And.intro hla hlb)))))
          obtain ⟨q, hq⟩ : ∃ q, q = cmpR x.2 y.2 := ⟨_, rfl⟩
          rw [← hq] at HC
          have HC := Lib.hid HC
          have HBL := Lib.hid bel
          have HC2 := Lib.hid (fun (W : World) (k1 : W.cell? ad2 = some (.slice B m cx)) (k2 : W.cell? ad3 = some (.slice By my cy)) (k3 : Below wr.heap.size wr W) => (HC.out W k3).mono (fun e w' (h : e = .returned (.int .i64 q) ∧ Below W.heap.size W w') => show e = .returned (.int .i64 q) ∧ w'.cell? ad2 = some (.slice B m cx) ∧ w'.cell? ad3 = some (.slice By my cy) ∧ Below wr.heap.size wr w' from ⟨h.1, cell_belowv k1 h.2 (World.block_lt_of_cell? W _ k1), cell_belowv k2 h.2 (World.block_lt_of_cell? W _ k2), k3.trans (h.2.mono k3.size)⟩))
          have hb0 := HB0.out
          have kd1 : wr.drew.cell? ad2 = some (.slice B m cx) := cx1
          have kd2 : wr.drew.cell? ad3 = some (.slice By my cy) := cy1
          by_cases hle : q ≤ 0
          · have hxy : leI x y := (leR_iff _ _).1 (hq ▸ hle)
            have HF := Lib.hid (And.intro (mg.a (fun z hz => by rcases List.mem_cons.1 hz with rfl | hz; exact hxy; exact leI_trans hxy (hsb z hz))) (And.intro (hra.tail ca hca) (And.intro hrb ex)))
            have hqd : decide (q ≤ 0) = true := by simpa using hle
            clear mg hra hrb hv hvy hx hy hla hlb hca hcb bel ex ey hq hsa hsb hxy
            go_wp2
            go_region_held3 (fun w' => w'.cell? ad2 = some (.slice B m cx) ∧ w'.cell? ad3 = some (.slice By my cy) ∧ Below wr.heap.size wr w') (first | (refine ⟨?_, ?_, ?_⟩ <;> assumption) | go_keep)
              (first | (go_at_call 54; refine (HC2.out _ (by assumption) (by assumption) (by assumption)).mono ?_; rintro e w1 ⟨rfl, k1, k2, b1w⟩))
            all_goals
              have d1 := cell_belowv cx1 b1w lt1
              have d2 := cell_belowv cx2 b1w (by rw [add_block]; exact lt1)
              have ho1 := own_below ho b1w
              have sz1 : w2.heap.size ≤ w1.heap.size := Nat.le_trans szo b1w.size
              have HB1 := Lib.hid (HBL.out.trans (b1w.mono szo))
              go_wp2_with (at_builtin; refine wp_append1 w2.heap.size rfl (.tmp 50) (.tmp 54) 38 24 (.slice none 0 0) 1 24 rfl Try.underlying38 info_L rfl (by omega) (by omega) (.slice Ao xo.length co) xo.length (xo.map Prod.fst) [.slice B m cx] rfl rfl (by simp) rfl (by simp [Value.oneCell']) ho1 sz1 (by omega) ?_; intro v1 w3 h1 t1 _)
              have B3 := below_turn HB1.out t1 sz1 (fun k hk => own_ge ho1 hk)
              have h2 : w3.ownsRow w2.heap.size 24 1 v1 (xo ++ [x]).length ((xo ++ [x]).map Prod.fst) := by simpa [HF.out.2.2.2] using h1
              have R : MgRel w2 its (.slice (if ca = 1 then some ad2 else some (ad2.add 1)) (la - 1) (ca - 1)) (.slice (some ad3) lb cb) v1 w3 :=
                ⟨xa, y :: xb, xo ++ [x], _, _, la - 1, lb, ca - 1, cb, rfl, rfl, HLA.out.1, HLA.out.2.2.2.2.2, by have := HLA.out.2.2.1; omega, HLA.out.2.2.2.1, HF.out.2.1, HF.out.2.2.1, h2, HF.out.1, B3⟩
              exact ⟨R, by simp [lenOf]; omega⟩
          · have hyx : leI y x := by
              rcases leR_total y.2 x.2 with h | h
              · exact h
              · exact absurd (hq ▸ (leR_iff _ _).2 h) hle
            have HF := Lib.hid (And.intro (mg.b (fun z hz => by rcases List.mem_cons.1 hz with rfl | hz; exact hyx; exact leI_trans hyx (hsa z hz))) (And.intro (hrb.tail cb hcb) (And.intro hra ey)))
            have hqd : decide (q ≤ 0) = false := by simpa using hle
            clear mg hra hrb hv hvy hx hy hla hlb hca hcb bel ex ey hq hsa hsb hyx
            go_wp2
            go_region_held3 (fun w' => w'.cell? ad2 = some (.slice B m cx) ∧ w'.cell? ad3 = some (.slice By my cy) ∧ Below wr.heap.size wr w') (first | (refine ⟨?_, ?_, ?_⟩ <;> assumption) | go_keep)
              (first | (go_at_call 54; refine (HC2.out _ (by assumption) (by assumption) (by assumption)).mono ?_; rintro e w1 ⟨rfl, k1, k2, b1w⟩))
            all_goals
              have d1 := cell_belowv cy1 b1w lt2
              have d2 := cell_belowv cy2 b1w (by rw [add_block]; exact lt2)
              have ho1 := own_below ho b1w
              have sz1 : w2.heap.size ≤ w1.heap.size := Nat.le_trans szo b1w.size
              have HB1 := Lib.hid (HBL.out.trans (b1w.mono szo))
              go_wp2_with (at_builtin; refine wp_append1 w2.heap.size rfl (.tmp 58) (.tmp 62) 38 24 (.slice none 0 0) 1 24 rfl Try.underlying38 info_L rfl (by omega) (by omega) (.slice Ao xo.length co) xo.length (xo.map Prod.fst) [.slice By my cy] rfl rfl (by simp) rfl (by simp [Value.oneCell']) ho1 sz1 (by omega) ?_; intro v1 w3 h1 t1 _)
              have B3 := below_turn HB1.out t1 sz1 (fun k hk => own_ge ho1 hk)
              have h2 : w3.ownsRow w2.heap.size 24 1 v1 (xo ++ [y]).length ((xo ++ [y]).map Prod.fst) := by simpa [HF.out.2.2.2] using h1
              have R : MgRel w2 its (.slice (some ad2) la ca) (.slice (if cb = 1 then some ad3 else some (ad3.add 1)) (lb - 1) (cb - 1)) v1 w3 :=
                ⟨x :: xa, xb, xo ++ [y], _, _, la, lb - 1, ca, cb - 1, rfl, rfl, HLA.out.2.2.2.2.1, HLA.out.2.1, HLA.out.2.2.1, by have := HLA.out.2.2.2.1; omega, HF.out.2.2.1, HF.out.2.1, h2, HF.out.1, B3⟩
              exact ⟨R, by simp [lenOf]; omega⟩
end Go.Proofs.Ytlldkdhpilcilaa
