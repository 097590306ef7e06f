/- row.Get: the row with which bytes begin. -/
import Derived.Test.YtlldkdhpilcilaaRdvA
namespace Go.Proofs.Ytlldkdhpilcilaa
open Go.RowKit
set_option linter.unusedVariables false
set_option linter.unusedSimpArgs false

theorem drop_of_byte {bs : List Int} {n a x a1 : Nat} (hl : bs.length = n) (h : byteS bs n a false = ((x : Int), a1, false)) : a < n ∧ a1 = a + 1 ∧ bs.drop a = (x : Int) :: bs.drop (a + 1) := by
  unfold byteS nextS at h
  by_cases hc : n < a + 1
  · simp [hc] at h
  · simp only [Bool.false_eq_true, hc, or_self, if_false, Prod.mk.injEq] at h
    have ha : a < bs.length := by omega
    have hd := drop_cons bs 0 ha
    refine ⟨by omega, h.2.1.symm, ?_⟩
    rw [hd] at h
    rw [hd]
    have : bs.getD a 0 = (x : Int) := by simpa using h.1
    rw [this]
theorem byte_bad_drop {bs : List Int} {n a : Nat} {x : Int} {a1 : Nat} (hl : bs.length = n) (h : byteS bs n a false = (x, a1, true)) : bs.drop a = [] ∧ x = 0 ∧ a1 = a := by
  unfold byteS nextS at h
  by_cases hc : n < a + 1
  · simp [hc] at h
    exact ⟨List.drop_eq_nil_iff.2 (by omega), h.1.symm, h.2.symm⟩
  · simp [hc] at h
theorem bad_byte {bs : List Int} {n a : Nat} : byteS bs n a true = (0, a, true) := by
  unfold byteS nextS
  simp
theorem bad_next {bs : List Int} {n a k : Nat} : nextS bs n a k true = (List.replicate k 0, a, true) := by
  unfold nextS
  simp
theorem valS_dec (bs : List Int) (n a : Nat) (hb : isB bs) (hl : bs.length = n) :
    (∀ v m, decV (bs.drop a) = some (v, m) → valS bs n a = (v, a + m, false) ∧ vOk v = true) ∧ (decV (bs.drop a) = none → ((valS bs n a).2.2 || !vOk (valS bs n a).1) = true) := by
  have key : ∀ (v : V) (m a' : Nat), rawV (bs.drop a) = some (v, m) → valS bs n a = (v, a', false) → a' = a + m → (∀ v m, decV (bs.drop a) = some (v, m) → valS bs n a = (v, a + m, false) ∧ vOk v = true) ∧ (decV (bs.drop a) = none → ((valS bs n a).2.2 || !vOk (valS bs n a).1) = true) := by
    intro v m a' h1 h2 h3
    subst h3
    unfold decV
    rw [h1, h2]
    cases hv : vOk v
    · simp [Option.filter, hv]
    · simp [Option.filter, hv]
  have bad : rawV (bs.drop a) = none → (valS bs n a).2.2 = true → (∀ v m, decV (bs.drop a) = some (v, m) → valS bs n a = (v, a + m, false) ∧ vOk v = true) ∧ (decV (bs.drop a) = none → ((valS bs n a).2.2 || !vOk (valS bs n a).1) = true) := by
    intro h1 h2
    unfold decV
    rw [h1, h2]
    simp [Option.filter]
  obtain ⟨x, a1, bad1, h1, hx⟩ := byteS_nat bs n a false hb hl
  cases bad1 with
  | true =>
    obtain ⟨hd, hx0, _⟩ := byte_bad_drop hl h1
    refine bad (by rw [hd]; rfl) ?_
    unfold valS
    simp only [h1, hx0]
    simp
  | false =>
    obtain ⟨ha, rfl, hd⟩ := drop_of_byte hl h1
    obtain ⟨y, a2, bad2, h2, hy⟩ := byteS_nat bs n (a + 1) false hb hl
    by_cases x1 : x = 1
    · subst x1
      cases bad2 with
      | true =>
        obtain ⟨hd2, _, _⟩ := byte_bad_drop hl h2
        refine bad (by rw [hd, hd2]; rfl) ?_
        unfold valS
        simp [h1, h2]
      | false =>
        obtain ⟨ha2, rfl, hd2⟩ := drop_of_byte hl h2
        refine key ⟨1, y, ⟨#[]⟩⟩ 2 (a + 1 + 1) (by rw [hd, hd2]; rfl) ?_ (by omega)
        unfold valS
        simp [h1, h2]
    · by_cases x2 : x = 2
      · subst x2
        have hlen : (bs.drop (a + 1)).length = n - (a + 1) := by rw [List.length_drop, hl]
        by_cases h7 : n < a + 1 + 7
        · refine bad ?_ ?_
          · rw [hd]
            show (if 7 ≤ (bs.drop (a + 1)).length then _ else _) = _
            rw [if_neg (by omega)]
          · unfold valS nextS
            simp [h1, h7]
        · refine key ⟨2, bigE ((bs.drop (a + 1)).take 7) - 9007199254740992, ⟨#[]⟩⟩ 8 (a + 1 + 7) ?_ ?_ (by omega)
          · rw [hd]
            show (if 7 ≤ (bs.drop (a + 1)).length then _ else _) = _
            rw [if_pos (by omega)]
          · unfold valS nextS
            simp [h1, h7]
      · by_cases x3 : x = 3
        · subst x3
          cases bad2 with
          | true =>
            obtain ⟨hd2, _, _⟩ := byte_bad_drop hl h2
            refine bad (by rw [hd, hd2]; rfl) ?_
            unfold valS
            simp [h1, h2, bad_next]
          | false =>
            obtain ⟨ha2, rfl, hd2⟩ := drop_of_byte hl h2
            have hlen : (bs.drop (a + 1 + 1)).length = n - (a + 1 + 1) := by rw [List.length_drop, hl]
            by_cases hs : n < a + 1 + 1 + y
            · refine bad ?_ ?_
              · rw [hd, hd2]
                show (if (y : Int).toNat ≤ (bs.drop (a + 1 + 1)).length then _ else _) = _
                rw [if_neg (by omega)]
              · unfold valS nextS
                simp [h1, h2, hs]
            · refine key ⟨3, 0, strOf ((bs.drop (a + 1 + 1)).take y)⟩ (2 + y) (a + 1 + 1 + y) ?_ ?_ (by omega)
              · rw [hd, hd2]
                show (if (y : Int).toNat ≤ (bs.drop (a + 1 + 1)).length then _ else _) = _
                rw [if_pos (by omega), Int.toNat_natCast]
              · unfold valS nextS
                simp [h1, h2, hs]
        · refine key ⟨x, 0, ⟨#[]⟩⟩ 1 (a + 1) ?_ ?_ rfl
          · rw [hd]
            show (if (x : Int) = 1 then _ else if (x : Int) = 2 then _ else if (x : Int) = 3 then _ else _) = _
            rw [if_neg (by omega), if_neg (by omega), if_neg (by omega)]
          · unfold valS
            simp only [h1]
            rw [if_neg (by omega), if_neg (by omega), if_neg (by omega)]

def GetPost (w : World) (bs : List Int) (e : Ending) (w' : World) : Prop :=
  (match decR bs with
  | some (r, m) => ∃ v', e = .returned (.tuple #[v', .int .i64 m, .int .i64 0]) ∧ w'.ownsRow w.heap.size 76 3 v' r.length (cellsR r)
  | none => e = .returned (.tuple #[.slice none 0 0, .int .i64 0, .int .i64 20])) ∧ Below w.heap.size w w'
/-- The loop's state: so many values are read. -/
def GetSt (bs : List Int) (cnt k a : Nat) (bad : Bool) (r : List V) : Prop := if bad = true then decA bs cnt 1 [] = none else (r.length = k ∧ decA bs cnt 1 [] = decA bs (cnt - k) a r)
theorem cellsR_snoc (r : List V) (v : V) : cellsR (r ++ [v]) = cellsR r ++ cellsV v := by simp [cellsR]
theorem GetSt.step {bs : List Int} {n cnt k a : Nat} {r : List V} (h : GetSt bs cnt k a false r) (hb : isB bs) (hl : bs.length = n) (hk : k < cnt) : GetSt bs cnt (k + 1) (valS bs n a).2.1 ((valS bs n a).2.2 || !vOk (valS bs n a).1) (r ++ [(valS bs n a).1]) := by
  unfold GetSt at h
  rw [if_neg (by decide)] at h
  have e : cnt - k = cnt - (k + 1) + 1 := by omega
  rw [e, decA] at h
  have hv := valS_dec bs n a hb hl
  unfold GetSt
  cases hd : decV (bs.drop a) with
  | none =>
    rw [hd] at h
    rw [if_pos (hv.2 hd)]
    exact h.2
  | some x =>
    obtain ⟨v, m⟩ := x
    obtain ⟨h1, h2⟩ := hv.1 v m hd
    rw [hd] at h
    simp only [h1, h2, Bool.not_true, Bool.or_false, Bool.false_eq_true, if_false]
    exact ⟨by simp [h.1], h.2⟩
end Go.Proofs.Ytlldkdhpilcilaa
namespace Go.Proofs.Ytlldkdhpilcilaa
open Go.RowKit
set_option linter.unusedVariables false
set_option linter.unusedSimpArgs false

theorem Rdg.bcells {w : World} {b n c a : Nat} {ad : Addr} {bs : List Int} {bad : Bool} (R : Rdg w b ad bs n c a bad) : w.cell? ⟨b, 1, none⟩ = some (.int .i64 a) ∧ w.cell? ⟨b, 2, none⟩ = some (.bool bad) ∧ b < w.heap.size :=
  ⟨cell_of_blk R.at_ 1, cell_of_blk R.at_ 2, lt_of_heap R.at_⟩
theorem get_res {w w' : World} {bs : List Int} {cnt k a : Nat} {bad : Bool} {r : List V} (hd : bs.head? = some (cnt : Int)) (hs : GetSt bs cnt k a bad r) (hc : cnt ≤ 32) (hb : bad = true ∨ k = cnt) (b : Below w.heap.size w w') {v' : Value} (ho : w'.ownsRow w.heap.size 76 3 v' k (cellsR r)) (hk : bad = false → r.length = k)
    {e : Ending} (he : e = if bad = true then .returned (.tuple #[.slice none 0 0, .int .i64 0, .int .i64 20]) else .returned (.tuple #[v', .int .i64 a, .int .i64 0])) : GetPost w bs e w' := by
  obtain ⟨t, rfl⟩ : ∃ t, bs = (cnt : Int) :: t := by
    cases bs with
    | nil => simp at hd
    | cons x t => simp at hd; exact ⟨t, by rw [hd]⟩
  refine ⟨?_, b⟩
  have e1 : decR ((cnt : Int) :: t) = decA ((cnt : Int) :: t) cnt 1 [] := by
    show (if (cnt : Int) ≤ 32 then _ else _) = _
    rw [if_pos (by omega), Int.toNat_natCast]
  rw [e1]
  unfold GetSt at hs
  cases bad with
  | true =>
    rw [if_pos rfl] at hs
    rw [hs]
    exact he
  | false =>
    rw [if_neg (by decide)] at hs
    obtain rfl : k = cnt := by rcases hb with h | h; cases h; exact h
    rw [hs.2, Nat.sub_self]
    have := hk rfl
    subst this
    exact ⟨v', he, ho⟩
set_option maxHeartbeats 400000 in
theorem get_walk {w : World} {n c : Nat} {ad : Addr} {bs : List Int} (hr : Rd1 w (some ad) n (u8s bs)) (hb : isB bs) (hab : ad.block < w.heap.size) (hnc : n ≤ c) (hc : c ≤ 9223372036854775807) (hn : n ≤ 100000) :
    Calls Try.prog 64 #[.slice (some ad) n c] w (GetPost w bs) := by
  have hl : bs.length = n := by simpa using hr.1
  have b0 : Below w.heap.size w (w.alloc (.cells #[.slice (some ad) n c, .int .i64 ((0 : Nat) : Int), .bool false] 109)) := (Below.refl _ _).alloc (Nat.le_refl _) _
  have R : Rdg (w.alloc (.cells #[.slice (some ad) n c, .int .i64 ((0 : Nat) : Int), .bool false] 109)) w.heap.size ad bs n c 0 false := ⟨hr.below b0, hb, by omega, heap_alloc_new w _, by omega, hnc, hc, hn⟩
  obtain ⟨cnt, a1, bad1, h1, hcnt⟩ := byteS_nat bs n 0 false hb hl
  have HB := Lib.hid (byte_at_ R h1)
  have HI := Lib.hid (And.intro hb (And.intro hl hab))
  have HST : bad1 = false → bs.head? = some (cnt : Int) ∧ 0 < n ∧ GetSt bs cnt 0 a1 false [] := by
    rintro rfl
    obtain ⟨h2, h3, h4⟩ := drop_of_byte hl h1
    refine ⟨by rw [List.drop_zero] at h4; rw [h4]; rfl, by omega, ?_⟩
    unfold GetSt
    rw [if_neg (by decide), Nat.sub_zero, h3]
    exact ⟨rfl, rfl⟩
  have HBAD : bad1 = true → decR bs = none ∧ cnt = 0 := by
    rintro rfl
    obtain ⟨h2, h3, h4⟩ := byte_bad_drop hl h1
    rw [List.drop_zero] at h2
    rw [h2]
    exact ⟨rfl, by omega⟩
  have HBIG : ¬ cnt ≤ 32 → decR bs = none := by
    intro h
    cases bad1 with
    | true => exact (HBAD rfl).1
    | false =>
      obtain ⟨_, _, h4⟩ := drop_of_byte hl h1
      rw [List.drop_zero] at h4
      rw [h4]
      show (if (cnt : Int) ≤ 32 then _ else _) = _
      rw [if_neg (by omega)]
  have HH := Lib.hid (And.intro HST (And.intro HBAD HBIG))
  clear HST HBAD HBIG h1 R hr b0 hb hl
  go_enter Try.func64, Try.ntmps64
  go_wp2_with (go_at_call 73; refine HB.out.mono ?_; rintro e w1 ⟨rfl, R1, t1⟩; have HR1 := Lib.hid R1; have HT1 := Lib.hid t1; obtain ⟨d1, d2, d3⟩ := R1.bcells; clear R1 t1)
  have B1 : Below w.heap.size w w1 := ((Below.refl _ w).alloc (Nat.le_refl _) _).trans (HT1.out.below (by simp) (fun k hk => by omega))
  by_cases h32 : cnt ≤ 32
  · cases bad1 with
    | true =>
      obtain ⟨h2, rfl⟩ := HH.out.2.1 rfl
      have H2 := Lib.hid (And.intro h2 B1)
      clear h2 B1
      go_loopw [7, 8] (fun o i wr => o = .slice none 0 0 ∧ i = .int .i64 ((0 : Nat) : Int) ∧ wr = w1) (fun _ i _ => 0)
      case atStart => exact ⟨rfl, rfl, rfl⟩
      case round =>
        obtain ⟨rfl, rfl, hw⟩ := hrel
        obtain rfl := hw.symm
        clear hw
        go_wp2
        go_ret3
        refine ⟨?_, H2.out.2⟩
        rw [H2.out.1]
        exact rfl
    | false =>
      obtain ⟨hh, hn0, hst⟩ := HH.out.1 rfl
      have HD := Lib.hid hh
      have HB1 := Lib.hid B1
      clear hh B1
      go_loopw [7, 8] (fun o i wr => ∃ (k a : Nat) (bad : Bool) (r : List V), k ≤ cnt ∧ i = .int .i64 k ∧ GetSt bs cnt k a bad r ∧ r.length = k ∧ wr.ownsRow w.heap.size 76 3 o k (cellsR r) ∧ Rdg wr w.heap.size ad bs n c a bad ∧ Below w.heap.size w wr) (fun _ i _ => cnt - (intOf i).toNat)
      case atStart => exact ⟨0, a1, false, [], by omega, rfl, hst, rfl, World.ownsRow_nil _ _ _ _, HR1.out, HB1.out⟩
      case round =>
        obtain ⟨k, a, bad, r, hk, rfl, hst, hrl, ho, hR, bel⟩ := hrel
        obtain ⟨d1, d2, d3⟩ := hR.bcells
        by_cases hlt : k < cnt
        · cases bad with
          | false =>
            have HV := Lib.hid (value_walk hR hn0)
            obtain ⟨A3, c3, rfl⟩ := own_slice ho
            have HO := Lib.hid (And.intro ho (And.intro hR (And.intro bel (And.intro hst hrl))))
            obtain ⟨v, hv⟩ : ∃ v, v = (valS bs n a).1 := ⟨_, rfl⟩
            have hvp := HV.out
            unfold ValPost at hvp
            rw [← hv] at hvp
            obtain ⟨vk, vn, vs⟩ := v
            dsimp only [V.val] at hvp
            have HV := Lib.hid hvp
            have HN := Lib.hid hv
            clear ho hR bel hst hrl hvp hv
            go_wp2_with (first
              | (go_at_call 74; refine HV.out.mono ?_; rintro e w2 ⟨rfl, R2, t2⟩; have HR2 := Lib.hid R2; have HT2 := Lib.hid t2; have h2 := own_turn HO.out.1 t2 (own_ne_typed HO.out.1 HO.out.2.1.at_ (by decide)); have s2 : w.heap.size ≤ w2.heap.size := Nat.le_trans HO.out.2.2.1.size t2.size; clear R2 t2)
              | (at_builtin; refine wp_append1 w.heap.size rfl (.tmp 30) (.tmp 33) 24 76 (.agg #[.int .i64 0, .int .i64 0, .string ⟨#[]⟩]) 3 32 rfl Try.underlying24 info_V rfl (by omega) (by omega) (.slice A3 k c3) k _ [.int .i64 vk, .int .i64 vn, .string vs] rfl rfl (by simp) rfl (by simp [Value.oneCell']) h2 s2 (by omega) ?_; intro v1 w3 h3 t3 _))
            have R3 := HR2.out.turn t3 (own_ne_typed h2 HR2.out.at_ (by decide) _ · rfl) (fun hS => by have := own_ge h2 hS; have := HI.out.2.2; omega)
            have B3 := below_turn (HO.out.2.2.1.trans (HT2.out.below HO.out.2.2.1.size (fun k hk => by omega))) t3 s2 (fun k hk => own_ge h2 hk)
            have S3 := GetSt.step HO.out.2.2.2.1 HI.out.1 HI.out.2.1 hlt
            rw [HN.out] at R3
            go_roundw
            case rel =>
              refine ⟨k + 1, _, _, _, by omega, by go_num, S3, ?_, ?_, R3, B3⟩
              · have := HO.out.2.2.2.2
                simp [this]
              · rw [← HN.out, cellsR_snoc]
                exact h3
            case measure => simp [intOf]; omega
          | true =>
            have HO := Lib.hid (And.intro ho (And.intro hst (And.intro bel hrl)))
            obtain ⟨A3, c3, rfl⟩ := own_slice ho
            clear ho hst bel hrl
            go_wp2
            go_ret3
            exact get_res HD.out HO.out.2.1 h32 (.inl rfl) HO.out.2.2.1 HO.out.1 (fun h => by cases h) rfl
        · obtain rfl : k = cnt := by omega
          have HO := Lib.hid (And.intro ho (And.intro hst (And.intro bel hrl)))
          obtain ⟨A3, c3, rfl⟩ := own_slice ho
          clear ho hst bel hrl
          cases bad with
          | true =>
            go_wp2
            go_ret3
            exact get_res HD.out HO.out.2.1 h32 (.inl rfl) HO.out.2.2.1 HO.out.1 (fun h => by cases h) rfl
          | false =>
            go_wp2
            go_quiet (fail)
            go_wp2
            go_ret3
            have bel := HO.out.2.2.1
            exact get_res (w' := wr.drewN _) HD.out HO.out.2.1 h32 (.inr rfl) ⟨bel.os, bel.tape, bel.output, bel.size, bel.block⟩ HO.out.1 (fun h => HO.out.2.2.2) rfl
  · have h2 := HH.out.2.2 h32
    have H2 := Lib.hid (And.intro h2 B1)
    clear h2 B1
    go_loopw [7, 8] (fun o i wr => o = .slice none 0 0 ∧ i = .int .i64 ((0 : Nat) : Int) ∧ wr = w1) (fun _ i _ => 0)
    case atStart => exact ⟨rfl, rfl, rfl⟩
    case round =>
      obtain ⟨rfl, rfl, hw⟩ := hrel
      obtain rfl := hw.symm
      clear hw
      cases bad1
      all_goals go_wp2
      all_goals go_ret3
      all_goals refine ⟨?_, H2.out.2⟩
      all_goals rw [H2.out.1]
      all_goals exact rfl
end Go.Proofs.Ytlldkdhpilcilaa
