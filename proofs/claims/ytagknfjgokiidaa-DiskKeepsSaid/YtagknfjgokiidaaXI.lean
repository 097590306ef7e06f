/- the document's disk: its calls beside a frame. -/
import Derived.Test.YtagknfjgokiidaaXH
import Derived.Test.YtagknfjgokiidaaDC
namespace Go.Proofs.Ytagknfjgokiidaa
open Go.RowKit
set_option linter.unusedVariables false
set_option linter.unusedSimpArgs false
set_option maxRecDepth 6000

section
variable {w : World} {S : Nat → Prop} {bx : Nat} {R : Int} {F : List Int} {s : Ds}
theorem x_create (H : XR bx R F s w S) (K : DOk R s) (hm : s.made ≤ 1000000000) :
    Calls Try.prog 37 #[dp bx] w fun e w' => e = .returned (.tuple #[.int .i64 (if s.createE = 0 then s.made + 1 else 0), .int .i64 s.createE]) ∧ Ch w S (XR bx R F s.create) w' := by
  obtain ⟨FV, LV, P, Hd, h, rfl⟩ := H
  by_cases hl : 32768 ≤ s.fs.length
  · have e : s.createE = 2 := if_pos hl
    unfold Ds.create
    rw [e]
    refine (xcreate_full h hl).mono ?_
    rintro e w' ⟨rfl, rfl⟩
    exact ⟨rfl, Ch.same (XR_good _ _ _ _) ⟨_, _, _, _, h, rfl⟩ (Below.refl _ _)⟩
  · have e : s.createE = 0 := if_neg hl
    unfold Ds.create
    rw [e]
    exact xcreate_ok h (by omega) K.made hm (fun x hx => (K.num x hx).2)
theorem x_del (H : XR bx R F s w S) (K : DOk R s) {n : Int} :
    Calls Try.prog 40 #[dp bx, .int .i64 n] w fun e w' => e = .returned (.int .i64 (s.delE n)) ∧ Ch w S (XR bx R F (s.del n)) w' := by
  obtain ⟨FV, LV, P, Hd, h, rfl⟩ := H
  cases hf : s.find n with
  | none =>
    have e : s.delE n = 4 := by unfold Ds.delE; rw [hf]
    have e2 : s.del n = s := by unfold Ds.del; rw [hf]
    rw [e, e2]
    refine (xdel_no h K.len hf).mono ?_
    rintro e w' ⟨rfl, rfl⟩
    exact ⟨rfl, Ch.same (XR_good _ _ _ _) ⟨_, _, _, _, h, rfl⟩ (Below.refl _ _)⟩
  | some l =>
    have e : s.delE n = 0 := by unfold Ds.delE; rw [hf]
    rw [e]
    exact xdel_yes h K hf
theorem x_app (H : XR bx R F s w S) (K : DOk R s) (hd : s.deeds ≤ 1000000000) (hF : F.length ≤ 9223372036854775807) {n : Int} {A : Option Addr} {k c : Nat} {p : Pg} (hp : RdBy w A k p) (hne : ∀ ad, A = some ad → ¬ S ad.block) :
    Calls Try.prog 38 #[dp bx, .int .i64 n, .slice A k c] w fun e w' => e = .returned (.int .i64 (s.appE R F n p)) ∧ Ch w S (XR bx R F (s.app R F n p)) w' := by
  obtain ⟨FV, LV, P, Hd, h, rfl⟩ := H
  have same : Ch w (XS bx FV LV P Hd s) (XR bx R F s) w := Ch.same (XR_good _ _ _ _) ⟨_, _, _, _, h, rfl⟩ (Below.refl _ _)
  have hkeep : ∀ {E : Int}, s.appE R F n p = E → E ≠ 0 → E ≠ 50 → s.app R F n p = s := fun e h1 h2 => by unfold Ds.app; rw [e, if_neg h1, if_neg h2]
  by_cases hk : k = 256
  · subst hk
    have hl : p.length = 256 := hp.1
    cases hf : s.find n with
    | none =>
      have e : s.appE R F n p = 4 := by unfold Ds.appE; rw [if_neg (by omega), hf]
      rw [hkeep e (by decide) (by decide), e]
      refine (xapp_none h K.len hf).mono ?_
      rintro e w' ⟨rfl, rfl⟩
      exact ⟨rfl, same⟩
    | some l =>
      by_cases hu : R ≤ s.used
      · have e : s.appE R F n p = 2 := by unfold Ds.appE; rw [if_neg (by omega), hf]; exact if_pos hu
        rw [hkeep e (by decide) (by decide), e]
        refine (xapp_full h K.len hf hu).mono ?_
        rintro e w' ⟨rfl, b⟩
        exact ⟨rfl, Ch.same (XR_good _ _ _ _) ⟨_, _, _, _, h, rfl⟩ b⟩
      · cases hc : F.contains (s.deeds + 1) with
        | true =>
          have e : s.appE R F n p = 50 := by unfold Ds.appE; rw [if_neg (by omega), hf]; dsimp only; rw [if_neg hu, hc]; rfl
          have e2 : s.app R F n p = s.deed_ := by unfold Ds.app; rw [e, if_neg (by decide), if_pos rfl]
          rw [e, e2]
          exact xapp_fault h K hd hF hf (by omega) hc
        | false =>
          have e : s.appE R F n p = 0 := by unfold Ds.appE; rw [if_neg (by omega), hf]; dsimp only; rw [if_neg hu, hc]; rfl
          have e2 : s.app R F n p = ⟨s.made, s.deeds + 1, s.reads, s.writes + 1, s.used + 1, max s.peak (s.used + 1), addPg s.fs n p⟩ := by unfold Ds.app; rw [if_pos e]
          rw [e, e2]
          obtain ⟨ad, rfl, ha⟩ := hp.2 (by omega)
          exact xapp_ok h K hd hF hf (by omega) hc ha hl (fun e => hne ad rfl (.inl e))
  · have e : s.appE R F n p = 1 := by unfold Ds.appE; exact if_pos (by rw [hp.1]; exact hk)
    rw [hkeep e (by decide) (by decide), e]
    refine (xapp_arg h K.len hk).mono ?_
    rintro e w' ⟨rfl, rfl⟩
    exact ⟨rfl, same⟩
theorem x_read (H : XR bx R F s w S) (K : DOk R s) (hd : s.deeds ≤ 1000000000) (hF : F.length ≤ 9223372036854775807) {n i : Int} :
    Calls Try.prog 39 #[dp bx, .int .i64 n, .int .i64 i] w fun e w' => ∃ v : Option Addr × Nat × Nat, e = .returned (.tuple #[.slice v.1 v.2.1 v.2.2, .int .i64 (s.readE F n i)]) ∧ Ch w S (star (XR bx R F (s.read F n i)) (rowR 5 1 (.slice v.1 v.2.1 v.2.2) v.2.1 (b8 (s.readQ F n i)))) w' := by
  obtain ⟨FV, LV, P, Hd, h, rfl⟩ := H
  have same : Ch w (XS bx FV LV P Hd s) (XR bx R F s) w := Ch.same (XR_good _ _ _ _) ⟨_, _, _, _, h, rfl⟩ (Below.refl _ _)
  have none4 : s.readE F n i = 4 → (Calls Try.prog 39 #[dp bx, .int .i64 n, .int .i64 i] w fun e w' => e = .returned (.tuple #[.slice none 0 0, .int .i64 4]) ∧ w' = w) → Calls Try.prog 39 #[dp bx, .int .i64 n, .int .i64 i] w fun e w' => ∃ v : Option Addr × Nat × Nat, e = .returned (.tuple #[.slice v.1 v.2.1 v.2.2, .int .i64 (s.readE F n i)]) ∧ Ch w (XS bx FV LV P Hd s) (star (XR bx R F (s.read F n i)) (rowR 5 1 (.slice v.1 v.2.1 v.2.2) v.2.1 (b8 (s.readQ F n i)))) w' := by
    intro e hc
    have e2 : s.read F n i = s := by unfold Ds.read; rw [e, if_neg (by decide), if_neg (by decide)]
    have e3 : s.readQ F n i = [] := by unfold Ds.readQ; rw [e, if_neg (by decide)]
    rw [e, e2, e3]
    refine hc.mono ?_
    rintro e w' ⟨rfl, rfl⟩
    exact ⟨(none, 0, 0), rfl, same.plus_nil _⟩
  cases hf : s.find n with
  | none => exact none4 (by unfold Ds.readE; rw [hf]) (xread_no h K.len (.inl hf))
  | some l =>
    by_cases hi : i < 0
    · exact none4 (by unfold Ds.readE; rw [hf]; exact if_pos (.inl hi)) (xread_no h K.len (.inr hi))
    · by_cases hl : (l.length : Int) ≤ i
      · exact none4 (by unfold Ds.readE; rw [hf]; exact if_pos (.inr hl)) (xread_long h K.len hf (by omega) hl)
      · cases hc : F.contains (s.deeds + 1) with
        | true =>
          have e : s.readE F n i = 50 := by unfold Ds.readE; rw [hf]; dsimp only; rw [if_neg (by omega), hc]; rfl
          have e2 : s.read F n i = s.deed_ := by unfold Ds.read; rw [e, if_neg (by decide), if_pos rfl]
          have e3 : s.readQ F n i = [] := by unfold Ds.readQ; rw [e, if_neg (by decide)]
          rw [e, e2, e3]
          refine (xread_fault h K hd hF hf (by omega) (by omega) hc).mono ?_
          rintro e w' ⟨rfl, hc⟩
          exact ⟨(none, 0, 0), rfl, hc.plus_nil _⟩
        | false =>
          have e : s.readE F n i = 0 := by unfold Ds.readE; rw [hf]; dsimp only; rw [if_neg (by omega), hc]; rfl
          obtain ⟨j, rfl⟩ : ∃ j : Nat, i = (j : Int) := ⟨i.toNat, by omega⟩
          obtain ⟨p, hp⟩ : ∃ p, l[j]? = some p := ⟨_, List.getElem?_eq_getElem (by omega)⟩
          have e2 : s.read F n (j : Int) = ⟨s.made, s.deeds + 1, s.reads + 1, s.writes, s.used, s.peak, s.fs⟩ := by unfold Ds.read; rw [if_pos e]
          have e3 : s.readQ F n (j : Int) = p := by
            unfold Ds.readQ Ds.readP
            rw [if_pos e, hf, Option.getD_some, List.getD_eq_getElem?_getD, Int.toNat_natCast, hp]
            rfl
          rw [e, e2, e3]
          refine (xread_ok h K hd hF hf hp hc).mono ?_
          rintro e w' ⟨v, rfl, hc⟩
          exact ⟨(v.1, 256, v.2), rfl, hc⟩
theorem x_at (H : XR bx R F s w S) (K : DOk R s) (n : Int) : Calls Try.prog 41 #[dp bx, .int .i64 n] w fun e w' => e = .returned (.int .i64 (s.at_ n)) ∧ w' = w := by
  obtain ⟨FV, LV, P, Hd, h, rfl⟩ := H
  exact xat h K.len n
end
section
variable {w0 w : World} {Fr : Res} {bx : Nat} {R : Int} {F : List Int} {s : Ds}
theorem y_create (g : Good Fr) (H : In w0 w (star (XR bx R F s) Fr)) (K : DOk R s) (hm : s.made ≤ 1000000000) :
    Calls Try.prog 37 #[dp bx] w fun e w' => e = .returned (.tuple #[.int .i64 (if s.createE = 0 then s.made + 1 else 0), .int .i64 s.createE]) ∧ In w0 w' (star (XR bx R F s.create) Fr) :=
  H.call1 g fun S hS => x_create hS K hm
theorem y_del (g : Good Fr) (H : In w0 w (star (XR bx R F s) Fr)) (K : DOk R s) {n : Int} :
    Calls Try.prog 40 #[dp bx, .int .i64 n] w fun e w' => e = .returned (.int .i64 (s.delE n)) ∧ In w0 w' (star (XR bx R F (s.del n)) Fr) :=
  H.call1 g fun S hS => x_del hS K
/-- The bytes stand in the frame. -/
theorem y_app {A : Option Addr} {k c : Nat} {p : Pg} {n : Int} (g : Good Fr) (H : In w0 w (star (XR bx R F s) (star (rowR 5 1 (.slice A k c) k (b8 p)) Fr))) (K : DOk R s) (hd : s.deeds ≤ 1000000000) (hF : F.length ≤ 9223372036854775807) :
    Calls Try.prog 38 #[dp bx, .int .i64 n, .slice A k c] w fun e w' => e = .returned (.int .i64 (s.appE R F n p)) ∧ In w0 w' (star (XR bx R F (s.app R F n p)) (star (rowR 5 1 (.slice A k c) k (b8 p)) Fr)) := by
  refine H.callF1 (star_good (rowR_good _ _ _ _ _) g) fun S1 S2 h1 h2 hd2 _ => ?_
  obtain ⟨T1, T2, ⟨ho, rfl⟩, h4, hd3, hs⟩ := h2
  exact x_app h1 K hd hF (RdBy.of_own ho) (fun ad e hS => hd2 _ hS ((hs _).2 (.inl (by rw [e]; rfl))))
/-- The bytes lie below. -/
theorem y_app0 {A : Option Addr} {k c : Nat} {p : Pg} {n : Int} (g : Good Fr) (H : In w0 w (star (XR bx R F s) Fr)) (K : DOk R s) (hd : s.deeds ≤ 1000000000) (hF : F.length ≤ 9223372036854775807) (hp : RdBy w0 A k p) :
    Calls Try.prog 38 #[dp bx, .int .i64 n, .slice A k c] w fun e w' => e = .returned (.int .i64 (s.appE R F n p)) ∧ In w0 w' (star (XR bx R F (s.app R F n p)) Fr) := by
  refine H.callF1 g fun S1 S2 h1 h2 hd2 hge => ?_
  by_cases hk : 0 < k
  · obtain ⟨ad, rfl, ha⟩ := hp.2 hk
    refine x_app h1 K hd hF (hp.below H.bel) (fun ad' e hS => ?_)
    injection e with e
    subst e
    have := hge _ hS
    have := ha.1
    omega
  · obtain ⟨FV, LV, P, Hd, h, rfl⟩ := h1
    have e : s.appE R F n p = 1 := by unfold Ds.appE; exact if_pos (by rw [hp.1]; omega)
    have e2 : s.app R F n p = s := by unfold Ds.app; rw [e, if_neg (by decide), if_neg (by decide)]
    rw [e, e2]
    refine (xapp_arg h K.len (by omega)).mono ?_
    rintro e w' ⟨rfl, rfl⟩
    exact ⟨rfl, Ch.same (XR_good _ _ _ _) ⟨_, _, _, _, h, rfl⟩ (Below.refl _ _)⟩
theorem y_read {n i : Int} (g : Good Fr) (H : In w0 w (star (XR bx R F s) Fr)) (K : DOk R s) (hd : s.deeds ≤ 1000000000) (hF : F.length ≤ 9223372036854775807) :
    Calls Try.prog 39 #[dp bx, .int .i64 n, .int .i64 i] w fun e w' => ∃ v : Option Addr × Nat × Nat, e = .returned (.tuple #[.slice v.1 v.2.1 v.2.2, .int .i64 (s.readE F n i)]) ∧ In w0 w' (star (XR bx R F (s.read F n i)) (star (rowR 5 1 (.slice v.1 v.2.1 v.2.2) v.2.1 (b8 (s.readQ F n i))) Fr)) := by
  refine (H.call g (Q := fun (v : Option Addr × Nat × Nat) e => e = .returned (.tuple #[.slice v.1 v.2.1 v.2.2, .int .i64 (s.readE F n i)])) fun S hS => x_read hS K hd hF).mono ?_
  rintro e w' ⟨v, h1, h2⟩
  exact ⟨v, h1, h2.assoc⟩
theorem y_at (H : In w0 w (star (XR bx R F s) Fr)) (K : DOk R s) (n : Int) : Calls Try.prog 41 #[dp bx, .int .i64 n] w fun e w' => e = .returned (.int .i64 (s.at_ n)) ∧ w' = w :=
  H.left.get fun S h1 => x_at h1 K n
end
end Go.Proofs.Ytagknfjgokiidaa
