/- the disk: the calls beside a frame. -/
import Derived.Test.YtagknfjgokiidaaDV
namespace Go.Proofs.Ytagknfjgokiidaa
open Go.RowKit Go.Maps
set_option linter.unusedVariables false
set_option linter.unusedSimpArgs false
set_option maxRecDepth 6000

section
variable {w0 w : World} {Fr : Res} {bd : Nat} {R : Int} {F : List Int} {s : Ds}
theorem v_create (g : Good Fr) (H : In w0 w (star (DR bd R F s) Fr)) (K : DOk R s) (hm : s.made ≤ 1000000000) :
    Calls Try.prog 15 #[dp bd] w fun e w' => e = .returned (.tuple #[.int .i64 (if s.createE = 0 then s.made + 1 else 0), .int .i64 s.createE]) ∧ In w0 w' (star (DR bd R F s.create) Fr) :=
  H.call1 g fun S hS => d_create hS K hm
theorem v_del (g : Good Fr) (H : In w0 w (star (DR bd R F s) Fr)) (K : DOk R s) {n : Int} (hw : (Lit.int .i64 n).wf = true) :
    Calls Try.prog 18 #[dp bd, .int .i64 n] w fun e w' => e = .returned (.int .i64 (s.delE n)) ∧ In w0 w' (star (DR bd R F (s.del n)) Fr) :=
  H.call1 g fun S hS => d_del hS K hw
/-- The bytes stand in the frame. -/
theorem v_app {A : Option Addr} {k c : Nat} {p : Pg} {n : Int} (g : Good Fr) (H : In w0 w (star (DR bd R F s) (star (rowR 5 1 (.slice A k c) k (b8 p)) Fr))) (K : DOk R s) (hd : s.deeds ≤ 1000000000) (hw : (Lit.int .i64 n).wf = true) :
    Calls Try.prog 16 #[dp bd, .int .i64 n, .slice A k c] w fun e w' => e = .returned (.int .i64 (s.appE R F n p)) ∧ In w0 w' (star (DR bd R F (s.app R F n p)) (star (rowR 5 1 (.slice A k c) k (b8 p)) Fr)) := by
  refine H.callF1 (star_good (rowR_good _ _ _ _ _) g) fun S1 S2 h1 h2 hd2 _ => ?_
  obtain ⟨T1, T2, ⟨ho, rfl⟩, h4, hd3, hs⟩ := h2
  exact d_app h1 K hd hw (RdBy.of_own ho) (fun ad e hS => hd2 _ hS ((hs _).2 (.inl (by rw [e]; rfl))))
/-- The bytes lie below. -/
theorem v_app0 {A : Option Addr} {k c : Nat} {p : Pg} {n : Int} (g : Good Fr) (H : In w0 w (star (DR bd R F s) Fr)) (K : DOk R s) (hd : s.deeds ≤ 1000000000) (hw : (Lit.int .i64 n).wf = true) (hp : RdBy w0 A k p) :
    Calls Try.prog 16 #[dp bd, .int .i64 n, .slice A k c] w fun e w' => e = .returned (.int .i64 (s.appE R F n p)) ∧ In w0 w' (star (DR bd R F (s.app R F n p)) Fr) := by
  refine H.callF1 g fun S1 S2 h1 h2 hd2 hge => ?_
  by_cases hk : 0 < k
  · obtain ⟨ad, rfl, ha⟩ := hp.2 hk
    refine d_app h1 K hd hw (hp.below H.bel) (fun ad' e hS => ?_)
    injection e with e
    subst e
    have := hge _ hS
    have := ha.1
    omega
  · obtain ⟨bm, bf, V, h, rfl⟩ := h1
    have e : s.appE R F n p = 1 := by unfold Ds.appE; exact if_pos (by rw [hp.1]; omega)
    have e2 : s.app R F n p = s := by unfold Ds.app; rw [e, if_neg (by decide), if_neg (by decide)]
    rw [e, e2]
    refine (dapp_arg h hw (by omega)).mono ?_
    rintro e w' ⟨rfl, rfl⟩
    exact ⟨rfl, Ch.same (DR_good _ _ _ _) ⟨_, _, _, h, rfl⟩ (Below.refl _ _)⟩
theorem v_read {n i : Int} (g : Good Fr) (H : In w0 w (star (DR bd R F s) Fr)) (K : DOk R s) (hd : s.deeds ≤ 1000000000) (hw : (Lit.int .i64 n).wf = true) :
    Calls Try.prog 20 #[dp bd, .int .i64 n, .int .i64 i] w fun e w' => ∃ v : Option Addr × Nat × Nat, e = .returned (.tuple #[.slice v.1 v.2.1 v.2.2, .int .i64 (s.readE F n i)]) ∧ In w0 w' (star (DR bd R F (s.read F n i)) (star (rowR 5 1 (.slice v.1 v.2.1 v.2.2) v.2.1 (b8 (s.readQ F n i))) Fr)) := by
  refine (H.call g (Q := fun (v : Option Addr × Nat × Nat) e => e = .returned (.tuple #[.slice v.1 v.2.1 v.2.2, .int .i64 (s.readE F n i)])) fun S hS => d_read hS K hd hw).mono ?_
  rintro e w' ⟨v, h1, h2⟩
  exact ⟨v, h1, h2.assoc⟩
theorem v_size {n : Int} (g : Good Fr) (H : In w0 w (star (DR bd R F s) Fr)) (hw : (Lit.int .i64 n).wf = true) :
    Calls Try.prog 19 #[dp bd, .int .i64 n] w fun e w' => e = .returned (.tuple #[.int .i64 ((s.find n).elim 0 fun l => (l.length : Int)), .int .i64 (if (s.find n).isSome then 0 else 4)]) ∧ w' = w :=
  H.left.get fun S h1 => d_size h1 hw
theorem v_files (g : Good Fr) (H : In w0 w (star (DR bd R F s) Fr)) (K : DOk R s) : Calls Try.prog 23 #[dp bd] w fun e w' => ∃ A c, e = .returned (.slice A s.fs.length c) ∧ In w0 w' (star (DR bd R F s) (star (rowR 3 1 (.slice A s.fs.length c) s.fs.length (s.fs.map fun x => Value.int .i64 x.1)) Fr)) :=
  H.left.get fun S h1 => (d_files h1 K).mono fun e w' ⟨A, c, e1, ho, b⟩ => ⟨A, c, e1, ((H.row (star_good (DR_good _ _ _ _) g) b ho).assoc).imp fun S h => star_mono h (fun _ => id) (fun _ => star_comm)⟩
end
end Go.Proofs.Ytagknfjgokiidaa
