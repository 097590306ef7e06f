/- lives: the queue of texts. -/
import Derived.Test.YtncapimnlgncpaaQBS
import Derived.Test.YtncapimnlgncpaaQBI
namespace Go.Proofs.Ytncapimnlgncpaa
open Go.Conc Go.RowKit

theorem lives_true (w : World) : Calls Try.prog 8 #[] w fun e w' => e = .returned (.bool true) ∧ Below w.heap.size w w' := by
  have hn := QS.new_ok 2 w (by omega) (by omega)
  rw [show ((2 : Nat) : Int) = 2 from rfl] at hn
  go_enter Try.func8, Try.ntmps8
  go_wp2_with fail
  refine hn.mono ?_
  rintro e w1 ⟨g, c, rfl, hg, hc, h1, hb1⟩
  clear hn
  go_wp2_with fail
  refine (QS.put_room h1 (by simp) _).mono ?_
  rintro e w2 ⟨rfl, h2, t2⟩
  go_wp2_with fail
  refine (QS.put_room h2 (by simp) _).mono ?_
  rintro e w3 ⟨rfl, h3, t3⟩
  go_wp2_with fail
  refine (QS.put_full h3 (by simp) _).mono ?_
  rintro e w4 ⟨rfl, rfl⟩
  go_wp2_with fail
  refine (QS.take_some _ _ h3).mono ?_
  rintro e w4 ⟨rfl, h4, t4⟩
  go_wp2_with fail
  refine (QS.len_at h4).mono ?_
  rintro e w5 ⟨rfl, rfl⟩
  go_wp2_with fail
  refine (QS.room_open h4 (by simp) (by omega)).mono ?_
  rintro e w5 ⟨rfl, m, rfl⟩
  go_wp2_with fail
  refine (QS.close_open (w := w4.drewN m) h4).mono ?_
  rintro e w5 ⟨rfl, h5, t5⟩
  go_wp2_with fail
  refine (QS.close_shut h5).mono ?_
  rintro e w6 ⟨rfl, rfl⟩
  go_wp2_with fail
  refine (QS.put_closed h5 _).mono ?_
  rintro e w6 ⟨rfl, rfl⟩
  go_wp2_with fail
  refine (QS.all_at [_] (by simp) h5).mono ?_
  rintro e w6 ⟨v, rfl, ho, h6, t6⟩
  go_wp2_with fail
  refine (QS.take_empty h6).mono ?_
  rintro e w7 ⟨rfl, rfl⟩
  go_wp2_with fail
  refine (QI.new_bad 0 _ (by omega)).mono ?_
  rintro e w7 ⟨rfl, rfl⟩
  obtain ⟨gr, cap, rfl, _, _⟩ := ho.form (by simp)
  have hcell : w6.cell? ⟨gr, 0, none⟩ = some (.string ⟨#[121]⟩) := ho.cells (g := gr) rfl 0 _ rfl
  go_wp2_with (go_at_call 29; refine (QS.closed_at h6).mono ?_; rintro e w7 ⟨rfl, rfl⟩)
  go_ret
  refine ⟨rfl, ?_⟩
  have S0 := hb1.size
  have b5 : Turn (fun k => k = g ∨ k = c) w1 w5 := ((((t2.mono (fun _ h => .inr h)).then_ t3 (fun _ h => .inl (.inr h))).then_ t4 (fun _ h => .inl (.inr h))).drewN m).trans t5
  exact below_turn hb1 (b5.then_ t6 (fun _ h => .inl (.inr h))) S0 (fun k h => by rcases h with rfl | rfl <;> assumption)
end Go.Proofs.Ytncapimnlgncpaa
