/- the disk: ready, deed, Size, Deeds, Meter, Create. -/
import Derived.Test.YtagknfjgokiidaaDB
import Derived.BigRegion
import Derived.Laws.Rows
namespace Go.Proofs.Ytagknfjgokiidaa
open Go.RowKit Go.Maps
set_option linter.unusedVariables false
set_option linter.unusedSimpArgs false

theorem Turn.cell {S : Nat → Prop} {w w' : World} (h : Turn S w w') (b i : Nat) (u : Value) (hb : S b) : Turn S w (w'.setCell ⟨b, i, none⟩ u) := h.setCell (p := ⟨b, i, none⟩) (.inl hb) u
theorem neqMapD (bm : Nat) (w : World) : (binOp .neq 65 (.map (some bm)) (.map none)).run Try.prog w = .ok (.bool true) w := by kernel_rfl
theorem dready_nil (w : World) : Calls Try.prog 42 #[.pointer none] w fun e w' => e = .returned (.bool false) ∧ w' = w := by
  go_enter Try.func42, Try.ntmps42
  go_wp2
  go_ret
  exact ⟨rfl, rfl⟩
section
variable {w : World} {bd bm bf : Nat} {V : Int → Value} {R : Int} {F : List Int} {s : Ds}
theorem dready (H : Dsk w bd bm bf V R F s) : Calls Try.prog 42 #[dp bd] w fun e w' => e = .returned (.bool true) ∧ w' = w := by
  obtain ⟨c0, c1, c2, c3, c4, c5, c6, c7, c8, hb⟩ := H.cells
  have hn := neqMapD bm w
  clear H
  go_enter Try.func42, Try.ntmps42
  go_wp2
  go_ret
  exact ⟨rfl, rfl⟩
/-- Numbers of the disk have turned. -/
theorem Dsk.upd {w' : World} {s' : Ds} (H : Dsk w bd bm bf V R F s) (ht : Turn (fun k => k = bd) w w') (ho : w'.heap[bd]? = some (dskObj bm bf R s')) (hf : s'.fs = s.fs) : Dsk w' bd bm bf V R F s' := by
  obtain ⟨n1, n2, n3⟩ := H.nes
  refine ⟨ho, ?_, H.flt.turn ht (fun e => n2 e.symm), H.ne, ?_, ?_⟩
  · rw [hf]
    exact H.map.turn ht (fun e => n1 e.symm)
  · rw [hf]
    exact fun x hx => own_turn (H.row x hx) ht (fun k hk => (n3 x hx k hk).1)
  · rw [hf]
    exact H.sep
def DeedP (w : World) (bd bm bf : Nat) (V : Int → Value) (R : Int) (F : List Int) (s : Ds) (w' : World) : Prop :=
  Dsk w' bd bm bf V R F s.deed_ ∧ Turn (fun k => k = bd) w w'
theorem deed_post (H : Dsk w bd bm bf V R F s) (m : Nat) : DeedP w bd bm bf V R F s ((w.setCell ⟨bd, 3, none⟩ (.int .i64 (s.deeds + 1))).drewN m) := by
  have ht : Turn (fun k => k = bd) w ((w.setCell ⟨bd, 3, none⟩ (.int .i64 (s.deeds + 1))).drewN m) := ((Turn.refl (fun k => k = bd) w).cell bd 3 _ rfl).drewN m
  exact ⟨H.upd ht (blk_set H.dsk 3 _) rfl, ht⟩
set_option maxRecDepth 6000 in
theorem deed_walk (H : Dsk w bd bm bf V R F s) (h0 : 0 ≤ s.deeds) (h1 : s.deeds ≤ 1000000000) :
    Calls Try.prog 43 #[dp bd] w fun e w' => e = .returned (.int .i64 (if F.contains (s.deeds + 1) then 50 else 0)) ∧ DeedP w bd bm bf V R F s w' := by
  have hp := fun m => deed_post H m
  obtain ⟨c0, c1, c2, c3, c4, c5, c6, c7, c8, hb⟩ := H.cells
  obtain ⟨f2, f3, _⟩ := H.frees
  have HT : Turn (fun k => k = bd) w (w.setCell ⟨bd, 3, none⟩ (.int .i64 (s.deeds + 1))) := (Turn.refl (fun k => k = bd) w).cell bd 3 _ rfl
  have hl := fun m => Flt.look (H.flt.turn (HT.drewN m) (fun e => H.nes.2.1 e.symm)) (n := s.deeds + 1) (WalkArith.wf_i64 (by omega))
  have hl0 := hl 1
  have HP := Lib.hid (show DeedP w bd bm bf V R F s (w.setCell ⟨bd, 3, none⟩ (.int .i64 (s.deeds + 1))).drew from hp 1)
  obtain ⟨b, hbb⟩ : ∃ b, b = F.contains (s.deeds + 1) := ⟨_, rfl⟩
  rw [← hbb] at hl0 ⊢
  have hl1 : (Instr.lookup 66 (.map (some bf)) (.int .i64 (s.deeds + 1)) false).run Try.prog (w.setCell ⟨bd, 3, none⟩ (.int .i64 (s.deeds + 1))).drew = .ok (.bool b) (w.setCell ⟨bd, 3, none⟩ (.int .i64 (s.deeds + 1))).drew := hl0
  clear hl hl0 hp H HT hbb
  cases b with
  | false =>
    go_enter Try.func43, Try.ntmps43
    go_wp2
    go_region
    all_goals
      go_wp2
      go_ret
      exact ⟨by trivial, HP.out⟩
  | true =>
    go_enter Try.func43, Try.ntmps43
    go_wp2
    go_region
    all_goals
      go_wp2
      go_ret
      exact ⟨by trivial, HP.out⟩
end
end Go.Proofs.Ytagknfjgokiidaa
