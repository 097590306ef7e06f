/- the disk: Size, Deeds, Meter, Create, Delete. -/
import Derived.Test.YtagknfjgokiidaaDF
namespace Go.Proofs.Ytagknfjgokiidaa
open Go.RowKit Go.Maps
set_option linter.unusedVariables false
set_option linter.unusedSimpArgs false
set_option maxRecDepth 6000

section
variable {w : World} {bd bm bf : Nat} {V : Int → Value} {R : Int} {F : List Int} {s : Ds}
theorem dlook_no (H : Dsk w bd bm bf V R F s) {n : Int} (hw : (Lit.int .i64 n).wf = true) (hf : s.find n = none) :
    (Instr.lookup 65 (.map (some bm)) (.int .i64 n) true).run Try.prog w = .ok (.tuple #[.slice none 0 0, .bool false]) w := by
  have := look_ok H.map hw
  rw [find_map, hf] at this
  exact this
theorem dlook_yes (H : Dsk w bd bm bf V R F s) {n : Int} (hw : (Lit.int .i64 n).wf = true) {l : List Pg} (hf : s.find n = some l) :
    ∃ A c, V n = .slice A l.length c ∧ (Instr.lookup 65 (.map (some bm)) (.int .i64 n) true).run Try.prog w = .ok (.tuple #[.slice A l.length c, .bool true]) w ∧ (Instr.lookup 65 (.map (some bm)) (.int .i64 n) false).run Try.prog w = .ok (.slice A l.length c) w := by
  have h1 := look_ok H.map hw
  have h2 := look_v H.map hw
  rw [find_map, hf] at h1 h2
  obtain ⟨A, c, e⟩ := own_slice (H.row _ (Ds.find_mem hf))
  dsimp only at e
  simp only [Option.map_some, Option.getD_some, Option.isSome_some] at h1 h2
  rw [e] at h1 h2
  exact ⟨A, c, e, h1, h2⟩
theorem dsize_no (H : Dsk w bd bm bf V R F s) {n : Int} (hw : (Lit.int .i64 n).wf = true) (hf : s.find n = none) :
    Calls Try.prog 19 #[dp bd, .int .i64 n] w fun e w' => e = .returned (.tuple #[.int .i64 0, .int .i64 4]) ∧ w' = w := by
  have HR := Lib.hid (dready H)
  have hrun := dlook_no H hw hf
  obtain ⟨c0, c1, c2, c3, c4, c5, c6, c7, c8, hb⟩ := H.cells
  clear H hf
  go_enter Try.func19, Try.ntmps19
  go_wp2_with (go_at_call 42; refine HR.out.mono ?_; rintro e w1 ⟨rfl, hw⟩; obtain rfl := hw.symm; clear hw)
  go_ret2
  exact ⟨by trivial, rfl⟩
theorem dsize_yes (H : Dsk w bd bm bf V R F s) {n : Int} (hw : (Lit.int .i64 n).wf = true) {l : List Pg} (hf : s.find n = some l) :
    Calls Try.prog 19 #[dp bd, .int .i64 n] w fun e w' => e = .returned (.tuple #[.int .i64 (l.length : Int), .int .i64 0]) ∧ w' = w := by
  have HR := Lib.hid (dready H)
  obtain ⟨A, c, _, hrun, _⟩ := dlook_yes H hw hf
  obtain ⟨c0, c1, c2, c3, c4, c5, c6, c7, c8, hb⟩ := H.cells
  clear H hf
  go_enter Try.func19, Try.ntmps19
  go_wp2_with (go_at_call 42; refine HR.out.mono ?_; rintro e w1 ⟨rfl, hw⟩; obtain rfl := hw.symm; clear hw)
  go_ret2
  exact ⟨by trivial, rfl⟩
theorem dcreate_full (H : Dsk w bd bm bf V R F s) (h : 32768 ≤ s.fs.length) : Calls Try.prog 15 #[dp bd] w fun e w' => e = .returned (.tuple #[.int .i64 0, .int .i64 2]) ∧ w' = w := by
  have HR := Lib.hid (dready H)
  have hlen := World.ownsMap.len (w := w) H.map Try.underlying65 3
  rw [mOf_size, List.length_map] at hlen
  obtain ⟨c0, c1, c2, c3, c4, c5, c6, c7, c8, hb⟩ := H.cells
  obtain ⟨m, hm⟩ : ∃ m, m = s.fs.length := ⟨_, rfl⟩
  rw [← hm] at hlen h
  have h' : decide ((m : Int) ≥ 32768) = true := by simp; omega
  clear H hm h
  go_enter Try.func15, Try.ntmps15
  go_wp2_with (go_at_call 42; refine HR.out.mono ?_; rintro e w1 ⟨rfl, hw⟩; obtain rfl := hw.symm; clear hw)
  go_ret2
  exact ⟨by trivial, rfl⟩
end
end Go.Proofs.Ytagknfjgokiidaa
