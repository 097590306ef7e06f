/-
  No cell of these rows narrows 'for every input' (looked for: loops, veiled, ifaces, maps, wideKeys, modest, calm, conditions, laid).
  DERIVED. THE GIVEN ROWS OF THIS SEAT. 6 by the template 'for every input the law returns true; each argument reads behind the call as it read before'; 0 by the template 'total and deterministic' (their statements: YtkbapoeilcapfaaGreatTotals.lean).
  GIVEN WITH THE SEED: the statements are not yours to turn. If you find one false, say at which input.
  Laid BY PROGRAM, IN A SANDBOX (cutbox-rows.mjs): the forced cells as the released guide's own fill.sh prints them over the translation 8f874724082b2bf5… (all of the seat's roots in one cut). By AI agents, Wed Nov 11 2026. No macro, syntax, notation, axiom, sorry.
-/
import Derived.Test.YtkbapoeilcapfaaGreatChecked
import GoSem.Claim
import GoSem.ClaimJoined
import GoSem.ClaimMapViews
import Derived.JoinedTies
import Derived.KernelRfl
namespace Go.Proofs.YtkbapoeilcapfaaGreat
/- THE CELL 'sum', in the pinned program and in every row, IS THE sha256 OF THE DUMP (.gsa) THAT YtkbapoeilcapfaaGreatProg.lean LOADS. Nothing in Lean hashes anything: it is a label: what it is worth is what the hold of that sum in a sandbox is worth. -/
noncomputable def Tryz.pinned : Pinned := { name := "ytkbapoeilcapfaagreat", sum := "8f874724082b2bf5e59376b077985a376cdc3a205f07c5c19af818b101caa05b", checked := Tryz.checked }
namespace Rows
def none {H : Type} : Left H := { results := [], args := [] }

/-- 'commissarylaw19.SpillKeeps': WHATEVER THE INPUT: true; the input reads as it did. -/
def spillKeepsSpec : ChangeSpec := { name := "spillKeeps", fn := fun _ => fun
  | [d1, d2, d3, d4] => { results := [.lit (.bool true)], args := [d1, d2, d3, d4] }
  | _ => none }
def spillKeepsRow : OpenClaim := { program := "ytkbapoeilcapfaagreat", sum := "8f874724082b2bf5e59376b077985a376cdc3a205f07c5c19af818b101caa05b", func := "commissary/commissarylaw19.SpillKeeps", spec := "spillKeeps", unfollowed := true, recurses := true, apart := false }
def SpillKeepsSaid : Prop := spillKeepsRow.holds Tryz.pinned (OpenSpec.ofChange spillKeepsSpec)

/-- ITS FALSE NEIGHBOUR: 'it returns false'. Refute it at one input. -/
def spillKeepsWrong : ChangeSpec := { name := "spillKeeps", fn := fun _ => fun
  | [d1, d2, d3, d4] => { results := [.lit (.bool false)], args := [d1, d2, d3, d4] }
  | _ => none }
def SpillKeepsWrongFalsely : Prop := spillKeepsRow.holds Tryz.pinned (OpenSpec.ofChange spillKeepsWrong)

/-- 'commissarylaw19.SpillDoes': WHATEVER THE INPUT: true; the input reads as it did. -/
def spillDoesSpec : ChangeSpec := { name := "spillDoes", fn := fun _ => fun
  | [d1, d2, d3, d4] => { results := [.lit (.bool true)], args := [d1, d2, d3, d4] }
  | _ => none }
def spillDoesRow : OpenClaim := { program := "ytkbapoeilcapfaagreat", sum := "8f874724082b2bf5e59376b077985a376cdc3a205f07c5c19af818b101caa05b", func := "commissary/commissarylaw19.SpillDoes", spec := "spillDoes", unfollowed := true, recurses := true, apart := false }
def SpillDoesSaid : Prop := spillDoesRow.holds Tryz.pinned (OpenSpec.ofChange spillDoesSpec)

/-- ITS FALSE NEIGHBOUR: 'it returns false'. Refute it at one input. -/
def spillDoesWrong : ChangeSpec := { name := "spillDoes", fn := fun _ => fun
  | [d1, d2, d3, d4] => { results := [.lit (.bool false)], args := [d1, d2, d3, d4] }
  | _ => none }
def SpillDoesWrongFalsely : Prop := spillDoesRow.holds Tryz.pinned (OpenSpec.ofChange spillDoesWrong)

/-- 'commissarylaw21.FanoutSplits': WHATEVER THE INPUT: true; the input reads as it did. -/
def fanoutSplitsSpec : ChangeSpec := { name := "fanoutSplits", fn := fun _ => fun
  | [d1, d2, d3, d4, d5] => { results := [.lit (.bool true)], args := [d1, d2, d3, d4, d5] }
  | _ => none }
def fanoutSplitsRow : OpenClaim := { program := "ytkbapoeilcapfaagreat", sum := "8f874724082b2bf5e59376b077985a376cdc3a205f07c5c19af818b101caa05b", func := "commissary/commissarylaw21.FanoutSplits", spec := "fanoutSplits", unfollowed := true, recurses := true, apart := false }
def FanoutSplitsSaid : Prop := fanoutSplitsRow.holds Tryz.pinned (OpenSpec.ofChange fanoutSplitsSpec)

/-- ITS FALSE NEIGHBOUR: 'it returns false'. Refute it at one input. -/
def fanoutSplitsWrong : ChangeSpec := { name := "fanoutSplits", fn := fun _ => fun
  | [d1, d2, d3, d4, d5] => { results := [.lit (.bool false)], args := [d1, d2, d3, d4, d5] }
  | _ => none }
def FanoutSplitsWrongFalsely : Prop := fanoutSplitsRow.holds Tryz.pinned (OpenSpec.ofChange fanoutSplitsWrong)

/-- 'commissarylaw21.FanoutConcats': WHATEVER THE INPUT: true; the input reads as it did. -/
def fanoutConcatsSpec : ChangeSpec := { name := "fanoutConcats", fn := fun _ => fun
  | [d1, d2] => { results := [.lit (.bool true)], args := [d1, d2] }
  | _ => none }
def fanoutConcatsRow : OpenClaim := { program := "ytkbapoeilcapfaagreat", sum := "8f874724082b2bf5e59376b077985a376cdc3a205f07c5c19af818b101caa05b", func := "commissary/commissarylaw21.FanoutConcats", spec := "fanoutConcats", unfollowed := true, recurses := true, apart := false }
def FanoutConcatsSaid : Prop := fanoutConcatsRow.holds Tryz.pinned (OpenSpec.ofChange fanoutConcatsSpec)

/-- ITS FALSE NEIGHBOUR: 'it returns false'. Refute it at one input. -/
def fanoutConcatsWrong : ChangeSpec := { name := "fanoutConcats", fn := fun _ => fun
  | [d1, d2] => { results := [.lit (.bool false)], args := [d1, d2] }
  | _ => none }
def FanoutConcatsWrongFalsely : Prop := fanoutConcatsRow.holds Tryz.pinned (OpenSpec.ofChange fanoutConcatsWrong)

/-- 'commissarylaw21.FanoutLevels': WHATEVER THE INPUT: true; the input reads as it did. -/
def fanoutLevelsSpec : ChangeSpec := { name := "fanoutLevels", fn := fun _ => fun
  | [d1, d2, d3, d4] => { results := [.lit (.bool true)], args := [d1, d2, d3, d4] }
  | _ => none }
def fanoutLevelsRow : OpenClaim := { program := "ytkbapoeilcapfaagreat", sum := "8f874724082b2bf5e59376b077985a376cdc3a205f07c5c19af818b101caa05b", func := "commissary/commissarylaw21.FanoutLevels", spec := "fanoutLevels", unfollowed := true, recurses := true, apart := false }
def FanoutLevelsSaid : Prop := fanoutLevelsRow.holds Tryz.pinned (OpenSpec.ofChange fanoutLevelsSpec)

/-- ITS FALSE NEIGHBOUR: 'it returns false'. Refute it at one input. -/
def fanoutLevelsWrong : ChangeSpec := { name := "fanoutLevels", fn := fun _ => fun
  | [d1, d2, d3, d4] => { results := [.lit (.bool false)], args := [d1, d2, d3, d4] }
  | _ => none }
def FanoutLevelsWrongFalsely : Prop := fanoutLevelsRow.holds Tryz.pinned (OpenSpec.ofChange fanoutLevelsWrong)

/-- 'commissarylaw21.FanoutFails': WHATEVER THE INPUT: true; the input reads as it did. -/
def fanoutFailsSpec : ChangeSpec := { name := "fanoutFails", fn := fun _ => fun
  | [d1, d2, d3, d4, d5, d6] => { results := [.lit (.bool true)], args := [d1, d2, d3, d4, d5, d6] }
  | _ => none }
def fanoutFailsRow : OpenClaim := { program := "ytkbapoeilcapfaagreat", sum := "8f874724082b2bf5e59376b077985a376cdc3a205f07c5c19af818b101caa05b", func := "commissary/commissarylaw21.FanoutFails", spec := "fanoutFails", unfollowed := true, recurses := true, apart := false }
def FanoutFailsSaid : Prop := fanoutFailsRow.holds Tryz.pinned (OpenSpec.ofChange fanoutFailsSpec)

/-- ITS FALSE NEIGHBOUR: 'it returns false'. Refute it at one input. -/
def fanoutFailsWrong : ChangeSpec := { name := "fanoutFails", fn := fun _ => fun
  | [d1, d2, d3, d4, d5, d6] => { results := [.lit (.bool false)], args := [d1, d2, d3, d4, d5, d6] }
  | _ => none }
def FanoutFailsWrongFalsely : Prop := fanoutFailsRow.holds Tryz.pinned (OpenSpec.ofChange fanoutFailsWrong)

/- THE SECOND FORM. 'bulk': how many values and letters a reading holds, each counted each time it is reached (what is shared counts as often as it is met; a slice's spare places count too). A statement '..UptoSaid' is the law's where the arguments, and the package variables that the reading takes, are together of bulk at most 1048576: NARROWER than '..Said'. Prove '..Said' where nothing that the law and all that it calls make is longer than what came in: it says more and counts as full. Else prove '..UptoSaid'. A law counts once. -/
mutual
def uptoBulk {H : Type} : DataW H → Nat
  | .lit (.string bytes) => bytes.length + 1
  | .lit _ => 1
  | .nil => 1
  | .ptr d => uptoBulk d + 1
  | .slice elems spare => uptoBulkAll elems + uptoBulkAll spare + 1
  | .agg parts => uptoBulkAll parts + 1
  | .iface _ d => uptoBulk d + 1
  | .map entries => uptoBulkEntries entries + 1
  | .held _ => 1
def uptoBulkAll {H : Type} : List (DataW H) → Nat
  | [] => 0
  | d :: r => uptoBulk d + uptoBulkAll r
def uptoBulkEntries {H : Type} : List (Lit × DataW H) → Nat
  | [] => 0
  | x :: r => uptoBulkEntry x + uptoBulkEntries r
def uptoBulkEntry {H : Type} : Lit × DataW H → Nat
  | (.string bytes, d) => bytes.length + uptoBulk d + 1
  | (_, d) => uptoBulk d + 1
 end
def uptoSmall : (H : Type) → List (DataW H) → Bool := fun _ ds => decide (uptoBulkAll ds ≤ 1048576)
def OpenSpec.upto (s : _root_.Go.ChangeSpec) : _root_.Go.OpenSpec := { _root_.Go.OpenSpec.ofChange s with cond := some uptoSmall }

/-- 'commissarylaw19.SpillKeeps', WHERE WHAT IT READS IS OF BULK AT MOST 1048576: true; the input reads as it did. -/
def spillKeepsUptoRow : OpenClaim := { program := "ytkbapoeilcapfaagreat", sum := "8f874724082b2bf5e59376b077985a376cdc3a205f07c5c19af818b101caa05b", func := "commissary/commissarylaw19.SpillKeeps", spec := "spillKeeps", unfollowed := true, recurses := true, apart := false, narrowed := true }
def SpillKeepsUptoSaid : Prop := spillKeepsUptoRow.holds Tryz.pinned (OpenSpec.upto spillKeepsSpec)

/-- 'commissarylaw19.SpillDoes', WHERE WHAT IT READS IS OF BULK AT MOST 1048576: true; the input reads as it did. -/
def spillDoesUptoRow : OpenClaim := { program := "ytkbapoeilcapfaagreat", sum := "8f874724082b2bf5e59376b077985a376cdc3a205f07c5c19af818b101caa05b", func := "commissary/commissarylaw19.SpillDoes", spec := "spillDoes", unfollowed := true, recurses := true, apart := false, narrowed := true }
def SpillDoesUptoSaid : Prop := spillDoesUptoRow.holds Tryz.pinned (OpenSpec.upto spillDoesSpec)

/-- 'commissarylaw21.FanoutSplits', WHERE WHAT IT READS IS OF BULK AT MOST 1048576: true; the input reads as it did. -/
def fanoutSplitsUptoRow : OpenClaim := { program := "ytkbapoeilcapfaagreat", sum := "8f874724082b2bf5e59376b077985a376cdc3a205f07c5c19af818b101caa05b", func := "commissary/commissarylaw21.FanoutSplits", spec := "fanoutSplits", unfollowed := true, recurses := true, apart := false, narrowed := true }
def FanoutSplitsUptoSaid : Prop := fanoutSplitsUptoRow.holds Tryz.pinned (OpenSpec.upto fanoutSplitsSpec)

/-- 'commissarylaw21.FanoutConcats', WHERE WHAT IT READS IS OF BULK AT MOST 1048576: true; the input reads as it did. -/
def fanoutConcatsUptoRow : OpenClaim := { program := "ytkbapoeilcapfaagreat", sum := "8f874724082b2bf5e59376b077985a376cdc3a205f07c5c19af818b101caa05b", func := "commissary/commissarylaw21.FanoutConcats", spec := "fanoutConcats", unfollowed := true, recurses := true, apart := false, narrowed := true }
def FanoutConcatsUptoSaid : Prop := fanoutConcatsUptoRow.holds Tryz.pinned (OpenSpec.upto fanoutConcatsSpec)

/-- 'commissarylaw21.FanoutLevels', WHERE WHAT IT READS IS OF BULK AT MOST 1048576: true; the input reads as it did. -/
def fanoutLevelsUptoRow : OpenClaim := { program := "ytkbapoeilcapfaagreat", sum := "8f874724082b2bf5e59376b077985a376cdc3a205f07c5c19af818b101caa05b", func := "commissary/commissarylaw21.FanoutLevels", spec := "fanoutLevels", unfollowed := true, recurses := true, apart := false, narrowed := true }
def FanoutLevelsUptoSaid : Prop := fanoutLevelsUptoRow.holds Tryz.pinned (OpenSpec.upto fanoutLevelsSpec)

/-- 'commissarylaw21.FanoutFails', WHERE WHAT IT READS IS OF BULK AT MOST 1048576: true; the input reads as it did. -/
def fanoutFailsUptoRow : OpenClaim := { program := "ytkbapoeilcapfaagreat", sum := "8f874724082b2bf5e59376b077985a376cdc3a205f07c5c19af818b101caa05b", func := "commissary/commissarylaw21.FanoutFails", spec := "fanoutFails", unfollowed := true, recurses := true, apart := false, narrowed := true }
def FanoutFailsUptoSaid : Prop := fanoutFailsUptoRow.holds Tryz.pinned (OpenSpec.upto fanoutFailsSpec)

end Rows
end Go.Proofs.YtkbapoeilcapfaaGreat
