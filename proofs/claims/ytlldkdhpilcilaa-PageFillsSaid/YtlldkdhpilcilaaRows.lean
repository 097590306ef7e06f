/-
  No cell of these rows narrows 'for every input' (looked for: loops, veiled, ifaces, maps, wideKeys, modest, calm, conditions, laid).
  DERIVED. THE GIVEN ROWS OF THIS SEAT. 10 by the template 'for every input the law returns true; each argument reads behind the call as it read before'; 0 by the template 'total and deterministic' (their statements: YtlldkdhpilcilaaTotals.lean).
  GIVEN WITH THE SEED: the statements are not yours to turn. If you find one false, say at which input.
  Laid BY PROGRAM, IN A SANDBOX (cutbox-rows.mjs): the forced cells as the released guide's own fill.sh prints them over the translation dae6984ce9550b2d… (all of the seat's roots in one cut). By AI agents, Wed Nov 11 2026. No macro, syntax, notation, axiom, sorry.
-/
import Derived.Test.YtlldkdhpilcilaaChecked
import GoSem.Claim
import GoSem.ClaimJoined
import GoSem.ClaimMapViews
import Derived.JoinedTies
import Derived.KernelRfl
namespace Go.Proofs.Ytlldkdhpilcilaa
/- THE CELL 'sum', in the pinned program and in every row, IS THE sha256 OF THE DUMP (.gsa) THAT YtlldkdhpilcilaaProg.lean LOADS. Nothing in Lean hashes anything: it is a label: what it is worth is what the hold of that sum in a sandbox is worth. -/
noncomputable def Try.pinned : Pinned := { name := "ytlldkdhpilcilaa", sum := "dae6984ce9550b2dd3c88318698ca6c9bfb00f735aebf996f9489a87fbc985af", checked := Try.checked }
namespace Rows
def none {H : Type} : Left H := { results := [], args := [] }

/-- 'commissarylaw03.HashBytes': WHATEVER THE INPUT: true; the input reads as it did. -/
def hashBytesSpec : ChangeSpec := { name := "hashBytes", fn := fun _ => fun
  | [d1, d2, d3] => { results := [.lit (.bool true)], args := [d1, d2, d3] }
  | _ => none }
def hashBytesRow : OpenClaim := { program := "ytlldkdhpilcilaa", sum := "dae6984ce9550b2dd3c88318698ca6c9bfb00f735aebf996f9489a87fbc985af", func := "commissary/commissarylaw03.HashBytes", spec := "hashBytes", unfollowed := true, recurses := true, apart := false }
def HashBytesSaid : Prop := hashBytesRow.holds Try.pinned (OpenSpec.ofChange hashBytesSpec)

/-- ITS FALSE NEIGHBOUR: 'it returns false'. Refute it at one input. -/
def hashBytesWrong : ChangeSpec := { name := "hashBytes", fn := fun _ => fun
  | [d1, d2, d3] => { results := [.lit (.bool false)], args := [d1, d2, d3] }
  | _ => none }
def HashBytesWrongFalsely : Prop := hashBytesRow.holds Try.pinned (OpenSpec.ofChange hashBytesWrong)

/-- 'commissarylaw03.HashParts': WHATEVER THE INPUT: true; the input reads as it did. -/
def hashPartsSpec : ChangeSpec := { name := "hashParts", fn := fun _ => fun
  | [d1, d2, d3, d4] => { results := [.lit (.bool true)], args := [d1, d2, d3, d4] }
  | _ => none }
def hashPartsRow : OpenClaim := { program := "ytlldkdhpilcilaa", sum := "dae6984ce9550b2dd3c88318698ca6c9bfb00f735aebf996f9489a87fbc985af", func := "commissary/commissarylaw03.HashParts", spec := "hashParts", unfollowed := true, recurses := true, apart := false }
def HashPartsSaid : Prop := hashPartsRow.holds Try.pinned (OpenSpec.ofChange hashPartsSpec)

/-- ITS FALSE NEIGHBOUR: 'it returns false'. Refute it at one input. -/
def hashPartsWrong : ChangeSpec := { name := "hashParts", fn := fun _ => fun
  | [d1, d2, d3, d4] => { results := [.lit (.bool false)], args := [d1, d2, d3, d4] }
  | _ => none }
def HashPartsWrongFalsely : Prop := hashPartsRow.holds Try.pinned (OpenSpec.ofChange hashPartsWrong)

/-- 'commissarylaw03.HashSplits': WHATEVER THE INPUT: true; the input reads as it did. -/
def hashSplitsSpec : ChangeSpec := { name := "hashSplits", fn := fun _ => fun
  | [d1, d2, d3, d4, d5] => { results := [.lit (.bool true)], args := [d1, d2, d3, d4, d5] }
  | _ => none }
def hashSplitsRow : OpenClaim := { program := "ytlldkdhpilcilaa", sum := "dae6984ce9550b2dd3c88318698ca6c9bfb00f735aebf996f9489a87fbc985af", func := "commissary/commissarylaw03.HashSplits", spec := "hashSplits", unfollowed := true, recurses := true, apart := false }
def HashSplitsSaid : Prop := hashSplitsRow.holds Try.pinned (OpenSpec.ofChange hashSplitsSpec)

/-- ITS FALSE NEIGHBOUR: 'it returns false'. Refute it at one input. -/
def hashSplitsWrong : ChangeSpec := { name := "hashSplits", fn := fun _ => fun
  | [d1, d2, d3, d4, d5] => { results := [.lit (.bool false)], args := [d1, d2, d3, d4, d5] }
  | _ => none }
def HashSplitsWrongFalsely : Prop := hashSplitsRow.holds Try.pinned (OpenSpec.ofChange hashSplitsWrong)

/-- 'commissarylaw03.HashKeeps': WHATEVER THE INPUT: true; the input reads as it did. -/
def hashKeepsSpec : ChangeSpec := { name := "hashKeeps", fn := fun _ => fun
  | [d1, d2, d3, d4, d5] => { results := [.lit (.bool true)], args := [d1, d2, d3, d4, d5] }
  | _ => none }
def hashKeepsRow : OpenClaim := { program := "ytlldkdhpilcilaa", sum := "dae6984ce9550b2dd3c88318698ca6c9bfb00f735aebf996f9489a87fbc985af", func := "commissary/commissarylaw03.HashKeeps", spec := "hashKeeps", unfollowed := true, recurses := true, apart := false }
def HashKeepsSaid : Prop := hashKeepsRow.holds Try.pinned (OpenSpec.ofChange hashKeepsSpec)

/-- ITS FALSE NEIGHBOUR: 'it returns false'. Refute it at one input. -/
def hashKeepsWrong : ChangeSpec := { name := "hashKeeps", fn := fun _ => fun
  | [d1, d2, d3, d4, d5] => { results := [.lit (.bool false)], args := [d1, d2, d3, d4, d5] }
  | _ => none }
def HashKeepsWrongFalsely : Prop := hashKeepsRow.holds Try.pinned (OpenSpec.ofChange hashKeepsWrong)

/-- 'commissarylaw03.HashSeeds': WHATEVER THE INPUT: true; the input reads as it did. -/
def hashSeedsSpec : ChangeSpec := { name := "hashSeeds", fn := fun _ => fun
  | [d1, d2, d3, d4, d5] => { results := [.lit (.bool true)], args := [d1, d2, d3, d4, d5] }
  | _ => none }
def hashSeedsRow : OpenClaim := { program := "ytlldkdhpilcilaa", sum := "dae6984ce9550b2dd3c88318698ca6c9bfb00f735aebf996f9489a87fbc985af", func := "commissary/commissarylaw03.HashSeeds", spec := "hashSeeds", unfollowed := true, recurses := true, apart := false }
def HashSeedsSaid : Prop := hashSeedsRow.holds Try.pinned (OpenSpec.ofChange hashSeedsSpec)

/-- ITS FALSE NEIGHBOUR: 'it returns false'. Refute it at one input. -/
def hashSeedsWrong : ChangeSpec := { name := "hashSeeds", fn := fun _ => fun
  | [d1, d2, d3, d4, d5] => { results := [.lit (.bool false)], args := [d1, d2, d3, d4, d5] }
  | _ => none }
def HashSeedsWrongFalsely : Prop := hashSeedsRow.holds Try.pinned (OpenSpec.ofChange hashSeedsWrong)

/-- 'commissarylaw04.PageAdds': WHATEVER THE INPUT: true; the input reads as it did. -/
def pageAddsSpec : ChangeSpec := { name := "pageAdds", fn := fun _ => fun
  | [d] => { results := [.lit (.bool true)], args := [d] }
  | _ => none }
def pageAddsRow : OpenClaim := { program := "ytlldkdhpilcilaa", sum := "dae6984ce9550b2dd3c88318698ca6c9bfb00f735aebf996f9489a87fbc985af", func := "commissary/commissarylaw04.PageAdds", spec := "pageAdds", unfollowed := true, recurses := true, apart := false }
def PageAddsSaid : Prop := pageAddsRow.holds Try.pinned (OpenSpec.ofChange pageAddsSpec)

/-- ITS FALSE NEIGHBOUR: 'it returns false'. Refute it at one input. -/
def pageAddsWrong : ChangeSpec := { name := "pageAdds", fn := fun _ => fun
  | [d] => { results := [.lit (.bool false)], args := [d] }
  | _ => none }
def PageAddsWrongFalsely : Prop := pageAddsRow.holds Try.pinned (OpenSpec.ofChange pageAddsWrong)

/-- 'commissarylaw04.PageReads': WHATEVER THE INPUT: true; the input reads as it did. -/
def pageReadsSpec : ChangeSpec := { name := "pageReads", fn := fun _ => fun
  | [d1, d2] => { results := [.lit (.bool true)], args := [d1, d2] }
  | _ => none }
def pageReadsRow : OpenClaim := { program := "ytlldkdhpilcilaa", sum := "dae6984ce9550b2dd3c88318698ca6c9bfb00f735aebf996f9489a87fbc985af", func := "commissary/commissarylaw04.PageReads", spec := "pageReads", unfollowed := true, recurses := true, apart := false }
def PageReadsSaid : Prop := pageReadsRow.holds Try.pinned (OpenSpec.ofChange pageReadsSpec)

/-- ITS FALSE NEIGHBOUR: 'it returns false'. Refute it at one input. -/
def pageReadsWrong : ChangeSpec := { name := "pageReads", fn := fun _ => fun
  | [d1, d2] => { results := [.lit (.bool false)], args := [d1, d2] }
  | _ => none }
def PageReadsWrongFalsely : Prop := pageReadsRow.holds Try.pinned (OpenSpec.ofChange pageReadsWrong)

/-- 'commissarylaw04.PageFills': WHATEVER THE INPUT: true; the input reads as it did. -/
def pageFillsSpec : ChangeSpec := { name := "pageFills", fn := fun _ => fun
  | [d] => { results := [.lit (.bool true)], args := [d] }
  | _ => none }
def pageFillsRow : OpenClaim := { program := "ytlldkdhpilcilaa", sum := "dae6984ce9550b2dd3c88318698ca6c9bfb00f735aebf996f9489a87fbc985af", func := "commissary/commissarylaw04.PageFills", spec := "pageFills", unfollowed := true, recurses := true, apart := false }
def PageFillsSaid : Prop := pageFillsRow.holds Try.pinned (OpenSpec.ofChange pageFillsSpec)

/-- ITS FALSE NEIGHBOUR: 'it returns false'. Refute it at one input. -/
def pageFillsWrong : ChangeSpec := { name := "pageFills", fn := fun _ => fun
  | [d] => { results := [.lit (.bool false)], args := [d] }
  | _ => none }
def PageFillsWrongFalsely : Prop := pageFillsRow.holds Try.pinned (OpenSpec.ofChange pageFillsWrong)

/-- 'commissarylaw04.PageAll': WHATEVER THE INPUT: true; the input reads as it did. -/
def pageAllSpec : ChangeSpec := { name := "pageAll", fn := fun _ => fun
  | [d] => { results := [.lit (.bool true)], args := [d] }
  | _ => none }
def pageAllRow : OpenClaim := { program := "ytlldkdhpilcilaa", sum := "dae6984ce9550b2dd3c88318698ca6c9bfb00f735aebf996f9489a87fbc985af", func := "commissary/commissarylaw04.PageAll", spec := "pageAll", unfollowed := true, recurses := true, apart := false }
def PageAllSaid : Prop := pageAllRow.holds Try.pinned (OpenSpec.ofChange pageAllSpec)

/-- ITS FALSE NEIGHBOUR: 'it returns false'. Refute it at one input. -/
def pageAllWrong : ChangeSpec := { name := "pageAll", fn := fun _ => fun
  | [d] => { results := [.lit (.bool false)], args := [d] }
  | _ => none }
def PageAllWrongFalsely : Prop := pageAllRow.holds Try.pinned (OpenSpec.ofChange pageAllWrong)

/-- 'commissarylaw04.PageRoom': WHATEVER THE INPUT: true; the input reads as it did. -/
def pageRoomSpec : ChangeSpec := { name := "pageRoom", fn := fun _ => fun
  | [d] => { results := [.lit (.bool true)], args := [d] }
  | _ => none }
def pageRoomRow : OpenClaim := { program := "ytlldkdhpilcilaa", sum := "dae6984ce9550b2dd3c88318698ca6c9bfb00f735aebf996f9489a87fbc985af", func := "commissary/commissarylaw04.PageRoom", spec := "pageRoom", unfollowed := true, recurses := true, apart := false }
def PageRoomSaid : Prop := pageRoomRow.holds Try.pinned (OpenSpec.ofChange pageRoomSpec)

/-- ITS FALSE NEIGHBOUR: 'it returns false'. Refute it at one input. -/
def pageRoomWrong : ChangeSpec := { name := "pageRoom", fn := fun _ => fun
  | [d] => { results := [.lit (.bool false)], args := [d] }
  | _ => none }
def PageRoomWrongFalsely : Prop := pageRoomRow.holds Try.pinned (OpenSpec.ofChange pageRoomWrong)

/- THE SECOND FORM. 'bulk': how many values and letters a reading holds, each counted each time it is reached (what is shared counts as often as it is met; a slice's spare places count too). A statement '..UptoSaid' is the law's where the arguments, and the package variables that the reading takes, are together of bulk at most 1048576: NARROWER than '..Said'. Prove '..Said' where nothing that the law and all that it calls make is longer than what came in: it says more and counts as full. Else prove '..UptoSaid'. A law counts once. -/
mutual
def uptoBulk {H : Type} : DataW H → Nat
  | .lit (.string bytes) => bytes.length + 1
  | .lit _ => 1
  | .nil => 1
  | .ptr d => uptoBulk d + 1
  | .slice elems spare => uptoBulkAll elems + uptoBulkAll spare + 1
  | .agg parts => uptoBulkAll parts + 1
  | .iface _ d => uptoBulk d + 1
  | .map entries => uptoBulkEntries entries + 1
  | .held _ => 1
def uptoBulkAll {H : Type} : List (DataW H) → Nat
  | [] => 0
  | d :: r => uptoBulk d + uptoBulkAll r
def uptoBulkEntries {H : Type} : List (Lit × DataW H) → Nat
  | [] => 0
  | x :: r => uptoBulkEntry x + uptoBulkEntries r
def uptoBulkEntry {H : Type} : Lit × DataW H → Nat
  | (.string bytes, d) => bytes.length + uptoBulk d + 1
  | (_, d) => uptoBulk d + 1
 end
def uptoSmall : (H : Type) → List (DataW H) → Bool := fun _ ds => decide (uptoBulkAll ds ≤ 1048576)
def OpenSpec.upto (s : _root_.Go.ChangeSpec) : _root_.Go.OpenSpec := { _root_.Go.OpenSpec.ofChange s with cond := some uptoSmall }

/-- 'commissarylaw03.HashBytes', WHERE WHAT IT READS IS OF BULK AT MOST 1048576: true; the input reads as it did. -/
def hashBytesUptoRow : OpenClaim := { program := "ytlldkdhpilcilaa", sum := "dae6984ce9550b2dd3c88318698ca6c9bfb00f735aebf996f9489a87fbc985af", func := "commissary/commissarylaw03.HashBytes", spec := "hashBytes", unfollowed := true, recurses := true, apart := false, narrowed := true }
def HashBytesUptoSaid : Prop := hashBytesUptoRow.holds Try.pinned (OpenSpec.upto hashBytesSpec)

/-- 'commissarylaw03.HashParts', WHERE WHAT IT READS IS OF BULK AT MOST 1048576: true; the input reads as it did. -/
def hashPartsUptoRow : OpenClaim := { program := "ytlldkdhpilcilaa", sum := "dae6984ce9550b2dd3c88318698ca6c9bfb00f735aebf996f9489a87fbc985af", func := "commissary/commissarylaw03.HashParts", spec := "hashParts", unfollowed := true, recurses := true, apart := false, narrowed := true }
def HashPartsUptoSaid : Prop := hashPartsUptoRow.holds Try.pinned (OpenSpec.upto hashPartsSpec)

/-- 'commissarylaw03.HashSplits', WHERE WHAT IT READS IS OF BULK AT MOST 1048576: true; the input reads as it did. -/
def hashSplitsUptoRow : OpenClaim := { program := "ytlldkdhpilcilaa", sum := "dae6984ce9550b2dd3c88318698ca6c9bfb00f735aebf996f9489a87fbc985af", func := "commissary/commissarylaw03.HashSplits", spec := "hashSplits", unfollowed := true, recurses := true, apart := false, narrowed := true }
def HashSplitsUptoSaid : Prop := hashSplitsUptoRow.holds Try.pinned (OpenSpec.upto hashSplitsSpec)

/-- 'commissarylaw03.HashKeeps', WHERE WHAT IT READS IS OF BULK AT MOST 1048576: true; the input reads as it did. -/
def hashKeepsUptoRow : OpenClaim := { program := "ytlldkdhpilcilaa", sum := "dae6984ce9550b2dd3c88318698ca6c9bfb00f735aebf996f9489a87fbc985af", func := "commissary/commissarylaw03.HashKeeps", spec := "hashKeeps", unfollowed := true, recurses := true, apart := false, narrowed := true }
def HashKeepsUptoSaid : Prop := hashKeepsUptoRow.holds Try.pinned (OpenSpec.upto hashKeepsSpec)

/-- 'commissarylaw03.HashSeeds', WHERE WHAT IT READS IS OF BULK AT MOST 1048576: true; the input reads as it did. -/
def hashSeedsUptoRow : OpenClaim := { program := "ytlldkdhpilcilaa", sum := "dae6984ce9550b2dd3c88318698ca6c9bfb00f735aebf996f9489a87fbc985af", func := "commissary/commissarylaw03.HashSeeds", spec := "hashSeeds", unfollowed := true, recurses := true, apart := false, narrowed := true }
def HashSeedsUptoSaid : Prop := hashSeedsUptoRow.holds Try.pinned (OpenSpec.upto hashSeedsSpec)

/-- 'commissarylaw04.PageAdds', WHERE WHAT IT READS IS OF BULK AT MOST 1048576: true; the input reads as it did. -/
def pageAddsUptoRow : OpenClaim := { program := "ytlldkdhpilcilaa", sum := "dae6984ce9550b2dd3c88318698ca6c9bfb00f735aebf996f9489a87fbc985af", func := "commissary/commissarylaw04.PageAdds", spec := "pageAdds", unfollowed := true, recurses := true, apart := false, narrowed := true }
def PageAddsUptoSaid : Prop := pageAddsUptoRow.holds Try.pinned (OpenSpec.upto pageAddsSpec)

/-- 'commissarylaw04.PageReads', WHERE WHAT IT READS IS OF BULK AT MOST 1048576: true; the input reads as it did. -/
def pageReadsUptoRow : OpenClaim := { program := "ytlldkdhpilcilaa", sum := "dae6984ce9550b2dd3c88318698ca6c9bfb00f735aebf996f9489a87fbc985af", func := "commissary/commissarylaw04.PageReads", spec := "pageReads", unfollowed := true, recurses := true, apart := false, narrowed := true }
def PageReadsUptoSaid : Prop := pageReadsUptoRow.holds Try.pinned (OpenSpec.upto pageReadsSpec)

/-- 'commissarylaw04.PageFills', WHERE WHAT IT READS IS OF BULK AT MOST 1048576: true; the input reads as it did. -/
def pageFillsUptoRow : OpenClaim := { program := "ytlldkdhpilcilaa", sum := "dae6984ce9550b2dd3c88318698ca6c9bfb00f735aebf996f9489a87fbc985af", func := "commissary/commissarylaw04.PageFills", spec := "pageFills", unfollowed := true, recurses := true, apart := false, narrowed := true }
def PageFillsUptoSaid : Prop := pageFillsUptoRow.holds Try.pinned (OpenSpec.upto pageFillsSpec)

/-- 'commissarylaw04.PageAll', WHERE WHAT IT READS IS OF BULK AT MOST 1048576: true; the input reads as it did. -/
def pageAllUptoRow : OpenClaim := { program := "ytlldkdhpilcilaa", sum := "dae6984ce9550b2dd3c88318698ca6c9bfb00f735aebf996f9489a87fbc985af", func := "commissary/commissarylaw04.PageAll", spec := "pageAll", unfollowed := true, recurses := true, apart := false, narrowed := true }
def PageAllUptoSaid : Prop := pageAllUptoRow.holds Try.pinned (OpenSpec.upto pageAllSpec)

/-- 'commissarylaw04.PageRoom', WHERE WHAT IT READS IS OF BULK AT MOST 1048576: true; the input reads as it did. -/
def pageRoomUptoRow : OpenClaim := { program := "ytlldkdhpilcilaa", sum := "dae6984ce9550b2dd3c88318698ca6c9bfb00f735aebf996f9489a87fbc985af", func := "commissary/commissarylaw04.PageRoom", spec := "pageRoom", unfollowed := true, recurses := true, apart := false, narrowed := true }
def PageRoomUptoSaid : Prop := pageRoomUptoRow.holds Try.pinned (OpenSpec.upto pageRoomSpec)

end Rows
end Go.Proofs.Ytlldkdhpilcilaa
