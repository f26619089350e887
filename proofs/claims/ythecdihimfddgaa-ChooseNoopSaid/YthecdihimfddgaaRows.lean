/-
  No cell of these rows narrows 'for every input' (looked for: loops, veiled, ifaces, maps, wideKeys, modest, calm, conditions, laid).
  DERIVED. THE GIVEN ROWS OF THIS SEAT. 6 by the template 'for every input the law returns true; each argument reads behind the call as it read before'; 0 by the template 'total and deterministic' (their statements: YthecdihimfddgaaTotals.lean).
  GIVEN WITH THE SEED: the statements are not yours to turn. If you find one false, say at which input.
  Laid BY PROGRAM, IN A SANDBOX (cutbox-rows.mjs): the forced cells as the released guide's own fill.sh prints them over the translation a7cd6b253af74fce… (all of the seat's roots in one cut). By AI agents, Wed Nov 11 2026. No macro, syntax, notation, axiom, sorry.
-/
import Derived.Test.YthecdihimfddgaaChecked
import GoSem.Claim
import GoSem.ClaimJoined
import GoSem.ClaimMapViews
import Derived.JoinedTies
import Derived.KernelRfl
namespace Go.Proofs.Ythecdihimfddgaa
/- THE CELL 'sum', in the pinned program and in every row, IS THE sha256 OF THE DUMP (.gsa) THAT YthecdihimfddgaaProg.lean LOADS. Nothing in Lean hashes anything: it is a label: what it is worth is what the hold of that sum in a sandbox is worth. -/
noncomputable def Try.pinned : Pinned := { name := "ythecdihimfddgaa", sum := "a7cd6b253af74fced4c7f243483e967892112ff02a6f1e46a4b67bb9d07f174e", checked := Try.checked }
namespace Rows
def none {H : Type} : Left H := { results := [], args := [] }

/-- 'comitialaw13.ChooseTells': WHATEVER THE INPUT: true; the input reads as it did. -/
def chooseTellsSpec : ChangeSpec := { name := "chooseTells", fn := fun _ => fun
  | [d1, d2, d3, d4] => { results := [.lit (.bool true)], args := [d1, d2, d3, d4] }
  | _ => none }
def chooseTellsRow : OpenClaim := { program := "ythecdihimfddgaa", sum := "a7cd6b253af74fced4c7f243483e967892112ff02a6f1e46a4b67bb9d07f174e", func := "comitia/comitialaw13.ChooseTells", spec := "chooseTells", unfollowed := true, recurses := true, apart := false }
def ChooseTellsSaid : Prop := chooseTellsRow.holds Try.pinned (OpenSpec.ofChange chooseTellsSpec)

/-- ITS FALSE NEIGHBOUR: 'it returns false'. Refute it at one input. -/
def chooseTellsWrong : ChangeSpec := { name := "chooseTells", fn := fun _ => fun
  | [d1, d2, d3, d4] => { results := [.lit (.bool false)], args := [d1, d2, d3, d4] }
  | _ => none }
def ChooseTellsWrongFalsely : Prop := chooseTellsRow.holds Try.pinned (OpenSpec.ofChange chooseTellsWrong)

/-- 'comitialaw13.ChooseCounts': WHATEVER THE INPUT: true; the input reads as it did. -/
def chooseCountsSpec : ChangeSpec := { name := "chooseCounts", fn := fun _ => fun
  | [d1, d2] => { results := [.lit (.bool true)], args := [d1, d2] }
  | _ => none }
def chooseCountsRow : OpenClaim := { program := "ythecdihimfddgaa", sum := "a7cd6b253af74fced4c7f243483e967892112ff02a6f1e46a4b67bb9d07f174e", func := "comitia/comitialaw13.ChooseCounts", spec := "chooseCounts", unfollowed := true, recurses := true, apart := false }
def ChooseCountsSaid : Prop := chooseCountsRow.holds Try.pinned (OpenSpec.ofChange chooseCountsSpec)

/-- ITS FALSE NEIGHBOUR: 'it returns false'. Refute it at one input. -/
def chooseCountsWrong : ChangeSpec := { name := "chooseCounts", fn := fun _ => fun
  | [d1, d2] => { results := [.lit (.bool false)], args := [d1, d2] }
  | _ => none }
def ChooseCountsWrongFalsely : Prop := chooseCountsRow.holds Try.pinned (OpenSpec.ofChange chooseCountsWrong)

/-- 'comitialaw13.ChooseFast': WHATEVER THE INPUT: true; the input reads as it did. -/
def chooseFastSpec : ChangeSpec := { name := "chooseFast", fn := fun _ => fun
  | [d1, d2, d3, d4, d5, d6, d7] => { results := [.lit (.bool true)], args := [d1, d2, d3, d4, d5, d6, d7] }
  | _ => none }
def chooseFastRow : OpenClaim := { program := "ythecdihimfddgaa", sum := "a7cd6b253af74fced4c7f243483e967892112ff02a6f1e46a4b67bb9d07f174e", func := "comitia/comitialaw13.ChooseFast", spec := "chooseFast", unfollowed := true, recurses := true, apart := false }
def ChooseFastSaid : Prop := chooseFastRow.holds Try.pinned (OpenSpec.ofChange chooseFastSpec)

/-- ITS FALSE NEIGHBOUR: 'it returns false'. Refute it at one input. -/
def chooseFastWrong : ChangeSpec := { name := "chooseFast", fn := fun _ => fun
  | [d1, d2, d3, d4, d5, d6, d7] => { results := [.lit (.bool false)], args := [d1, d2, d3, d4, d5, d6, d7] }
  | _ => none }
def ChooseFastWrongFalsely : Prop := chooseFastRow.holds Try.pinned (OpenSpec.ofChange chooseFastWrong)

/-- 'comitialaw13.ChooseNoop': WHATEVER THE INPUT: true; the input reads as it did. -/
def chooseNoopSpec : ChangeSpec := { name := "chooseNoop", fn := fun _ => fun
  | [d1, d2, d3, d4, d5, d6] => { results := [.lit (.bool true)], args := [d1, d2, d3, d4, d5, d6] }
  | _ => none }
def chooseNoopRow : OpenClaim := { program := "ythecdihimfddgaa", sum := "a7cd6b253af74fced4c7f243483e967892112ff02a6f1e46a4b67bb9d07f174e", func := "comitia/comitialaw13.ChooseNoop", spec := "chooseNoop", unfollowed := true, recurses := true, apart := false }
def ChooseNoopSaid : Prop := chooseNoopRow.holds Try.pinned (OpenSpec.ofChange chooseNoopSpec)

/-- ITS FALSE NEIGHBOUR: 'it returns false'. Refute it at one input. -/
def chooseNoopWrong : ChangeSpec := { name := "chooseNoop", fn := fun _ => fun
  | [d1, d2, d3, d4, d5, d6] => { results := [.lit (.bool false)], args := [d1, d2, d3, d4, d5, d6] }
  | _ => none }
def ChooseNoopWrongFalsely : Prop := chooseNoopRow.holds Try.pinned (OpenSpec.ofChange chooseNoopWrong)

/-- 'comitialaw13.ChooseSlow': WHATEVER THE INPUT: true; the input reads as it did. -/
def chooseSlowSpec : ChangeSpec := { name := "chooseSlow", fn := fun _ => fun
  | [d1, d2, d3, d4, d5, d6, d7, d8] => { results := [.lit (.bool true)], args := [d1, d2, d3, d4, d5, d6, d7, d8] }
  | _ => none }
def chooseSlowRow : OpenClaim := { program := "ythecdihimfddgaa", sum := "a7cd6b253af74fced4c7f243483e967892112ff02a6f1e46a4b67bb9d07f174e", func := "comitia/comitialaw13.ChooseSlow", spec := "chooseSlow", unfollowed := true, recurses := true, apart := false }
def ChooseSlowSaid : Prop := chooseSlowRow.holds Try.pinned (OpenSpec.ofChange chooseSlowSpec)

/-- ITS FALSE NEIGHBOUR: 'it returns false'. Refute it at one input. -/
def chooseSlowWrong : ChangeSpec := { name := "chooseSlow", fn := fun _ => fun
  | [d1, d2, d3, d4, d5, d6, d7, d8] => { results := [.lit (.bool false)], args := [d1, d2, d3, d4, d5, d6, d7, d8] }
  | _ => none }
def ChooseSlowWrongFalsely : Prop := chooseSlowRow.holds Try.pinned (OpenSpec.ofChange chooseSlowWrong)

/-- 'comitialaw13.ChooseCommitted': WHATEVER THE INPUT: true; the input reads as it did. -/
def chooseCommittedSpec : ChangeSpec := { name := "chooseCommitted", fn := fun _ => fun
  | [d1, d2, d3, d4, d5, d6] => { results := [.lit (.bool true)], args := [d1, d2, d3, d4, d5, d6] }
  | _ => none }
def chooseCommittedRow : OpenClaim := { program := "ythecdihimfddgaa", sum := "a7cd6b253af74fced4c7f243483e967892112ff02a6f1e46a4b67bb9d07f174e", func := "comitia/comitialaw13.ChooseCommitted", spec := "chooseCommitted", unfollowed := true, recurses := true, apart := false }
def ChooseCommittedSaid : Prop := chooseCommittedRow.holds Try.pinned (OpenSpec.ofChange chooseCommittedSpec)

/-- ITS FALSE NEIGHBOUR: 'it returns false'. Refute it at one input. -/
def chooseCommittedWrong : ChangeSpec := { name := "chooseCommitted", fn := fun _ => fun
  | [d1, d2, d3, d4, d5, d6] => { results := [.lit (.bool false)], args := [d1, d2, d3, d4, d5, d6] }
  | _ => none }
def ChooseCommittedWrongFalsely : Prop := chooseCommittedRow.holds Try.pinned (OpenSpec.ofChange chooseCommittedWrong)

/- THE SECOND FORM. 'bulk': how many values and letters a reading holds, each counted each time it is reached (what is shared counts as often as it is met; a slice's spare places count too). A statement '..UptoSaid' is the law's where the arguments, and the package variables that the reading takes, are together of bulk at most 1048576: NARROWER than '..Said'. Prove '..Said' where nothing that the law and all that it calls make is longer than what came in: it says more and counts as full. Else prove '..UptoSaid'. A law counts once. -/
mutual
def uptoBulk {H : Type} : DataW H → Nat
  | .lit (.string bytes) => bytes.length + 1
  | .lit _ => 1
  | .nil => 1
  | .ptr d => uptoBulk d + 1
  | .slice elems spare => uptoBulkAll elems + uptoBulkAll spare + 1
  | .agg parts => uptoBulkAll parts + 1
  | .iface _ d => uptoBulk d + 1
  | .map entries => uptoBulkEntries entries + 1
  | .held _ => 1
def uptoBulkAll {H : Type} : List (DataW H) → Nat
  | [] => 0
  | d :: r => uptoBulk d + uptoBulkAll r
def uptoBulkEntries {H : Type} : List (Lit × DataW H) → Nat
  | [] => 0
  | x :: r => uptoBulkEntry x + uptoBulkEntries r
def uptoBulkEntry {H : Type} : Lit × DataW H → Nat
  | (.string bytes, d) => bytes.length + uptoBulk d + 1
  | (_, d) => uptoBulk d + 1
 end
def uptoSmall : (H : Type) → List (DataW H) → Bool := fun _ ds => decide (uptoBulkAll ds ≤ 1048576)
def OpenSpec.upto (s : _root_.Go.ChangeSpec) : _root_.Go.OpenSpec := { _root_.Go.OpenSpec.ofChange s with cond := some uptoSmall }

/-- 'comitialaw13.ChooseTells', WHERE WHAT IT READS IS OF BULK AT MOST 1048576: true; the input reads as it did. -/
def chooseTellsUptoRow : OpenClaim := { program := "ythecdihimfddgaa", sum := "a7cd6b253af74fced4c7f243483e967892112ff02a6f1e46a4b67bb9d07f174e", func := "comitia/comitialaw13.ChooseTells", spec := "chooseTells", unfollowed := true, recurses := true, apart := false, narrowed := true }
def ChooseTellsUptoSaid : Prop := chooseTellsUptoRow.holds Try.pinned (OpenSpec.upto chooseTellsSpec)

/-- 'comitialaw13.ChooseCounts', WHERE WHAT IT READS IS OF BULK AT MOST 1048576: true; the input reads as it did. -/
def chooseCountsUptoRow : OpenClaim := { program := "ythecdihimfddgaa", sum := "a7cd6b253af74fced4c7f243483e967892112ff02a6f1e46a4b67bb9d07f174e", func := "comitia/comitialaw13.ChooseCounts", spec := "chooseCounts", unfollowed := true, recurses := true, apart := false, narrowed := true }
def ChooseCountsUptoSaid : Prop := chooseCountsUptoRow.holds Try.pinned (OpenSpec.upto chooseCountsSpec)

/-- 'comitialaw13.ChooseFast', WHERE WHAT IT READS IS OF BULK AT MOST 1048576: true; the input reads as it did. -/
def chooseFastUptoRow : OpenClaim := { program := "ythecdihimfddgaa", sum := "a7cd6b253af74fced4c7f243483e967892112ff02a6f1e46a4b67bb9d07f174e", func := "comitia/comitialaw13.ChooseFast", spec := "chooseFast", unfollowed := true, recurses := true, apart := false, narrowed := true }
def ChooseFastUptoSaid : Prop := chooseFastUptoRow.holds Try.pinned (OpenSpec.upto chooseFastSpec)

/-- 'comitialaw13.ChooseNoop', WHERE WHAT IT READS IS OF BULK AT MOST 1048576: true; the input reads as it did. -/
def chooseNoopUptoRow : OpenClaim := { program := "ythecdihimfddgaa", sum := "a7cd6b253af74fced4c7f243483e967892112ff02a6f1e46a4b67bb9d07f174e", func := "comitia/comitialaw13.ChooseNoop", spec := "chooseNoop", unfollowed := true, recurses := true, apart := false, narrowed := true }
def ChooseNoopUptoSaid : Prop := chooseNoopUptoRow.holds Try.pinned (OpenSpec.upto chooseNoopSpec)

/-- 'comitialaw13.ChooseSlow', WHERE WHAT IT READS IS OF BULK AT MOST 1048576: true; the input reads as it did. -/
def chooseSlowUptoRow : OpenClaim := { program := "ythecdihimfddgaa", sum := "a7cd6b253af74fced4c7f243483e967892112ff02a6f1e46a4b67bb9d07f174e", func := "comitia/comitialaw13.ChooseSlow", spec := "chooseSlow", unfollowed := true, recurses := true, apart := false, narrowed := true }
def ChooseSlowUptoSaid : Prop := chooseSlowUptoRow.holds Try.pinned (OpenSpec.upto chooseSlowSpec)

/-- 'comitialaw13.ChooseCommitted', WHERE WHAT IT READS IS OF BULK AT MOST 1048576: true; the input reads as it did. -/
def chooseCommittedUptoRow : OpenClaim := { program := "ythecdihimfddgaa", sum := "a7cd6b253af74fced4c7f243483e967892112ff02a6f1e46a4b67bb9d07f174e", func := "comitia/comitialaw13.ChooseCommitted", spec := "chooseCommitted", unfollowed := true, recurses := true, apart := false, narrowed := true }
def ChooseCommittedUptoSaid : Prop := chooseCommittedUptoRow.holds Try.pinned (OpenSpec.upto chooseCommittedSpec)

end Rows
end Go.Proofs.Ythecdihimfddgaa
