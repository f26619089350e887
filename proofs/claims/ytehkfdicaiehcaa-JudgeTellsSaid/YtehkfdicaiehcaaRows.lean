/-
  No cell of these rows narrows 'for every input' (looked for: loops, veiled, ifaces, maps, wideKeys, modest, calm, conditions, laid).
  DERIVED. THE GIVEN ROWS OF THIS SEAT. 5 by the template 'for every input the law returns true; each argument reads behind the call as it read before'; 0 by the template 'total and deterministic' (their statements: YtehkfdicaiehcaaTotals.lean).
  GIVEN WITH THE SEED: the statements are not yours to turn. If you find one false, say at which input.
  Laid BY PROGRAM, IN A SANDBOX (cutbox-rows.mjs): the forced cells as the released guide's own fill.sh prints them over the translation 3862d342a6578458… (all of the seat's roots in one cut). By AI agents, Wed Nov 11 2026. No macro, syntax, notation, axiom, sorry.
-/
import Derived.Test.YtehkfdicaiehcaaChecked
import GoSem.Claim
import GoSem.ClaimJoined
import GoSem.ClaimMapViews
import Derived.JoinedTies
import Derived.KernelRfl
namespace Go.Proofs.Ytehkfdicaiehcaa
/- THE CELL 'sum', in the pinned program and in every row, IS THE sha256 OF THE DUMP (.gsa) THAT YtehkfdicaiehcaaProg.lean LOADS. Nothing in Lean hashes anything: it is a label: what it is worth is what the hold of that sum in a sandbox is worth. -/
noncomputable def Try.pinned : Pinned := { name := "ytehkfdicaiehcaa", sum := "3862d342a6578458bcd3ab6e9cb373adcfc6d7a903003e3cc1c82ac3c1e5ecd8", checked := Try.checked }
namespace Rows
def none {H : Type} : Left H := { results := [], args := [] }

/-- 'comitialaw23.JudgeTells': WHATEVER THE INPUT: true; the input reads as it did. -/
def judgeTellsSpec : ChangeSpec := { name := "judgeTells", fn := fun _ => fun
  | [d1, d2, d3, d4] => { results := [.lit (.bool true)], args := [d1, d2, d3, d4] }
  | _ => none }
def judgeTellsRow : OpenClaim := { program := "ytehkfdicaiehcaa", sum := "3862d342a6578458bcd3ab6e9cb373adcfc6d7a903003e3cc1c82ac3c1e5ecd8", func := "comitia/comitialaw23.JudgeTells", spec := "judgeTells", unfollowed := true, recurses := true, plainKeys := false, apart := false }
def JudgeTellsSaid : Prop := judgeTellsRow.holds Try.pinned (OpenSpec.ofChange judgeTellsSpec)

/-- ITS FALSE NEIGHBOUR: 'it returns false'. Refute it at one input. -/
def judgeTellsWrong : ChangeSpec := { name := "judgeTells", fn := fun _ => fun
  | [d1, d2, d3, d4] => { results := [.lit (.bool false)], args := [d1, d2, d3, d4] }
  | _ => none }
def JudgeTellsWrongFalsely : Prop := judgeTellsRow.holds Try.pinned (OpenSpec.ofChange judgeTellsWrong)

/-- 'comitialaw23.JudgePrefix': WHATEVER THE INPUT: true; the input reads as it did. -/
def judgePrefixSpec : ChangeSpec := { name := "judgePrefix", fn := fun _ => fun
  | [d1, d2, d3] => { results := [.lit (.bool true)], args := [d1, d2, d3] }
  | _ => none }
def judgePrefixRow : OpenClaim := { program := "ytehkfdicaiehcaa", sum := "3862d342a6578458bcd3ab6e9cb373adcfc6d7a903003e3cc1c82ac3c1e5ecd8", func := "comitia/comitialaw23.JudgePrefix", spec := "judgePrefix", unfollowed := true, recurses := true, plainKeys := false, apart := false }
def JudgePrefixSaid : Prop := judgePrefixRow.holds Try.pinned (OpenSpec.ofChange judgePrefixSpec)

/-- ITS FALSE NEIGHBOUR: 'it returns false'. Refute it at one input. -/
def judgePrefixWrong : ChangeSpec := { name := "judgePrefix", fn := fun _ => fun
  | [d1, d2, d3] => { results := [.lit (.bool false)], args := [d1, d2, d3] }
  | _ => none }
def JudgePrefixWrongFalsely : Prop := judgePrefixRow.holds Try.pinned (OpenSpec.ofChange judgePrefixWrong)

/-- 'comitialaw23.JudgeHonest': WHATEVER THE INPUT: true; the input reads as it did. -/
def judgeHonestSpec : ChangeSpec := { name := "judgeHonest", fn := fun _ => fun
  | [d1, d2] => { results := [.lit (.bool true)], args := [d1, d2] }
  | _ => none }
def judgeHonestRow : OpenClaim := { program := "ytehkfdicaiehcaa", sum := "3862d342a6578458bcd3ab6e9cb373adcfc6d7a903003e3cc1c82ac3c1e5ecd8", func := "comitia/comitialaw23.JudgeHonest", spec := "judgeHonest", unfollowed := true, recurses := true, plainKeys := false, apart := false }
def JudgeHonestSaid : Prop := judgeHonestRow.holds Try.pinned (OpenSpec.ofChange judgeHonestSpec)

/-- ITS FALSE NEIGHBOUR: 'it returns false'. Refute it at one input. -/
def judgeHonestWrong : ChangeSpec := { name := "judgeHonest", fn := fun _ => fun
  | [d1, d2] => { results := [.lit (.bool false)], args := [d1, d2] }
  | _ => none }
def JudgeHonestWrongFalsely : Prop := judgeHonestRow.holds Try.pinned (OpenSpec.ofChange judgeHonestWrong)

/-- 'comitialaw23.JudgeOnce': WHATEVER THE INPUT: true; the input reads as it did. -/
def judgeOnceSpec : ChangeSpec := { name := "judgeOnce", fn := fun _ => fun
  | [d1, d2] => { results := [.lit (.bool true)], args := [d1, d2] }
  | _ => none }
def judgeOnceRow : OpenClaim := { program := "ytehkfdicaiehcaa", sum := "3862d342a6578458bcd3ab6e9cb373adcfc6d7a903003e3cc1c82ac3c1e5ecd8", func := "comitia/comitialaw23.JudgeOnce", spec := "judgeOnce", unfollowed := true, recurses := true, plainKeys := false, apart := false }
def JudgeOnceSaid : Prop := judgeOnceRow.holds Try.pinned (OpenSpec.ofChange judgeOnceSpec)

/-- ITS FALSE NEIGHBOUR: 'it returns false'. Refute it at one input. -/
def judgeOnceWrong : ChangeSpec := { name := "judgeOnce", fn := fun _ => fun
  | [d1, d2] => { results := [.lit (.bool false)], args := [d1, d2] }
  | _ => none }
def JudgeOnceWrongFalsely : Prop := judgeOnceRow.holds Try.pinned (OpenSpec.ofChange judgeOnceWrong)

/-- 'comitialaw23.JudgeReplay': WHATEVER THE INPUT: true; the input reads as it did. -/
def judgeReplaySpec : ChangeSpec := { name := "judgeReplay", fn := fun _ => fun
  | [d1, d2] => { results := [.lit (.bool true)], args := [d1, d2] }
  | _ => none }
def judgeReplayRow : OpenClaim := { program := "ytehkfdicaiehcaa", sum := "3862d342a6578458bcd3ab6e9cb373adcfc6d7a903003e3cc1c82ac3c1e5ecd8", func := "comitia/comitialaw23.JudgeReplay", spec := "judgeReplay", unfollowed := true, recurses := true, plainKeys := false, apart := false }
def JudgeReplaySaid : Prop := judgeReplayRow.holds Try.pinned (OpenSpec.ofChange judgeReplaySpec)

/-- ITS FALSE NEIGHBOUR: 'it returns false'. Refute it at one input. -/
def judgeReplayWrong : ChangeSpec := { name := "judgeReplay", fn := fun _ => fun
  | [d1, d2] => { results := [.lit (.bool false)], args := [d1, d2] }
  | _ => none }
def JudgeReplayWrongFalsely : Prop := judgeReplayRow.holds Try.pinned (OpenSpec.ofChange judgeReplayWrong)

/- THE SECOND FORM. 'bulk': how many values and letters a reading holds, each counted each time it is reached (what is shared counts as often as it is met; a slice's spare places count too). A statement '..UptoSaid' is the law's where the arguments, and the package variables that the reading takes, are together of bulk at most 1048576: NARROWER than '..Said'. Prove '..Said' where nothing that the law and all that it calls make is longer than what came in: it says more and counts as full. Else prove '..UptoSaid'. A law counts once. -/
mutual
def uptoBulk {H : Type} : DataW H → Nat
  | .lit (.string bytes) => bytes.length + 1
  | .lit _ => 1
  | .nil => 1
  | .ptr d => uptoBulk d + 1
  | .slice elems spare => uptoBulkAll elems + uptoBulkAll spare + 1
  | .agg parts => uptoBulkAll parts + 1
  | .iface _ d => uptoBulk d + 1
  | .map entries => uptoBulkEntries entries + 1
  | .held _ => 1
def uptoBulkAll {H : Type} : List (DataW H) → Nat
  | [] => 0
  | d :: r => uptoBulk d + uptoBulkAll r
def uptoBulkEntries {H : Type} : List (Lit × DataW H) → Nat
  | [] => 0
  | x :: r => uptoBulkEntry x + uptoBulkEntries r
def uptoBulkEntry {H : Type} : Lit × DataW H → Nat
  | (.string bytes, d) => bytes.length + uptoBulk d + 1
  | (_, d) => uptoBulk d + 1
 end
def uptoSmall : (H : Type) → List (DataW H) → Bool := fun _ ds => decide (uptoBulkAll ds ≤ 1048576)
def OpenSpec.upto (s : _root_.Go.ChangeSpec) : _root_.Go.OpenSpec := { _root_.Go.OpenSpec.ofChange s with cond := some uptoSmall }

/-- 'comitialaw23.JudgeTells', WHERE WHAT IT READS IS OF BULK AT MOST 1048576: true; the input reads as it did. -/
def judgeTellsUptoRow : OpenClaim := { program := "ytehkfdicaiehcaa", sum := "3862d342a6578458bcd3ab6e9cb373adcfc6d7a903003e3cc1c82ac3c1e5ecd8", func := "comitia/comitialaw23.JudgeTells", spec := "judgeTells", unfollowed := true, recurses := true, plainKeys := false, apart := false, narrowed := true }
def JudgeTellsUptoSaid : Prop := judgeTellsUptoRow.holds Try.pinned (OpenSpec.upto judgeTellsSpec)

/-- 'comitialaw23.JudgePrefix', WHERE WHAT IT READS IS OF BULK AT MOST 1048576: true; the input reads as it did. -/
def judgePrefixUptoRow : OpenClaim := { program := "ytehkfdicaiehcaa", sum := "3862d342a6578458bcd3ab6e9cb373adcfc6d7a903003e3cc1c82ac3c1e5ecd8", func := "comitia/comitialaw23.JudgePrefix", spec := "judgePrefix", unfollowed := true, recurses := true, plainKeys := false, apart := false, narrowed := true }
def JudgePrefixUptoSaid : Prop := judgePrefixUptoRow.holds Try.pinned (OpenSpec.upto judgePrefixSpec)

/-- 'comitialaw23.JudgeHonest', WHERE WHAT IT READS IS OF BULK AT MOST 1048576: true; the input reads as it did. -/
def judgeHonestUptoRow : OpenClaim := { program := "ytehkfdicaiehcaa", sum := "3862d342a6578458bcd3ab6e9cb373adcfc6d7a903003e3cc1c82ac3c1e5ecd8", func := "comitia/comitialaw23.JudgeHonest", spec := "judgeHonest", unfollowed := true, recurses := true, plainKeys := false, apart := false, narrowed := true }
def JudgeHonestUptoSaid : Prop := judgeHonestUptoRow.holds Try.pinned (OpenSpec.upto judgeHonestSpec)

/-- 'comitialaw23.JudgeOnce', WHERE WHAT IT READS IS OF BULK AT MOST 1048576: true; the input reads as it did. -/
def judgeOnceUptoRow : OpenClaim := { program := "ytehkfdicaiehcaa", sum := "3862d342a6578458bcd3ab6e9cb373adcfc6d7a903003e3cc1c82ac3c1e5ecd8", func := "comitia/comitialaw23.JudgeOnce", spec := "judgeOnce", unfollowed := true, recurses := true, plainKeys := false, apart := false, narrowed := true }
def JudgeOnceUptoSaid : Prop := judgeOnceUptoRow.holds Try.pinned (OpenSpec.upto judgeOnceSpec)

/-- 'comitialaw23.JudgeReplay', WHERE WHAT IT READS IS OF BULK AT MOST 1048576: true; the input reads as it did. -/
def judgeReplayUptoRow : OpenClaim := { program := "ytehkfdicaiehcaa", sum := "3862d342a6578458bcd3ab6e9cb373adcfc6d7a903003e3cc1c82ac3c1e5ecd8", func := "comitia/comitialaw23.JudgeReplay", spec := "judgeReplay", unfollowed := true, recurses := true, plainKeys := false, apart := false, narrowed := true }
def JudgeReplayUptoSaid : Prop := judgeReplayUptoRow.holds Try.pinned (OpenSpec.upto judgeReplaySpec)

end Rows
end Go.Proofs.Ytehkfdicaiehcaa
