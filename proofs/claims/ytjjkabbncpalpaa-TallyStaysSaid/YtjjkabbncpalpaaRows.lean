/-
  No cell of these rows narrows 'for every input' (looked for: loops, veiled, ifaces, maps, wideKeys, modest, calm, conditions, laid).
  DERIVED. THE GIVEN ROWS OF THIS SEAT. 6 by the template 'for every input the law returns true; each argument reads behind the call as it read before'; 0 by the template 'total and deterministic' (their statements: YtjjkabbncpalpaaTotals.lean).
  GIVEN WITH THE SEED: the statements are not yours to turn. If you find one false, say at which input.
  Laid BY PROGRAM, IN A SANDBOX (cutbox-rows.mjs): the forced cells as the released guide's own fill.sh prints them over the translation 0ab190dee9e3c06e… (all of the seat's roots in one cut). By AI agents, Wed Nov 11 2026. No macro, syntax, notation, axiom, sorry.
-/
import Derived.Test.YtjjkabbncpalpaaChecked
import GoSem.Claim
import GoSem.ClaimJoined
import GoSem.ClaimMapViews
import Derived.JoinedTies
import Derived.KernelRfl
namespace Go.Proofs.Ytjjkabbncpalpaa
/- THE CELL 'sum', in the pinned program and in every row, IS THE sha256 OF THE DUMP (.gsa) THAT YtjjkabbncpalpaaProg.lean LOADS. Nothing in Lean hashes anything: it is a label: what it is worth is what the hold of that sum in a sandbox is worth. -/
noncomputable def Try.pinned : Pinned := { name := "ytjjkabbncpalpaa", sum := "0ab190dee9e3c06ea366108974861aac39a9c9b46c87bda14a1f80f2ae8434f5", checked := Try.checked }
namespace Rows
def none {H : Type} : Left H := { results := [], args := [] }

/-- 'comitialaw12.TallyPlays': WHATEVER THE INPUT: true; the input reads as it did. -/
def tallyPlaysSpec : ChangeSpec := { name := "tallyPlays", fn := fun _ => fun
  | [d1, d2, d3, d4, d5] => { results := [.lit (.bool true)], args := [d1, d2, d3, d4, d5] }
  | _ => none }
def tallyPlaysRow : OpenClaim := { program := "ytjjkabbncpalpaa", sum := "0ab190dee9e3c06ea366108974861aac39a9c9b46c87bda14a1f80f2ae8434f5", func := "comitia/comitialaw12.TallyPlays", spec := "tallyPlays", unfollowed := true, recurses := true, apart := false }
def TallyPlaysSaid : Prop := tallyPlaysRow.holds Try.pinned (OpenSpec.ofChange tallyPlaysSpec)

/-- ITS FALSE NEIGHBOUR: 'it returns false'. Refute it at one input. -/
def tallyPlaysWrong : ChangeSpec := { name := "tallyPlays", fn := fun _ => fun
  | [d1, d2, d3, d4, d5] => { results := [.lit (.bool false)], args := [d1, d2, d3, d4, d5] }
  | _ => none }
def TallyPlaysWrongFalsely : Prop := tallyPlaysRow.holds Try.pinned (OpenSpec.ofChange tallyPlaysWrong)

/-- 'comitialaw12.TallyStays': WHATEVER THE INPUT: true; the input reads as it did. -/
def tallyStaysSpec : ChangeSpec := { name := "tallyStays", fn := fun _ => fun
  | [d1, d2, d3] => { results := [.lit (.bool true)], args := [d1, d2, d3] }
  | _ => none }
def tallyStaysRow : OpenClaim := { program := "ytjjkabbncpalpaa", sum := "0ab190dee9e3c06ea366108974861aac39a9c9b46c87bda14a1f80f2ae8434f5", func := "comitia/comitialaw12.TallyStays", spec := "tallyStays", unfollowed := true, recurses := true, apart := false }
def TallyStaysSaid : Prop := tallyStaysRow.holds Try.pinned (OpenSpec.ofChange tallyStaysSpec)

/-- ITS FALSE NEIGHBOUR: 'it returns false'. Refute it at one input. -/
def tallyStaysWrong : ChangeSpec := { name := "tallyStays", fn := fun _ => fun
  | [d1, d2, d3] => { results := [.lit (.bool false)], args := [d1, d2, d3] }
  | _ => none }
def TallyStaysWrongFalsely : Prop := tallyStaysRow.holds Try.pinned (OpenSpec.ofChange tallyStaysWrong)

/-- 'comitialaw12.TallyQuorums': WHATEVER THE INPUT: true; the input reads as it did. -/
def tallyQuorumsSpec : ChangeSpec := { name := "tallyQuorums", fn := fun _ => fun
  | [d1, d2, d3, d4] => { results := [.lit (.bool true)], args := [d1, d2, d3, d4] }
  | _ => none }
def tallyQuorumsRow : OpenClaim := { program := "ytjjkabbncpalpaa", sum := "0ab190dee9e3c06ea366108974861aac39a9c9b46c87bda14a1f80f2ae8434f5", func := "comitia/comitialaw12.TallyQuorums", spec := "tallyQuorums", unfollowed := true, recurses := true, apart := false }
def TallyQuorumsSaid : Prop := tallyQuorumsRow.holds Try.pinned (OpenSpec.ofChange tallyQuorumsSpec)

/-- ITS FALSE NEIGHBOUR: 'it returns false'. Refute it at one input. -/
def tallyQuorumsWrong : ChangeSpec := { name := "tallyQuorums", fn := fun _ => fun
  | [d1, d2, d3, d4] => { results := [.lit (.bool false)], args := [d1, d2, d3, d4] }
  | _ => none }
def TallyQuorumsWrongFalsely : Prop := tallyQuorumsRow.holds Try.pinned (OpenSpec.ofChange tallyQuorumsWrong)

/-- 'comitialaw12.TallyCounts': WHATEVER THE INPUT: true; the input reads as it did. -/
def tallyCountsSpec : ChangeSpec := { name := "tallyCounts", fn := fun _ => fun
  | [d1, d2, d3] => { results := [.lit (.bool true)], args := [d1, d2, d3] }
  | _ => none }
def tallyCountsRow : OpenClaim := { program := "ytjjkabbncpalpaa", sum := "0ab190dee9e3c06ea366108974861aac39a9c9b46c87bda14a1f80f2ae8434f5", func := "comitia/comitialaw12.TallyCounts", spec := "tallyCounts", unfollowed := true, recurses := true, apart := false }
def TallyCountsSaid : Prop := tallyCountsRow.holds Try.pinned (OpenSpec.ofChange tallyCountsSpec)

/-- ITS FALSE NEIGHBOUR: 'it returns false'. Refute it at one input. -/
def tallyCountsWrong : ChangeSpec := { name := "tallyCounts", fn := fun _ => fun
  | [d1, d2, d3] => { results := [.lit (.bool false)], args := [d1, d2, d3] }
  | _ => none }
def TallyCountsWrongFalsely : Prop := tallyCountsRow.holds Try.pinned (OpenSpec.ofChange tallyCountsWrong)

/-- 'comitialaw12.TallyFaults': WHATEVER THE INPUT: true; the input reads as it did. -/
def tallyFaultsSpec : ChangeSpec := { name := "tallyFaults", fn := fun _ => fun
  | [d1, d2] => { results := [.lit (.bool true)], args := [d1, d2] }
  | _ => none }
def tallyFaultsRow : OpenClaim := { program := "ytjjkabbncpalpaa", sum := "0ab190dee9e3c06ea366108974861aac39a9c9b46c87bda14a1f80f2ae8434f5", func := "comitia/comitialaw12.TallyFaults", spec := "tallyFaults", unfollowed := true, recurses := true, apart := false }
def TallyFaultsSaid : Prop := tallyFaultsRow.holds Try.pinned (OpenSpec.ofChange tallyFaultsSpec)

/-- ITS FALSE NEIGHBOUR: 'it returns false'. Refute it at one input. -/
def tallyFaultsWrong : ChangeSpec := { name := "tallyFaults", fn := fun _ => fun
  | [d1, d2] => { results := [.lit (.bool false)], args := [d1, d2] }
  | _ => none }
def TallyFaultsWrongFalsely : Prop := tallyFaultsRow.holds Try.pinned (OpenSpec.ofChange tallyFaultsWrong)

/-- 'comitialaw12.TallyZero': WHATEVER THE INPUT: true; the input reads as it did. -/
def tallyZeroSpec : ChangeSpec := { name := "tallyZero", fn := fun _ => fun
  | [d1, d2, d3, d4] => { results := [.lit (.bool true)], args := [d1, d2, d3, d4] }
  | _ => none }
def tallyZeroRow : OpenClaim := { program := "ytjjkabbncpalpaa", sum := "0ab190dee9e3c06ea366108974861aac39a9c9b46c87bda14a1f80f2ae8434f5", func := "comitia/comitialaw12.TallyZero", spec := "tallyZero", unfollowed := true, recurses := true, apart := false }
def TallyZeroSaid : Prop := tallyZeroRow.holds Try.pinned (OpenSpec.ofChange tallyZeroSpec)

/-- ITS FALSE NEIGHBOUR: 'it returns false'. Refute it at one input. -/
def tallyZeroWrong : ChangeSpec := { name := "tallyZero", fn := fun _ => fun
  | [d1, d2, d3, d4] => { results := [.lit (.bool false)], args := [d1, d2, d3, d4] }
  | _ => none }
def TallyZeroWrongFalsely : Prop := tallyZeroRow.holds Try.pinned (OpenSpec.ofChange tallyZeroWrong)

/- THE SECOND FORM. 'bulk': how many values and letters a reading holds, each counted each time it is reached (what is shared counts as often as it is met; a slice's spare places count too). A statement '..UptoSaid' is the law's where the arguments, and the package variables that the reading takes, are together of bulk at most 1048576: NARROWER than '..Said'. Prove '..Said' where nothing that the law and all that it calls make is longer than what came in: it says more and counts as full. Else prove '..UptoSaid'. A law counts once. -/
mutual
def uptoBulk {H : Type} : DataW H → Nat
  | .lit (.string bytes) => bytes.length + 1
  | .lit _ => 1
  | .nil => 1
  | .ptr d => uptoBulk d + 1
  | .slice elems spare => uptoBulkAll elems + uptoBulkAll spare + 1
  | .agg parts => uptoBulkAll parts + 1
  | .iface _ d => uptoBulk d + 1
  | .map entries => uptoBulkEntries entries + 1
  | .held _ => 1
def uptoBulkAll {H : Type} : List (DataW H) → Nat
  | [] => 0
  | d :: r => uptoBulk d + uptoBulkAll r
def uptoBulkEntries {H : Type} : List (Lit × DataW H) → Nat
  | [] => 0
  | x :: r => uptoBulkEntry x + uptoBulkEntries r
def uptoBulkEntry {H : Type} : Lit × DataW H → Nat
  | (.string bytes, d) => bytes.length + uptoBulk d + 1
  | (_, d) => uptoBulk d + 1
 end
def uptoSmall : (H : Type) → List (DataW H) → Bool := fun _ ds => decide (uptoBulkAll ds ≤ 1048576)
def OpenSpec.upto (s : _root_.Go.ChangeSpec) : _root_.Go.OpenSpec := { _root_.Go.OpenSpec.ofChange s with cond := some uptoSmall }

/-- 'comitialaw12.TallyPlays', WHERE WHAT IT READS IS OF BULK AT MOST 1048576: true; the input reads as it did. -/
def tallyPlaysUptoRow : OpenClaim := { program := "ytjjkabbncpalpaa", sum := "0ab190dee9e3c06ea366108974861aac39a9c9b46c87bda14a1f80f2ae8434f5", func := "comitia/comitialaw12.TallyPlays", spec := "tallyPlays", unfollowed := true, recurses := true, apart := false, narrowed := true }
def TallyPlaysUptoSaid : Prop := tallyPlaysUptoRow.holds Try.pinned (OpenSpec.upto tallyPlaysSpec)

/-- 'comitialaw12.TallyStays', WHERE WHAT IT READS IS OF BULK AT MOST 1048576: true; the input reads as it did. -/
def tallyStaysUptoRow : OpenClaim := { program := "ytjjkabbncpalpaa", sum := "0ab190dee9e3c06ea366108974861aac39a9c9b46c87bda14a1f80f2ae8434f5", func := "comitia/comitialaw12.TallyStays", spec := "tallyStays", unfollowed := true, recurses := true, apart := false, narrowed := true }
def TallyStaysUptoSaid : Prop := tallyStaysUptoRow.holds Try.pinned (OpenSpec.upto tallyStaysSpec)

/-- 'comitialaw12.TallyQuorums', WHERE WHAT IT READS IS OF BULK AT MOST 1048576: true; the input reads as it did. -/
def tallyQuorumsUptoRow : OpenClaim := { program := "ytjjkabbncpalpaa", sum := "0ab190dee9e3c06ea366108974861aac39a9c9b46c87bda14a1f80f2ae8434f5", func := "comitia/comitialaw12.TallyQuorums", spec := "tallyQuorums", unfollowed := true, recurses := true, apart := false, narrowed := true }
def TallyQuorumsUptoSaid : Prop := tallyQuorumsUptoRow.holds Try.pinned (OpenSpec.upto tallyQuorumsSpec)

/-- 'comitialaw12.TallyCounts', WHERE WHAT IT READS IS OF BULK AT MOST 1048576: true; the input reads as it did. -/
def tallyCountsUptoRow : OpenClaim := { program := "ytjjkabbncpalpaa", sum := "0ab190dee9e3c06ea366108974861aac39a9c9b46c87bda14a1f80f2ae8434f5", func := "comitia/comitialaw12.TallyCounts", spec := "tallyCounts", unfollowed := true, recurses := true, apart := false, narrowed := true }
def TallyCountsUptoSaid : Prop := tallyCountsUptoRow.holds Try.pinned (OpenSpec.upto tallyCountsSpec)

/-- 'comitialaw12.TallyFaults', WHERE WHAT IT READS IS OF BULK AT MOST 1048576: true; the input reads as it did. -/
def tallyFaultsUptoRow : OpenClaim := { program := "ytjjkabbncpalpaa", sum := "0ab190dee9e3c06ea366108974861aac39a9c9b46c87bda14a1f80f2ae8434f5", func := "comitia/comitialaw12.TallyFaults", spec := "tallyFaults", unfollowed := true, recurses := true, apart := false, narrowed := true }
def TallyFaultsUptoSaid : Prop := tallyFaultsUptoRow.holds Try.pinned (OpenSpec.upto tallyFaultsSpec)

/-- 'comitialaw12.TallyZero', WHERE WHAT IT READS IS OF BULK AT MOST 1048576: true; the input reads as it did. -/
def tallyZeroUptoRow : OpenClaim := { program := "ytjjkabbncpalpaa", sum := "0ab190dee9e3c06ea366108974861aac39a9c9b46c87bda14a1f80f2ae8434f5", func := "comitia/comitialaw12.TallyZero", spec := "tallyZero", unfollowed := true, recurses := true, apart := false, narrowed := true }
def TallyZeroUptoSaid : Prop := tallyZeroUptoRow.holds Try.pinned (OpenSpec.upto tallyZeroSpec)

end Rows
end Go.Proofs.Ytjjkabbncpalpaa
