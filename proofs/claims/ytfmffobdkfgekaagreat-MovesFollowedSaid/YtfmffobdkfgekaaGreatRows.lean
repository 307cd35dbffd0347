/-
  No cell of these rows narrows 'for every input' (looked for: loops, veiled, ifaces, maps, wideKeys, modest, calm, conditions, laid).
  DERIVED. THE GIVEN ROWS OF THIS SEAT. 3 by the template 'for every input the law returns true; each argument reads behind the call as it read before'; 0 by the template 'total and deterministic' (their statements: YtfmffobdkfgekaaGreatTotals.lean).
  GIVEN WITH THE SEED: the statements are not yours to turn. If you find one false, say at which input.
  Laid BY PROGRAM, IN A SANDBOX (cutbox-rows.mjs): the forced cells as the released guide's own fill.sh prints them over the translation 3f4bd924a4be0391… (all of the seat's roots in one cut). By AI agents, Wed Nov 11 2026. No macro, syntax, notation, axiom, sorry.
-/
import Derived.Test.YtfmffobdkfgekaaGreatChecked
import GoSem.Claim
import GoSem.ClaimJoined
import GoSem.ClaimMapViews
import Derived.JoinedTies
import Derived.KernelRfl
namespace Go.Proofs.YtfmffobdkfgekaaGreat
/- THE CELL 'sum', in the pinned program and in every row, IS THE sha256 OF THE DUMP (.gsa) THAT YtfmffobdkfgekaaGreatProg.lean LOADS. Nothing in Lean hashes anything: it is a label: what it is worth is what the hold of that sum in a sandbox is worth. -/
noncomputable def Tryz.pinned : Pinned := { name := "ytfmffobdkfgekaagreat", sum := "3f4bd924a4be0391c84326982a213981f12d162392b8af68da3b11ae0c6e7770", checked := Tryz.checked }
namespace Rows
def none {H : Type} : Left H := { results := [], args := [] }

/-- 'benchlaw2.MovesFollowed': WHATEVER THE INPUT: true; the input reads as it did. -/
def movesFollowedSpec : ChangeSpec := { name := "movesFollowed", fn := fun _ => fun
  | [d] => { results := [.lit (.bool true)], args := [d] }
  | _ => none }
def movesFollowedRow : OpenClaim := { program := "ytfmffobdkfgekaagreat", sum := "3f4bd924a4be0391c84326982a213981f12d162392b8af68da3b11ae0c6e7770", func := "benchwarmer/benchlaw2.MovesFollowed", spec := "movesFollowed", inPlace := ["internal/bytealg.abigen_runtime_cmpstring", "slices.overlaps[string]", "internal/bytealg.IndexByteString"], unfollowed := true, recurses := true, plainKeys := false, apart := false }
def MovesFollowedSaid : Prop := movesFollowedRow.holds Tryz.pinned (OpenSpec.ofChange movesFollowedSpec)

/-- ITS FALSE NEIGHBOUR: 'it returns false'. Refute it at one input. -/
def movesFollowedWrong : ChangeSpec := { name := "movesFollowed", fn := fun _ => fun
  | [d] => { results := [.lit (.bool false)], args := [d] }
  | _ => none }
def MovesFollowedWrongFalsely : Prop := movesFollowedRow.holds Tryz.pinned (OpenSpec.ofChange movesFollowedWrong)

/-- 'benchlaw2.RostersKept': WHATEVER THE INPUT: true; the input reads as it did. -/
def rostersKeptSpec : ChangeSpec := { name := "rostersKept", fn := fun _ => fun
  | [d] => { results := [.lit (.bool true)], args := [d] }
  | _ => none }
def rostersKeptRow : OpenClaim := { program := "ytfmffobdkfgekaagreat", sum := "3f4bd924a4be0391c84326982a213981f12d162392b8af68da3b11ae0c6e7770", func := "benchwarmer/benchlaw2.RostersKept", spec := "rostersKept", inPlace := ["internal/bytealg.abigen_runtime_cmpstring", "slices.overlaps[string]", "internal/bytealg.IndexByteString"], unfollowed := true, recurses := true, plainKeys := false, apart := false }
def RostersKeptSaid : Prop := rostersKeptRow.holds Tryz.pinned (OpenSpec.ofChange rostersKeptSpec)

/-- ITS FALSE NEIGHBOUR: 'it returns false'. Refute it at one input. -/
def rostersKeptWrong : ChangeSpec := { name := "rostersKept", fn := fun _ => fun
  | [d] => { results := [.lit (.bool false)], args := [d] }
  | _ => none }
def RostersKeptWrongFalsely : Prop := rostersKeptRow.holds Tryz.pinned (OpenSpec.ofChange rostersKeptWrong)

/-- 'benchlaw2.ClaimsSettled': WHATEVER THE INPUT: true; the input reads as it did. -/
def claimsSettledSpec : ChangeSpec := { name := "claimsSettled", fn := fun _ => fun
  | [d] => { results := [.lit (.bool true)], args := [d] }
  | _ => none }
def claimsSettledRow : OpenClaim := { program := "ytfmffobdkfgekaagreat", sum := "3f4bd924a4be0391c84326982a213981f12d162392b8af68da3b11ae0c6e7770", func := "benchwarmer/benchlaw2.ClaimsSettled", spec := "claimsSettled", inPlace := ["internal/bytealg.abigen_runtime_cmpstring", "slices.overlaps[string]", "internal/bytealg.IndexByteString"], unfollowed := true, recurses := true, plainKeys := false, apart := false }
def ClaimsSettledSaid : Prop := claimsSettledRow.holds Tryz.pinned (OpenSpec.ofChange claimsSettledSpec)

/-- ITS FALSE NEIGHBOUR: 'it returns false'. Refute it at one input. -/
def claimsSettledWrong : ChangeSpec := { name := "claimsSettled", fn := fun _ => fun
  | [d] => { results := [.lit (.bool false)], args := [d] }
  | _ => none }
def ClaimsSettledWrongFalsely : Prop := claimsSettledRow.holds Tryz.pinned (OpenSpec.ofChange claimsSettledWrong)

/- THE SECOND FORM. 'bulk': how many values and letters a reading holds, each counted each time it is reached (what is shared counts as often as it is met; a slice's spare places count too). A statement '..UptoSaid' is the law's where the arguments, and the package variables that the reading takes, are together of bulk at most 1048576: NARROWER than '..Said'. Prove '..Said' where nothing that the law and all that it calls make is longer than what came in: it says more and counts as full. Else prove '..UptoSaid'. A law counts once. -/
mutual
def uptoBulk {H : Type} : DataW H → Nat
  | .lit (.string bytes) => bytes.length + 1
  | .lit _ => 1
  | .nil => 1
  | .ptr d => uptoBulk d + 1
  | .slice elems spare => uptoBulkAll elems + uptoBulkAll spare + 1
  | .agg parts => uptoBulkAll parts + 1
  | .iface _ d => uptoBulk d + 1
  | .map entries => uptoBulkEntries entries + 1
  | .held _ => 1
def uptoBulkAll {H : Type} : List (DataW H) → Nat
  | [] => 0
  | d :: r => uptoBulk d + uptoBulkAll r
def uptoBulkEntries {H : Type} : List (Lit × DataW H) → Nat
  | [] => 0
  | x :: r => uptoBulkEntry x + uptoBulkEntries r
def uptoBulkEntry {H : Type} : Lit × DataW H → Nat
  | (.string bytes, d) => bytes.length + uptoBulk d + 1
  | (_, d) => uptoBulk d + 1
 end
def uptoSmall : (H : Type) → List (DataW H) → Bool := fun _ ds => decide (uptoBulkAll ds ≤ 1048576)
def OpenSpec.upto (s : _root_.Go.ChangeSpec) : _root_.Go.OpenSpec := { _root_.Go.OpenSpec.ofChange s with cond := some uptoSmall }

/-- 'benchlaw2.MovesFollowed', WHERE WHAT IT READS IS OF BULK AT MOST 1048576: true; the input reads as it did. -/
def movesFollowedUptoRow : OpenClaim := { program := "ytfmffobdkfgekaagreat", sum := "3f4bd924a4be0391c84326982a213981f12d162392b8af68da3b11ae0c6e7770", func := "benchwarmer/benchlaw2.MovesFollowed", spec := "movesFollowed", inPlace := ["internal/bytealg.abigen_runtime_cmpstring", "slices.overlaps[string]", "internal/bytealg.IndexByteString"], unfollowed := true, recurses := true, plainKeys := false, apart := false, narrowed := true }
def MovesFollowedUptoSaid : Prop := movesFollowedUptoRow.holds Tryz.pinned (OpenSpec.upto movesFollowedSpec)

/-- 'benchlaw2.RostersKept', WHERE WHAT IT READS IS OF BULK AT MOST 1048576: true; the input reads as it did. -/
def rostersKeptUptoRow : OpenClaim := { program := "ytfmffobdkfgekaagreat", sum := "3f4bd924a4be0391c84326982a213981f12d162392b8af68da3b11ae0c6e7770", func := "benchwarmer/benchlaw2.RostersKept", spec := "rostersKept", inPlace := ["internal/bytealg.abigen_runtime_cmpstring", "slices.overlaps[string]", "internal/bytealg.IndexByteString"], unfollowed := true, recurses := true, plainKeys := false, apart := false, narrowed := true }
def RostersKeptUptoSaid : Prop := rostersKeptUptoRow.holds Tryz.pinned (OpenSpec.upto rostersKeptSpec)

/-- 'benchlaw2.ClaimsSettled', WHERE WHAT IT READS IS OF BULK AT MOST 1048576: true; the input reads as it did. -/
def claimsSettledUptoRow : OpenClaim := { program := "ytfmffobdkfgekaagreat", sum := "3f4bd924a4be0391c84326982a213981f12d162392b8af68da3b11ae0c6e7770", func := "benchwarmer/benchlaw2.ClaimsSettled", spec := "claimsSettled", inPlace := ["internal/bytealg.abigen_runtime_cmpstring", "slices.overlaps[string]", "internal/bytealg.IndexByteString"], unfollowed := true, recurses := true, plainKeys := false, apart := false, narrowed := true }
def ClaimsSettledUptoSaid : Prop := claimsSettledUptoRow.holds Tryz.pinned (OpenSpec.upto claimsSettledSpec)

end Rows
end Go.Proofs.YtfmffobdkfgekaaGreat
