/-
  No cell of these rows narrows 'for every input' (looked for: loops, veiled, ifaces, maps, wideKeys, modest, calm, conditions, laid).
  DERIVED. THE GIVEN ROWS OF THIS SEAT. 9 by the template 'for every input the law returns true; each argument reads behind the call as it read before'; 0 by the template 'total and deterministic' (their statements: YtofidghilcbegaaTotals.lean).
  GIVEN WITH THE SEED: the statements are not yours to turn. If you find one false, say at which input.
  Laid BY PROGRAM, IN A SANDBOX (cutbox-rows.mjs): the forced cells as the released guide's own fill.sh prints them over the translation e6482cb9d11300ff… (all of the seat's roots in one cut). By AI agents, Wed Nov 11 2026. No macro, syntax, notation, axiom, sorry.
-/
import Derived.Test.YtofidghilcbegaaChecked
import GoSem.Claim
import GoSem.ClaimJoined
import GoSem.ClaimMapViews
import Derived.JoinedTies
import Derived.KernelRfl
namespace Go.Proofs.Ytofidghilcbegaa
/- THE CELL 'sum', in the pinned program and in every row, IS THE sha256 OF THE DUMP (.gsa) THAT YtofidghilcbegaaProg.lean LOADS. Nothing in Lean hashes anything: it is a label: what it is worth is what the hold of that sum in a sandbox is worth. -/
noncomputable def Try.pinned : Pinned := { name := "ytofidghilcbegaa", sum := "e6482cb9d11300ff4edf16592b7b451f7a1dd3c45755711e3188e65f5847b00f", checked := Try.checked }
namespace Rows
def none {H : Type} : Left H := { results := [], args := [] }

/-- 'rootstocklaw13.GramsChecks': WHATEVER THE INPUT: true; the input reads as it did. -/
def gramsChecksSpec : ChangeSpec := { name := "gramsChecks", fn := fun _ => fun
  | [d] => { results := [.lit (.bool true)], args := [d] }
  | _ => none }
def gramsChecksRow : OpenClaim := { program := "ytofidghilcbegaa", sum := "e6482cb9d11300ff4edf16592b7b451f7a1dd3c45755711e3188e65f5847b00f", func := "rootstock/rootstocklaw13.GramsChecks", spec := "gramsChecks", unfollowed := true, recurses := true, apart := false }
def GramsChecksSaid : Prop := gramsChecksRow.holds Try.pinned (OpenSpec.ofChange gramsChecksSpec)

/-- ITS FALSE NEIGHBOUR: 'it returns false'. Refute it at one input. -/
def gramsChecksWrong : ChangeSpec := { name := "gramsChecks", fn := fun _ => fun
  | [d] => { results := [.lit (.bool false)], args := [d] }
  | _ => none }
def GramsChecksWrongFalsely : Prop := gramsChecksRow.holds Try.pinned (OpenSpec.ofChange gramsChecksWrong)

/-- 'rootstocklaw13.GramsFirsts': WHATEVER THE INPUT: true; the input reads as it did. -/
def gramsFirstsSpec : ChangeSpec := { name := "gramsFirsts", fn := fun _ => fun
  | [d1, d2] => { results := [.lit (.bool true)], args := [d1, d2] }
  | _ => none }
def gramsFirstsRow : OpenClaim := { program := "ytofidghilcbegaa", sum := "e6482cb9d11300ff4edf16592b7b451f7a1dd3c45755711e3188e65f5847b00f", func := "rootstock/rootstocklaw13.GramsFirsts", spec := "gramsFirsts", unfollowed := true, recurses := true, apart := false }
def GramsFirstsSaid : Prop := gramsFirstsRow.holds Try.pinned (OpenSpec.ofChange gramsFirstsSpec)

/-- ITS FALSE NEIGHBOUR: 'it returns false'. Refute it at one input. -/
def gramsFirstsWrong : ChangeSpec := { name := "gramsFirsts", fn := fun _ => fun
  | [d1, d2] => { results := [.lit (.bool false)], args := [d1, d2] }
  | _ => none }
def GramsFirstsWrongFalsely : Prop := gramsFirstsRow.holds Try.pinned (OpenSpec.ofChange gramsFirstsWrong)

/-- 'rootstocklaw13.GramsFollows': WHATEVER THE INPUT: true; the input reads as it did. -/
def gramsFollowsSpec : ChangeSpec := { name := "gramsFollows", fn := fun _ => fun
  | [d1, d2] => { results := [.lit (.bool true)], args := [d1, d2] }
  | _ => none }
def gramsFollowsRow : OpenClaim := { program := "ytofidghilcbegaa", sum := "e6482cb9d11300ff4edf16592b7b451f7a1dd3c45755711e3188e65f5847b00f", func := "rootstock/rootstocklaw13.GramsFollows", spec := "gramsFollows", unfollowed := true, recurses := true, apart := false }
def GramsFollowsSaid : Prop := gramsFollowsRow.holds Try.pinned (OpenSpec.ofChange gramsFollowsSpec)

/-- ITS FALSE NEIGHBOUR: 'it returns false'. Refute it at one input. -/
def gramsFollowsWrong : ChangeSpec := { name := "gramsFollows", fn := fun _ => fun
  | [d1, d2] => { results := [.lit (.bool false)], args := [d1, d2] }
  | _ => none }
def GramsFollowsWrongFalsely : Prop := gramsFollowsRow.holds Try.pinned (OpenSpec.ofChange gramsFollowsWrong)

/-- 'rootstocklaw13.GramsTurned': WHATEVER THE INPUT: true; the input reads as it did. -/
def gramsTurnedSpec : ChangeSpec := { name := "gramsTurned", fn := fun _ => fun
  | [d1, d2] => { results := [.lit (.bool true)], args := [d1, d2] }
  | _ => none }
def gramsTurnedRow : OpenClaim := { program := "ytofidghilcbegaa", sum := "e6482cb9d11300ff4edf16592b7b451f7a1dd3c45755711e3188e65f5847b00f", func := "rootstock/rootstocklaw13.GramsTurned", spec := "gramsTurned", unfollowed := true, recurses := true, apart := false }
def GramsTurnedSaid : Prop := gramsTurnedRow.holds Try.pinned (OpenSpec.ofChange gramsTurnedSpec)

/-- ITS FALSE NEIGHBOUR: 'it returns false'. Refute it at one input. -/
def gramsTurnedWrong : ChangeSpec := { name := "gramsTurned", fn := fun _ => fun
  | [d1, d2] => { results := [.lit (.bool false)], args := [d1, d2] }
  | _ => none }
def GramsTurnedWrongFalsely : Prop := gramsTurnedRow.holds Try.pinned (OpenSpec.ofChange gramsTurnedWrong)

/-- 'rootstocklaw13.GramsWhy': WHATEVER THE INPUT: true; the input reads as it did. -/
def gramsWhySpec : ChangeSpec := { name := "gramsWhy", fn := fun _ => fun
  | [d1, d2] => { results := [.lit (.bool true)], args := [d1, d2] }
  | _ => none }
def gramsWhyRow : OpenClaim := { program := "ytofidghilcbegaa", sum := "e6482cb9d11300ff4edf16592b7b451f7a1dd3c45755711e3188e65f5847b00f", func := "rootstock/rootstocklaw13.GramsWhy", spec := "gramsWhy", unfollowed := true, recurses := true, apart := false }
def GramsWhySaid : Prop := gramsWhyRow.holds Try.pinned (OpenSpec.ofChange gramsWhySpec)

/-- ITS FALSE NEIGHBOUR: 'it returns false'. Refute it at one input. -/
def gramsWhyWrong : ChangeSpec := { name := "gramsWhy", fn := fun _ => fun
  | [d1, d2] => { results := [.lit (.bool false)], args := [d1, d2] }
  | _ => none }
def GramsWhyWrongFalsely : Prop := gramsWhyRow.holds Try.pinned (OpenSpec.ofChange gramsWhyWrong)

/-- 'rootstocklaw13.GramsGrow': WHATEVER THE INPUT: true; the input reads as it did. -/
def gramsGrowSpec : ChangeSpec := { name := "gramsGrow", fn := fun _ => fun
  | [d1, d2, d3] => { results := [.lit (.bool true)], args := [d1, d2, d3] }
  | _ => none }
def gramsGrowRow : OpenClaim := { program := "ytofidghilcbegaa", sum := "e6482cb9d11300ff4edf16592b7b451f7a1dd3c45755711e3188e65f5847b00f", func := "rootstock/rootstocklaw13.GramsGrow", spec := "gramsGrow", unfollowed := true, recurses := true, apart := false }
def GramsGrowSaid : Prop := gramsGrowRow.holds Try.pinned (OpenSpec.ofChange gramsGrowSpec)

/-- ITS FALSE NEIGHBOUR: 'it returns false'. Refute it at one input. -/
def gramsGrowWrong : ChangeSpec := { name := "gramsGrow", fn := fun _ => fun
  | [d1, d2, d3] => { results := [.lit (.bool false)], args := [d1, d2, d3] }
  | _ => none }
def GramsGrowWrongFalsely : Prop := gramsGrowRow.holds Try.pinned (OpenSpec.ofChange gramsGrowWrong)

/-- 'rootstocklaw13.GramsOfs': WHATEVER THE INPUT: true; the input reads as it did. -/
def gramsOfsSpec : ChangeSpec := { name := "gramsOfs", fn := fun _ => fun
  | [d1, d2] => { results := [.lit (.bool true)], args := [d1, d2] }
  | _ => none }
def gramsOfsRow : OpenClaim := { program := "ytofidghilcbegaa", sum := "e6482cb9d11300ff4edf16592b7b451f7a1dd3c45755711e3188e65f5847b00f", func := "rootstock/rootstocklaw13.GramsOfs", spec := "gramsOfs", unfollowed := true, recurses := true, apart := false }
def GramsOfsSaid : Prop := gramsOfsRow.holds Try.pinned (OpenSpec.ofChange gramsOfsSpec)

/-- ITS FALSE NEIGHBOUR: 'it returns false'. Refute it at one input. -/
def gramsOfsWrong : ChangeSpec := { name := "gramsOfs", fn := fun _ => fun
  | [d1, d2] => { results := [.lit (.bool false)], args := [d1, d2] }
  | _ => none }
def GramsOfsWrongFalsely : Prop := gramsOfsRow.holds Try.pinned (OpenSpec.ofChange gramsOfsWrong)

/-- 'rootstocklaw13.GramsBegins': WHATEVER THE INPUT: true; the input reads as it did. -/
def gramsBeginsSpec : ChangeSpec := { name := "gramsBegins", fn := fun _ => fun
  | [d] => { results := [.lit (.bool true)], args := [d] }
  | _ => none }
def gramsBeginsRow : OpenClaim := { program := "ytofidghilcbegaa", sum := "e6482cb9d11300ff4edf16592b7b451f7a1dd3c45755711e3188e65f5847b00f", func := "rootstock/rootstocklaw13.GramsBegins", spec := "gramsBegins", unfollowed := true, recurses := true, apart := false }
def GramsBeginsSaid : Prop := gramsBeginsRow.holds Try.pinned (OpenSpec.ofChange gramsBeginsSpec)

/-- ITS FALSE NEIGHBOUR: 'it returns false'. Refute it at one input. -/
def gramsBeginsWrong : ChangeSpec := { name := "gramsBegins", fn := fun _ => fun
  | [d] => { results := [.lit (.bool false)], args := [d] }
  | _ => none }
def GramsBeginsWrongFalsely : Prop := gramsBeginsRow.holds Try.pinned (OpenSpec.ofChange gramsBeginsWrong)

/-- 'rootstocklaw13.GramsRows': WHATEVER THE INPUT: true; the input reads as it did. -/
def gramsRowsSpec : ChangeSpec := { name := "gramsRows", fn := fun _ => fun
  | [d1, d2] => { results := [.lit (.bool true)], args := [d1, d2] }
  | _ => none }
def gramsRowsRow : OpenClaim := { program := "ytofidghilcbegaa", sum := "e6482cb9d11300ff4edf16592b7b451f7a1dd3c45755711e3188e65f5847b00f", func := "rootstock/rootstocklaw13.GramsRows", spec := "gramsRows", unfollowed := true, recurses := true, apart := false }
def GramsRowsSaid : Prop := gramsRowsRow.holds Try.pinned (OpenSpec.ofChange gramsRowsSpec)

/-- ITS FALSE NEIGHBOUR: 'it returns false'. Refute it at one input. -/
def gramsRowsWrong : ChangeSpec := { name := "gramsRows", fn := fun _ => fun
  | [d1, d2] => { results := [.lit (.bool false)], args := [d1, d2] }
  | _ => none }
def GramsRowsWrongFalsely : Prop := gramsRowsRow.holds Try.pinned (OpenSpec.ofChange gramsRowsWrong)

/- THE SECOND FORM. 'bulk': how many values and letters a reading holds, each counted each time it is reached (what is shared counts as often as it is met; a slice's spare places count too). A statement '..UptoSaid' is the law's where the arguments, and the package variables that the reading takes, are together of bulk at most 1048576: NARROWER than '..Said'. Prove '..Said' where nothing that the law and all that it calls make is longer than what came in: it says more and counts as full. Else prove '..UptoSaid'. A law counts once. -/
mutual
def uptoBulk {H : Type} : DataW H → Nat
  | .lit (.string bytes) => bytes.length + 1
  | .lit _ => 1
  | .nil => 1
  | .ptr d => uptoBulk d + 1
  | .slice elems spare => uptoBulkAll elems + uptoBulkAll spare + 1
  | .agg parts => uptoBulkAll parts + 1
  | .iface _ d => uptoBulk d + 1
  | .map entries => uptoBulkEntries entries + 1
  | .held _ => 1
def uptoBulkAll {H : Type} : List (DataW H) → Nat
  | [] => 0
  | d :: r => uptoBulk d + uptoBulkAll r
def uptoBulkEntries {H : Type} : List (Lit × DataW H) → Nat
  | [] => 0
  | x :: r => uptoBulkEntry x + uptoBulkEntries r
def uptoBulkEntry {H : Type} : Lit × DataW H → Nat
  | (.string bytes, d) => bytes.length + uptoBulk d + 1
  | (_, d) => uptoBulk d + 1
 end
def uptoSmall : (H : Type) → List (DataW H) → Bool := fun _ ds => decide (uptoBulkAll ds ≤ 1048576)
def OpenSpec.upto (s : _root_.Go.ChangeSpec) : _root_.Go.OpenSpec := { _root_.Go.OpenSpec.ofChange s with cond := some uptoSmall }

/-- 'rootstocklaw13.GramsChecks', WHERE WHAT IT READS IS OF BULK AT MOST 1048576: true; the input reads as it did. -/
def gramsChecksUptoRow : OpenClaim := { program := "ytofidghilcbegaa", sum := "e6482cb9d11300ff4edf16592b7b451f7a1dd3c45755711e3188e65f5847b00f", func := "rootstock/rootstocklaw13.GramsChecks", spec := "gramsChecks", unfollowed := true, recurses := true, apart := false, narrowed := true }
def GramsChecksUptoSaid : Prop := gramsChecksUptoRow.holds Try.pinned (OpenSpec.upto gramsChecksSpec)

/-- 'rootstocklaw13.GramsFirsts', WHERE WHAT IT READS IS OF BULK AT MOST 1048576: true; the input reads as it did. -/
def gramsFirstsUptoRow : OpenClaim := { program := "ytofidghilcbegaa", sum := "e6482cb9d11300ff4edf16592b7b451f7a1dd3c45755711e3188e65f5847b00f", func := "rootstock/rootstocklaw13.GramsFirsts", spec := "gramsFirsts", unfollowed := true, recurses := true, apart := false, narrowed := true }
def GramsFirstsUptoSaid : Prop := gramsFirstsUptoRow.holds Try.pinned (OpenSpec.upto gramsFirstsSpec)

/-- 'rootstocklaw13.GramsFollows', WHERE WHAT IT READS IS OF BULK AT MOST 1048576: true; the input reads as it did. -/
def gramsFollowsUptoRow : OpenClaim := { program := "ytofidghilcbegaa", sum := "e6482cb9d11300ff4edf16592b7b451f7a1dd3c45755711e3188e65f5847b00f", func := "rootstock/rootstocklaw13.GramsFollows", spec := "gramsFollows", unfollowed := true, recurses := true, apart := false, narrowed := true }
def GramsFollowsUptoSaid : Prop := gramsFollowsUptoRow.holds Try.pinned (OpenSpec.upto gramsFollowsSpec)

/-- 'rootstocklaw13.GramsTurned', WHERE WHAT IT READS IS OF BULK AT MOST 1048576: true; the input reads as it did. -/
def gramsTurnedUptoRow : OpenClaim := { program := "ytofidghilcbegaa", sum := "e6482cb9d11300ff4edf16592b7b451f7a1dd3c45755711e3188e65f5847b00f", func := "rootstock/rootstocklaw13.GramsTurned", spec := "gramsTurned", unfollowed := true, recurses := true, apart := false, narrowed := true }
def GramsTurnedUptoSaid : Prop := gramsTurnedUptoRow.holds Try.pinned (OpenSpec.upto gramsTurnedSpec)

/-- 'rootstocklaw13.GramsWhy', WHERE WHAT IT READS IS OF BULK AT MOST 1048576: true; the input reads as it did. -/
def gramsWhyUptoRow : OpenClaim := { program := "ytofidghilcbegaa", sum := "e6482cb9d11300ff4edf16592b7b451f7a1dd3c45755711e3188e65f5847b00f", func := "rootstock/rootstocklaw13.GramsWhy", spec := "gramsWhy", unfollowed := true, recurses := true, apart := false, narrowed := true }
def GramsWhyUptoSaid : Prop := gramsWhyUptoRow.holds Try.pinned (OpenSpec.upto gramsWhySpec)

/-- 'rootstocklaw13.GramsGrow', WHERE WHAT IT READS IS OF BULK AT MOST 1048576: true; the input reads as it did. -/
def gramsGrowUptoRow : OpenClaim := { program := "ytofidghilcbegaa", sum := "e6482cb9d11300ff4edf16592b7b451f7a1dd3c45755711e3188e65f5847b00f", func := "rootstock/rootstocklaw13.GramsGrow", spec := "gramsGrow", unfollowed := true, recurses := true, apart := false, narrowed := true }
def GramsGrowUptoSaid : Prop := gramsGrowUptoRow.holds Try.pinned (OpenSpec.upto gramsGrowSpec)

/-- 'rootstocklaw13.GramsOfs', WHERE WHAT IT READS IS OF BULK AT MOST 1048576: true; the input reads as it did. -/
def gramsOfsUptoRow : OpenClaim := { program := "ytofidghilcbegaa", sum := "e6482cb9d11300ff4edf16592b7b451f7a1dd3c45755711e3188e65f5847b00f", func := "rootstock/rootstocklaw13.GramsOfs", spec := "gramsOfs", unfollowed := true, recurses := true, apart := false, narrowed := true }
def GramsOfsUptoSaid : Prop := gramsOfsUptoRow.holds Try.pinned (OpenSpec.upto gramsOfsSpec)

/-- 'rootstocklaw13.GramsBegins', WHERE WHAT IT READS IS OF BULK AT MOST 1048576: true; the input reads as it did. -/
def gramsBeginsUptoRow : OpenClaim := { program := "ytofidghilcbegaa", sum := "e6482cb9d11300ff4edf16592b7b451f7a1dd3c45755711e3188e65f5847b00f", func := "rootstock/rootstocklaw13.GramsBegins", spec := "gramsBegins", unfollowed := true, recurses := true, apart := false, narrowed := true }
def GramsBeginsUptoSaid : Prop := gramsBeginsUptoRow.holds Try.pinned (OpenSpec.upto gramsBeginsSpec)

/-- 'rootstocklaw13.GramsRows', WHERE WHAT IT READS IS OF BULK AT MOST 1048576: true; the input reads as it did. -/
def gramsRowsUptoRow : OpenClaim := { program := "ytofidghilcbegaa", sum := "e6482cb9d11300ff4edf16592b7b451f7a1dd3c45755711e3188e65f5847b00f", func := "rootstock/rootstocklaw13.GramsRows", spec := "gramsRows", unfollowed := true, recurses := true, apart := false, narrowed := true }
def GramsRowsUptoSaid : Prop := gramsRowsUptoRow.holds Try.pinned (OpenSpec.upto gramsRowsSpec)

end Rows
end Go.Proofs.Ytofidghilcbegaa
