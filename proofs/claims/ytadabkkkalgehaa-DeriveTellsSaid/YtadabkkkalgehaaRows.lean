/-
  NARROWER THAN 'FOR EVERY INPUT', by the rows' own cells (each row's printed sentence says how): DeriveFits: loops · DeriveTrees: loops.
  DERIVED. THE GIVEN ROWS OF THIS SEAT. 6 by the template 'for every input the law returns true; each argument reads behind the call as it read before'; 0 by the template 'total and deterministic' (their statements: YtadabkkkalgehaaTotals.lean).
  GIVEN WITH THE SEED: the statements are not yours to turn. If you find one false, say at which input.
  Laid BY PROGRAM, IN A SANDBOX (cutbox-rows.mjs): the forced cells as the released guide's own fill.sh prints them over the translation 899cfdfec3493908… (all of the seat's roots in one cut). By AI agents, Wed Nov 11 2026. No macro, syntax, notation, axiom, sorry.
-/
import Derived.Test.YtadabkkkalgehaaChecked
import GoSem.Claim
import GoSem.ClaimJoined
import GoSem.ClaimMapViews
import Derived.JoinedTies
import Derived.KernelRfl
namespace Go.Proofs.Ytadabkkkalgehaa
/- THE CELL 'sum', in the pinned program and in every row, IS THE sha256 OF THE DUMP (.gsa) THAT YtadabkkkalgehaaProg.lean LOADS. Nothing in Lean hashes anything: it is a label: what it is worth is what the hold of that sum in a sandbox is worth. -/
noncomputable def Try.pinned : Pinned := { name := "ytadabkkkalgehaa", sum := "899cfdfec349390883389521203daf917dcce57bc1256b20e54e99f5a3e207f8", checked := Try.checked }
namespace Rows
def none {H : Type} : Left H := { results := [], args := [] }

/-- 'rootstocklaw14.DeriveTells': WHATEVER THE INPUT: true; the input reads as it did. -/
def deriveTellsSpec : ChangeSpec := { name := "deriveTells", fn := fun _ => fun
  | [d1, d2, d3] => { results := [.lit (.bool true)], args := [d1, d2, d3] }
  | _ => none }
def deriveTellsRow : OpenClaim := { program := "ytadabkkkalgehaa", sum := "899cfdfec349390883389521203daf917dcce57bc1256b20e54e99f5a3e207f8", func := "rootstock/rootstocklaw14.DeriveTells", spec := "deriveTells", unfollowed := true, recurses := true, plainKeys := false, apart := false }
def DeriveTellsSaid : Prop := deriveTellsRow.holds Try.pinned (OpenSpec.ofChange deriveTellsSpec)

/-- ITS FALSE NEIGHBOUR: 'it returns false'. Refute it at one input. -/
def deriveTellsWrong : ChangeSpec := { name := "deriveTells", fn := fun _ => fun
  | [d1, d2, d3] => { results := [.lit (.bool false)], args := [d1, d2, d3] }
  | _ => none }
def DeriveTellsWrongFalsely : Prop := deriveTellsRow.holds Try.pinned (OpenSpec.ofChange deriveTellsWrong)

/-- 'rootstocklaw14.DeriveFits': WHATEVER THE INPUT: true; the input reads as it did. -/
def deriveFitsSpec : ChangeSpec := { name := "deriveFits", fn := fun _ => fun
  | [d1, d2] => { results := [.lit (.bool true)], args := [d1, d2] }
  | _ => none }
def deriveFitsRow : OpenClaim := { program := "ytadabkkkalgehaa", sum := "899cfdfec349390883389521203daf917dcce57bc1256b20e54e99f5a3e207f8", func := "rootstock/rootstocklaw14.DeriveFits", spec := "deriveFits", unfollowed := true, recurses := true, loops := true, plainKeys := false, apart := false }
def DeriveFitsSaid : Prop := deriveFitsRow.holds Try.pinned (OpenSpec.ofChange deriveFitsSpec)

/-- ITS FALSE NEIGHBOUR: 'it returns false'. Refute it at one input. -/
def deriveFitsWrong : ChangeSpec := { name := "deriveFits", fn := fun _ => fun
  | [d1, d2] => { results := [.lit (.bool false)], args := [d1, d2] }
  | _ => none }
def DeriveFitsWrongFalsely : Prop := deriveFitsRow.holds Try.pinned (OpenSpec.ofChange deriveFitsWrong)

/-- 'rootstocklaw14.DeriveLong': WHATEVER THE INPUT: true; the input reads as it did. -/
def deriveLongSpec : ChangeSpec := { name := "deriveLong", fn := fun _ => fun
  | [d] => { results := [.lit (.bool true)], args := [d] }
  | _ => none }
def deriveLongRow : OpenClaim := { program := "ytadabkkkalgehaa", sum := "899cfdfec349390883389521203daf917dcce57bc1256b20e54e99f5a3e207f8", func := "rootstock/rootstocklaw14.DeriveLong", spec := "deriveLong", unfollowed := true, recurses := true, plainKeys := false, apart := false }
def DeriveLongSaid : Prop := deriveLongRow.holds Try.pinned (OpenSpec.ofChange deriveLongSpec)

/-- ITS FALSE NEIGHBOUR: 'it returns false'. Refute it at one input. -/
def deriveLongWrong : ChangeSpec := { name := "deriveLong", fn := fun _ => fun
  | [d] => { results := [.lit (.bool false)], args := [d] }
  | _ => none }
def DeriveLongWrongFalsely : Prop := deriveLongRow.holds Try.pinned (OpenSpec.ofChange deriveLongWrong)

/-- 'rootstocklaw14.DeriveTrees': WHATEVER THE INPUT: true; the input reads as it did. -/
def deriveTreesSpec : ChangeSpec := { name := "deriveTrees", fn := fun _ => fun
  | [d1, d2] => { results := [.lit (.bool true)], args := [d1, d2] }
  | _ => none }
def deriveTreesRow : OpenClaim := { program := "ytadabkkkalgehaa", sum := "899cfdfec349390883389521203daf917dcce57bc1256b20e54e99f5a3e207f8", func := "rootstock/rootstocklaw14.DeriveTrees", spec := "deriveTrees", unfollowed := true, recurses := true, loops := true, plainKeys := false, apart := false }
def DeriveTreesSaid : Prop := deriveTreesRow.holds Try.pinned (OpenSpec.ofChange deriveTreesSpec)

/-- ITS FALSE NEIGHBOUR: 'it returns false'. Refute it at one input. -/
def deriveTreesWrong : ChangeSpec := { name := "deriveTrees", fn := fun _ => fun
  | [d1, d2] => { results := [.lit (.bool false)], args := [d1, d2] }
  | _ => none }
def DeriveTreesWrongFalsely : Prop := deriveTreesRow.holds Try.pinned (OpenSpec.ofChange deriveTreesWrong)

/-- 'rootstocklaw14.DeriveBegins': WHATEVER THE INPUT: true; the input reads as it did. -/
def deriveBeginsSpec : ChangeSpec := { name := "deriveBegins", fn := fun _ => fun
  | [d1, d2] => { results := [.lit (.bool true)], args := [d1, d2] }
  | _ => none }
def deriveBeginsRow : OpenClaim := { program := "ytadabkkkalgehaa", sum := "899cfdfec349390883389521203daf917dcce57bc1256b20e54e99f5a3e207f8", func := "rootstock/rootstocklaw14.DeriveBegins", spec := "deriveBegins", unfollowed := true, recurses := true, plainKeys := false, apart := false }
def DeriveBeginsSaid : Prop := deriveBeginsRow.holds Try.pinned (OpenSpec.ofChange deriveBeginsSpec)

/-- ITS FALSE NEIGHBOUR: 'it returns false'. Refute it at one input. -/
def deriveBeginsWrong : ChangeSpec := { name := "deriveBegins", fn := fun _ => fun
  | [d1, d2] => { results := [.lit (.bool false)], args := [d1, d2] }
  | _ => none }
def DeriveBeginsWrongFalsely : Prop := deriveBeginsRow.holds Try.pinned (OpenSpec.ofChange deriveBeginsWrong)

/-- 'rootstocklaw14.DeriveParts': WHATEVER THE INPUT: true; the input reads as it did. -/
def derivePartsSpec : ChangeSpec := { name := "deriveParts", fn := fun _ => fun
  | [d1, d2, d3] => { results := [.lit (.bool true)], args := [d1, d2, d3] }
  | _ => none }
def derivePartsRow : OpenClaim := { program := "ytadabkkkalgehaa", sum := "899cfdfec349390883389521203daf917dcce57bc1256b20e54e99f5a3e207f8", func := "rootstock/rootstocklaw14.DeriveParts", spec := "deriveParts", unfollowed := true, recurses := true, plainKeys := false, apart := false }
def DerivePartsSaid : Prop := derivePartsRow.holds Try.pinned (OpenSpec.ofChange derivePartsSpec)

/-- ITS FALSE NEIGHBOUR: 'it returns false'. Refute it at one input. -/
def derivePartsWrong : ChangeSpec := { name := "deriveParts", fn := fun _ => fun
  | [d1, d2, d3] => { results := [.lit (.bool false)], args := [d1, d2, d3] }
  | _ => none }
def DerivePartsWrongFalsely : Prop := derivePartsRow.holds Try.pinned (OpenSpec.ofChange derivePartsWrong)

/- THE SECOND FORM. 'bulk': how many values and letters a reading holds, each counted each time it is reached (what is shared counts as often as it is met; a slice's spare places count too). A statement '..UptoSaid' is the law's where the arguments, and the package variables that the reading takes, are together of bulk at most 1048576: NARROWER than '..Said'. Prove '..Said' where nothing that the law and all that it calls make is longer than what came in: it says more and counts as full. Else prove '..UptoSaid'. A law counts once. -/
mutual
def uptoBulk {H : Type} : DataW H → Nat
  | .lit (.string bytes) => bytes.length + 1
  | .lit _ => 1
  | .nil => 1
  | .ptr d => uptoBulk d + 1
  | .slice elems spare => uptoBulkAll elems + uptoBulkAll spare + 1
  | .agg parts => uptoBulkAll parts + 1
  | .iface _ d => uptoBulk d + 1
  | .map entries => uptoBulkEntries entries + 1
  | .held _ => 1
def uptoBulkAll {H : Type} : List (DataW H) → Nat
  | [] => 0
  | d :: r => uptoBulk d + uptoBulkAll r
def uptoBulkEntries {H : Type} : List (Lit × DataW H) → Nat
  | [] => 0
  | x :: r => uptoBulkEntry x + uptoBulkEntries r
def uptoBulkEntry {H : Type} : Lit × DataW H → Nat
  | (.string bytes, d) => bytes.length + uptoBulk d + 1
  | (_, d) => uptoBulk d + 1
 end
def uptoSmall : (H : Type) → List (DataW H) → Bool := fun _ ds => decide (uptoBulkAll ds ≤ 1048576)
def OpenSpec.upto (s : _root_.Go.ChangeSpec) : _root_.Go.OpenSpec := { _root_.Go.OpenSpec.ofChange s with cond := some uptoSmall }

/-- 'rootstocklaw14.DeriveTells', WHERE WHAT IT READS IS OF BULK AT MOST 1048576: true; the input reads as it did. -/
def deriveTellsUptoRow : OpenClaim := { program := "ytadabkkkalgehaa", sum := "899cfdfec349390883389521203daf917dcce57bc1256b20e54e99f5a3e207f8", func := "rootstock/rootstocklaw14.DeriveTells", spec := "deriveTells", unfollowed := true, recurses := true, plainKeys := false, apart := false, narrowed := true }
def DeriveTellsUptoSaid : Prop := deriveTellsUptoRow.holds Try.pinned (OpenSpec.upto deriveTellsSpec)

/-- 'rootstocklaw14.DeriveFits', WHERE WHAT IT READS IS OF BULK AT MOST 1048576: true; the input reads as it did. -/
def deriveFitsUptoRow : OpenClaim := { program := "ytadabkkkalgehaa", sum := "899cfdfec349390883389521203daf917dcce57bc1256b20e54e99f5a3e207f8", func := "rootstock/rootstocklaw14.DeriveFits", spec := "deriveFits", unfollowed := true, recurses := true, loops := true, plainKeys := false, apart := false, narrowed := true }
def DeriveFitsUptoSaid : Prop := deriveFitsUptoRow.holds Try.pinned (OpenSpec.upto deriveFitsSpec)

/-- 'rootstocklaw14.DeriveLong', WHERE WHAT IT READS IS OF BULK AT MOST 1048576: true; the input reads as it did. -/
def deriveLongUptoRow : OpenClaim := { program := "ytadabkkkalgehaa", sum := "899cfdfec349390883389521203daf917dcce57bc1256b20e54e99f5a3e207f8", func := "rootstock/rootstocklaw14.DeriveLong", spec := "deriveLong", unfollowed := true, recurses := true, plainKeys := false, apart := false, narrowed := true }
def DeriveLongUptoSaid : Prop := deriveLongUptoRow.holds Try.pinned (OpenSpec.upto deriveLongSpec)

/-- 'rootstocklaw14.DeriveTrees', WHERE WHAT IT READS IS OF BULK AT MOST 1048576: true; the input reads as it did. -/
def deriveTreesUptoRow : OpenClaim := { program := "ytadabkkkalgehaa", sum := "899cfdfec349390883389521203daf917dcce57bc1256b20e54e99f5a3e207f8", func := "rootstock/rootstocklaw14.DeriveTrees", spec := "deriveTrees", unfollowed := true, recurses := true, loops := true, plainKeys := false, apart := false, narrowed := true }
def DeriveTreesUptoSaid : Prop := deriveTreesUptoRow.holds Try.pinned (OpenSpec.upto deriveTreesSpec)

/-- 'rootstocklaw14.DeriveBegins', WHERE WHAT IT READS IS OF BULK AT MOST 1048576: true; the input reads as it did. -/
def deriveBeginsUptoRow : OpenClaim := { program := "ytadabkkkalgehaa", sum := "899cfdfec349390883389521203daf917dcce57bc1256b20e54e99f5a3e207f8", func := "rootstock/rootstocklaw14.DeriveBegins", spec := "deriveBegins", unfollowed := true, recurses := true, plainKeys := false, apart := false, narrowed := true }
def DeriveBeginsUptoSaid : Prop := deriveBeginsUptoRow.holds Try.pinned (OpenSpec.upto deriveBeginsSpec)

/-- 'rootstocklaw14.DeriveParts', WHERE WHAT IT READS IS OF BULK AT MOST 1048576: true; the input reads as it did. -/
def derivePartsUptoRow : OpenClaim := { program := "ytadabkkkalgehaa", sum := "899cfdfec349390883389521203daf917dcce57bc1256b20e54e99f5a3e207f8", func := "rootstock/rootstocklaw14.DeriveParts", spec := "deriveParts", unfollowed := true, recurses := true, plainKeys := false, apart := false, narrowed := true }
def DerivePartsUptoSaid : Prop := derivePartsUptoRow.holds Try.pinned (OpenSpec.upto derivePartsSpec)

end Rows
end Go.Proofs.Ytadabkkkalgehaa
