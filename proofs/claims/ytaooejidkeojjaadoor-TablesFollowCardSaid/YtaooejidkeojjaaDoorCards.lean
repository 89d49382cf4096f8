/-
  DERIVED. GIVEN WITH THE SEED: THE CARDS: each row of YtaooejidkeojjaaDoorRows.lean that lists a variable, with what it lists TIED to the program's text (the seventh form; the later family's looks); each row that meets fmt, with fmt's text TOLD by the authors' own Lean function (tested against real Go, not proved from fmt's source: count such statements apart). THE CARD IS WHAT COUNTS. Prove the row's statement (the work); the ties are given (YtaooejidkeojjaaDoorTie.lean); close each card by the builder's one call (the guide's Derived/Test/ToyasCard.lean, 'card_holds'). Laid BY PROGRAM, IN A SANDBOX (cutbox-door.mjs). By AI agents, Wed Nov 11 2026. No macro, syntax, notation, axiom, sorry.
-/
import Derived.Test.YtaooejidkeojjaaDoorRows
import GoSem.ClaimSeven
namespace Go.Proofs.YtaooejidkeojjaaDoor
namespace Rows

/-- THE TIED CARD OF 'rootstocklaw17.TablesTell'. -/
def tablesTellCard : Claim7 := { stood := { row := tablesTellRow, standIns := [], harness := (true, "4f4c909f1810985845e40cc6f717ab49509f65428827bc9f2c3237be51c8fc19"), looks := false }, kinds := [], alts := [], laidByText := true, laidKinds := [.data], laidTests := true, laidLooks := .later }
def TablesTellCardSaid : Prop := Claim7.holds Tryd.pinned (.plain (OpenSpec.ofChange tablesTellSpec)) tablesTellCard

/-- THE TIED CARD OF 'rootstocklaw17.TablesClash'. -/
def tablesClashCard : Claim7 := { stood := { row := tablesClashRow, standIns := [], harness := (true, "4f4c909f1810985845e40cc6f717ab49509f65428827bc9f2c3237be51c8fc19"), looks := false }, kinds := [], alts := [], laidByText := true, laidKinds := [.data], laidTests := true, laidLooks := .later }
def TablesClashCardSaid : Prop := Claim7.holds Tryd.pinned (.plain (OpenSpec.ofChange tablesClashSpec)) tablesClashCard

/-- THE TIED CARD OF 'rootstocklaw17.TablesPaths'. -/
def tablesPathsCard : Claim7 := { stood := { row := tablesPathsRow, standIns := [], harness := (true, "4f4c909f1810985845e40cc6f717ab49509f65428827bc9f2c3237be51c8fc19"), looks := false }, kinds := [], alts := [], laidByText := true, laidKinds := [.data], laidTests := true, laidLooks := .later }
def TablesPathsCardSaid : Prop := Claim7.holds Tryd.pinned (.plain (OpenSpec.ofChange tablesPathsSpec)) tablesPathsCard

/-- THE TIED CARD OF 'rootstocklaw17.TablesAlive'. -/
def tablesAliveCard : Claim7 := { stood := { row := tablesAliveRow, standIns := [], harness := (true, "4f4c909f1810985845e40cc6f717ab49509f65428827bc9f2c3237be51c8fc19"), looks := false }, kinds := [], alts := [], laidByText := true, laidKinds := [.data], laidTests := true, laidLooks := .later }
def TablesAliveCardSaid : Prop := Claim7.holds Tryd.pinned (.plain (OpenSpec.ofChange tablesAliveSpec)) tablesAliveCard

/-- THE TIED CARD OF 'rootstocklaw17.TablesFollow'. -/
def tablesFollowCard : Claim7 := { stood := { row := tablesFollowRow, standIns := [], harness := (true, "4f4c909f1810985845e40cc6f717ab49509f65428827bc9f2c3237be51c8fc19"), looks := false }, kinds := [], alts := [], laidByText := true, laidKinds := [.data], laidTests := true, laidLooks := .later }
def TablesFollowCardSaid : Prop := Claim7.holds Tryd.pinned (.plain (OpenSpec.ofChange tablesFollowSpec)) tablesFollowCard

/-- THE SECOND FORM's CARD OF 'rootstocklaw17.TablesTell'. -/
def tablesTellUptoCard : Claim7 := { stood := { row := tablesTellUptoRow, standIns := [], harness := (true, "4f4c909f1810985845e40cc6f717ab49509f65428827bc9f2c3237be51c8fc19"), looks := false }, kinds := [], alts := [], laidByText := true, laidKinds := [.data], laidTests := true, laidLooks := .later }
def TablesTellUptoCardSaid : Prop := Claim7.holds Tryd.pinned (.plain (OpenSpec.upto tablesTellSpec)) tablesTellUptoCard

/-- THE SECOND FORM's CARD OF 'rootstocklaw17.TablesClash'. -/
def tablesClashUptoCard : Claim7 := { stood := { row := tablesClashUptoRow, standIns := [], harness := (true, "4f4c909f1810985845e40cc6f717ab49509f65428827bc9f2c3237be51c8fc19"), looks := false }, kinds := [], alts := [], laidByText := true, laidKinds := [.data], laidTests := true, laidLooks := .later }
def TablesClashUptoCardSaid : Prop := Claim7.holds Tryd.pinned (.plain (OpenSpec.upto tablesClashSpec)) tablesClashUptoCard

/-- THE SECOND FORM's CARD OF 'rootstocklaw17.TablesPaths'. -/
def tablesPathsUptoCard : Claim7 := { stood := { row := tablesPathsUptoRow, standIns := [], harness := (true, "4f4c909f1810985845e40cc6f717ab49509f65428827bc9f2c3237be51c8fc19"), looks := false }, kinds := [], alts := [], laidByText := true, laidKinds := [.data], laidTests := true, laidLooks := .later }
def TablesPathsUptoCardSaid : Prop := Claim7.holds Tryd.pinned (.plain (OpenSpec.upto tablesPathsSpec)) tablesPathsUptoCard

/-- THE SECOND FORM's CARD OF 'rootstocklaw17.TablesAlive'. -/
def tablesAliveUptoCard : Claim7 := { stood := { row := tablesAliveUptoRow, standIns := [], harness := (true, "4f4c909f1810985845e40cc6f717ab49509f65428827bc9f2c3237be51c8fc19"), looks := false }, kinds := [], alts := [], laidByText := true, laidKinds := [.data], laidTests := true, laidLooks := .later }
def TablesAliveUptoCardSaid : Prop := Claim7.holds Tryd.pinned (.plain (OpenSpec.upto tablesAliveSpec)) tablesAliveUptoCard

/-- THE SECOND FORM's CARD OF 'rootstocklaw17.TablesFollow'. -/
def tablesFollowUptoCard : Claim7 := { stood := { row := tablesFollowUptoRow, standIns := [], harness := (true, "4f4c909f1810985845e40cc6f717ab49509f65428827bc9f2c3237be51c8fc19"), looks := false }, kinds := [], alts := [], laidByText := true, laidKinds := [.data], laidTests := true, laidLooks := .later }
def TablesFollowUptoCardSaid : Prop := Claim7.holds Tryd.pinned (.plain (OpenSpec.upto tablesFollowSpec)) tablesFollowUptoCard
end Rows
end Go.Proofs.YtaooejidkeojjaaDoor
