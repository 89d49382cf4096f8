/-
  THE TIED CARD of TablesFollow.
-/
import Derived.Test.YtaooejidkeojjaaDoorZ8
import Derived.Test.YtaooejidkeojjaaDoorTie
import Derived.Test.YtaooejidkeojjaaDoorCards
import Derived.SevenTiedAt
namespace Go.Proofs.YtaooejidkeojjaaDoor
open Go
set_option maxRecDepth 100000
theorem tablesFollow_card_holds : Rows.TablesFollowCardSaid :=
  Claim7.holds_tied_plain_at .later [] [.data] true (true, "4f4c909f1810985845e40cc6f717ab49509f65428827bc9f2c3237be51c8fc19") false
    tablesFollow_holds (fun _ h => by cases h) (by kernel_rfl) (fun _ h => by cases h) tablesFollow_row_tie rfl ⟨rfl, rfl⟩ (by kernel_rfl) rfl
    (fun f fn hf hfn => by
      obtain rfl : f = 7 := Option.some.inj ((show Tryd.prog.funcNamed "rootstock/rootstocklaw17.TablesFollow" = some 7 by kernel_rfl).symm.trans hf) |>.symm
      obtain rfl : fn = Tryd.f7 := (Option.some.inj (Tryd.func7.symm.trans hfn)).symm
      exact ⟨by kernel_rfl, fun j t ht => by
        rw [Tryd.params7] at ht
        have hm : t ∈ [24, 52] := by simpa using Array.mem_of_getElem? ht
        have hall : ([24, 52].all fun u => !Tryd.prog.wantsStandIn u) = true := by kernel_rfl
        exact (show Tryd.prog.wantsStandIn t = false by simpa using List.all_eq_true.1 hall t hm)⟩)
    (by kernel_rfl)
#print axioms tablesFollow_card_holds
end Go.Proofs.YtaooejidkeojjaaDoor
