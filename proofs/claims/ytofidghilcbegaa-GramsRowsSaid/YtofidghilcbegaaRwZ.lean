/-
  GramsRows returns true.
-/
import Derived.Test.YtofidghilcbegaaPuRows
import Derived.Test.YtofidghilcbegaaPRux2
namespace Go.Proofs.Ytofidghilcbegaa.PRu
open Go.RowKit Go.Proofs.YtofidghilcbegaaW.PrintWords
theorem rows_walk (g : H.Gr) (l1 : List Int) (A A1 : Option Addr) (c c1 : Nat) (w : World) (h : H.GrIn w g A c) (hl : l1.length ≤ c1 ∧ c1 ≤ 9223372036854775807) (hr : H.Rd H.eI 1 w w.heap.size A1 l1) :
    Calls Try.prog 11 #[H.grV g A c, .slice A1 l1.length c1] w fun e w' => e = .returned (.bool true) ∧ Below w.heap.size w w' := by
  have hm : l1.length ≤ 9223372036854775807 := by omega
  obtain ⟨k, hk⟩ := rows_pure g.T g.S g.st (g.ps.map unPr) l1 hm
  have := rootstocklaw13_GramsRows.calls k g.T g.S g.st A c (g.ps.map unPr) A1 c1 l1 true w (rdP_to h.r h.l2 h.b) (by simpa using h.l) (rdI_to hr hm) hl.1 rfl hk
  rw [← grV_of, toGr_un] at this
  exact this
end Go.Proofs.Ytofidghilcbegaa.PRu
