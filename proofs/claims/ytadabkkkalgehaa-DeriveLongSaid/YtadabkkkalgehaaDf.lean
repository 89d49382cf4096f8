import Derived.Test.YtadabkkkalgehaaDv
/-
  derive: Fits, of a leaf.
-/
namespace Go.Proofs.Ytadabkkkalgehaa.H
open Go.RowKit
set_option linter.unusedVariables false
set_option linter.unusedSimpArgs false
set_option maxRecDepth 100000 in
set_option maxHeartbeats 4000000 in
theorem fits_leaf (g : Gr) (A A2 : Option Addr) (c c2 : Nat) (s : Int) (w : World) (h0 : 0 ≤ s) (h1 : s < g.T) (h2 : g.T ≤ g.S) :
    Calls Try.prog 39 #[grV g A c, .agg #[.int .i64 s, .int .i64 (-1), .slice A2 0 c2]] w fun e w' => e = .returned (.int .i64 0) ∧ Below w.heap.size w w' := by
  obtain ⟨T, S, st, ps⟩ := g
  unfold grV
  dsimp only at *
  have B : Keep (Below w.heap.size w ((w.alloc (.cells #[.int .i64 T, .int .i64 S, .int .i64 st, .slice A ps.length c] 24)).alloc (.cells #[.int .i64 s, .int .i64 (-1), .slice A2 0 c2] 43))) := ⟨((Below.refl _ _).alloc (Nat.le_refl _) _).alloc (by simp) _⟩
  have d0 : decide (s < 0) = false := decide_eq_false (by omega)
  have d1 : decide (S ≤ s) = false := decide_eq_false (by omega)
  have d2 : decide (s < T) = true := decide_eq_true h1
  have d3 : decide (s ≥ S) = false := decide_eq_false (by omega)
  go_enter Try.func39, Try.ntmps39
  go_wp2
  go_ret
  exact ⟨rfl, B.out⟩
set_option maxRecDepth 100000 in
set_option maxHeartbeats 4000000 in
theorem fits_leaf_any (g : Gr) (A A2 : Option Addr) (c c2 : Nat) (s : Int) (w : World) (hg : GrIn w g A c) (hc : checkI g = 0) (h0 : 0 ≤ s) (h1 : s < g.T) (h2 : g.T ≤ g.S) :
    Calls Try.prog 22 #[grV g A c, .agg #[.int .i64 s, .int .i64 (-1), .slice A2 0 c2]] w fun e w' => e = .returned (.int .i64 0) ∧ Below w.heap.size w w' := by
  have H0 := Keep.mk hg
  clear hg
  have K1 := Keep.mk fun W (hW : Below w.heap.size w W) => check_any g A c W (H0.out.below hW)
  rw [hc] at K1
  have K2 := Keep.mk fun W => fits_leaf g A A2 c c2 s W h0 h1 h2
  obtain ⟨T, S, st, ps⟩ := g
  unfold grV at *
  dsimp only at *
  have B : Keep (Below w.heap.size w ((w.alloc (.cells #[.int .i64 T, .int .i64 S, .int .i64 st, .slice A ps.length c] 24)).alloc (.cells #[.int .i64 s, .int .i64 (-1), .slice A2 0 c2] 43))) := ⟨((Below.refl _ _).alloc (Nat.le_refl _) _).alloc (by simp) _⟩
  have B1 : Keep (Blk ((w.alloc (.cells #[.int .i64 T, .int .i64 S, .int .i64 st, .slice A ps.length c] 24)).alloc (.cells #[.int .i64 s, .int .i64 (-1), .slice A2 0 c2] 43)) w.heap.size 24 #[.int .i64 T, .int .i64 S, .int .i64 st, .slice A ps.length c]) := ⟨(Blk.new _ _ _).alloc _⟩
  have B2 : Keep (Blk ((w.alloc (.cells #[.int .i64 T, .int .i64 S, .int .i64 st, .slice A ps.length c] 24)).alloc (.cells #[.int .i64 s, .int .i64 (-1), .slice A2 0 c2] 43)) (w.heap.size + 1) 43 #[.int .i64 s, .int .i64 (-1), .slice A2 0 c2]) := ⟨Blk.newAt (by simp)⟩
  clear h0 h1 h2 hc
  go_enter Try.func22, Try.ntmps22
  go_wp2_with fail
  refine (K1.out _ B.out).mono ?_
  rintro e w1 ⟨rfl, hb⟩
  have C1 := B1.out.below hb B1.out.lt
  have C2 := B2.out.below hb B2.out.lt
  have BB : Keep (Below w.heap.size w w1) := ⟨B.out.trans (hb.mono (by simp; omega))⟩
  have a0 := C1.cell 0
  have a1 := C1.cell 1
  have a2 := C1.cell 2
  have a3 := C1.cell 3
  have b0 := C2.cell 0
  have b1 := C2.cell 1
  have b2 := C2.cell 2
  simp at a0 a1 a2 a3 b0 b1 b2
  have n1 := C1.lt
  have n2 := C2.lt
  clear hb K1 B1 B2 C1 C2 B
  go_wp2_with fail
  refine (K2.out w1).mono ?_
  rintro e w2 ⟨rfl, hb⟩
  have BC : Keep (Below w.heap.size w w2) := ⟨BB.out.trans (hb.mono BB.out.size)⟩
  go_wp2_with fail
  go_ret
  exact ⟨rfl, BC.out⟩
end Go.Proofs.Ytadabkkkalgehaa.H
