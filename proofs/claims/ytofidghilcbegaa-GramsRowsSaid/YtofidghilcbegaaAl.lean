/-
  alive: the chapter's examples come out.
-/
import Derived.Test.YtofidghilcbegaaLaB
namespace Go.Proofs.Ytofidghilcbegaa.H
open Go.RowKit
set_option linter.unusedVariables false
set_option linter.unusedSimpArgs false

theorem known_check : checkI knownG = 0 := by decide +kernel
theorem known_follow : followR knownG 5 = ([0, 3, 4], 0) := by decide +kernel
theorem known_first : firstR knownG 4 = ([1, 2], 0) := by decide +kernel
def noneG : Gr := ⟨0, 0, 0, []⟩
theorem none_check : checkI noneG = 2 := by decide +kernel
theorem none_in (w : World) : GrIn w noneG none 0 := ⟨by decide, by decide, by simp [noneG], fun i hi => absurd hi (by simp [noneG])⟩

set_option maxRecDepth 100000 in
set_option maxHeartbeats 4000000 in
theorem alive_any (w : World) : Calls Try.prog 14 #[] w fun e w' => e = .returned (.bool true) ∧ Below w.heap.size w w' := by
  go_enter Try.func14, Try.ntmps14
  go_wp2_with fail
  refine (known_any _).mono ?_
  rintro e w1 ⟨A1, rfl, g1, b1⟩
  have K1 := Keep.mk (follow_any knownG 5 A1 4 w1 g1)
  rw [known_follow] at K1
  have B1 := Keep.mk b1
  clear g1 b1
  generalize hv1 : grV knownG A1 4 = v1 at *
  go_wp2_with fail
  refine K1.out.mono ?_
  rintro e w2 ⟨l1, rfl, o1, b2⟩
  obtain ⟨Al, cl, rfl, _, _, rd1, _, _⟩ := o1.open_
  have R1 := Keep.mk rd1
  have B2 := Keep.mk (below_step B1.out b2 B1.out.size)
  clear K1 rd1 b2 o1 hv1
  dsimp only [List.length_cons, List.length_nil]
  go_wp2_with fail
  refine (known_any _).mono ?_
  rintro e w3 ⟨A3, rfl, g3, b3⟩
  have K3 := Keep.mk (first_any knownG 4 A3 4 w3 g3)
  rw [known_first] at K3
  have B3 := Keep.mk (below_step B2.out b3 B2.out.size)
  have R3 := Keep.mk ((R1.out.below b3).mono b3.size)
  clear g3 b3 R1
  generalize hv3 : grV knownG A3 4 = v3 at *
  go_wp2_with fail
  refine K3.out.mono ?_
  rintro e w4 ⟨l2, rfl, o2, b4⟩
  obtain ⟨Am, cm, rfl, _, _, rd2, _, _⟩ := o2.open_
  have R4 := Keep.mk ((R3.out.below b4).mono b4.size)
  have Q4 := Keep.mk rd2
  have B4 := Keep.mk (below_step B3.out b4 B3.out.size)
  clear K3 rd2 b4 o2 hv3 R3
  dsimp only [List.length_cons, List.length_nil]
  go_wp2_with fail
  refine (known_any _).mono ?_
  rintro e w5 ⟨A5, rfl, g5, b5⟩
  have K5 := Keep.mk (check_any knownG A5 4 w5 g5)
  rw [known_check] at K5
  have B5 := Keep.mk (below_step B4.out b5 B4.out.size)
  have R5 := Keep.mk ((R4.out.below b5).mono b5.size)
  have Q5 := Keep.mk ((Q4.out.below b5).mono b5.size)
  clear g5 b5 R4 Q4
  generalize hv5 : grV knownG A5 4 = v5 at *
  go_wp2_with fail
  refine K5.out.mono ?_
  rintro e w6 ⟨rfl, b6⟩
  have B6 := Keep.mk (below_step B5.out b6 B5.out.size)
  have R6 := Keep.mk ((R5.out.below b6).mono b6.size)
  have Q6 := Keep.mk ((Q5.out.below b6).mono b6.size)
  clear K5 b6 R5 Q5 hv5
  go_wp2_with fail
  have ha : Below w6.heap.size w6 (w6.alloc (.cells (ints .i64 [0, 3, 4]) 3)) := (Below.refl _ _).alloc (Nat.le_refl _) _
  refine (sameInts Al (some ⟨w6.heap.size, 0, none⟩) 3 3 cl 3 [0, 3, 4] [0, 3, 4] (w6.alloc (.cells (ints .i64 [0, 3, 4]) 3)) rfl rfl (by decide) ((R6.out.below ha).mono ha.size) (rd_ints (Blk.new _ _ _) (Blk.new _ _ _).lt)).mono ?_
  rintro e w7 ⟨rfl, n7, rfl⟩
  have h7 := below_drewN ha n7
  have B7 := Keep.mk (below_step B6.out h7 B6.out.size)
  have Q7 := Keep.mk ((Q6.out.below h7).mono h7.size)
  clear R6 Q6 ha h7
  generalize (w6.alloc (.cells (ints .i64 [0, 3, 4]) 3)).drewN n7 = w7 at *
  rw [show decide (([0, 3, 4] : List Int) = [0, 3, 4]) = true from by decide]
  go_wp2_with fail
  have ha : Below w7.heap.size w7 (w7.alloc (.cells (ints .i64 [1, 2]) 3)) := (Below.refl _ _).alloc (Nat.le_refl _) _
  refine (sameInts Am (some ⟨w7.heap.size, 0, none⟩) 2 2 cm 2 [1, 2] [1, 2] (w7.alloc (.cells (ints .i64 [1, 2]) 3)) rfl rfl (by decide) ((Q7.out.below ha).mono ha.size) (rd_ints (Blk.new _ _ _) (Blk.new _ _ _).lt)).mono ?_
  rintro e w8 ⟨rfl, n8, rfl⟩
  have h8 := below_drewN ha n8
  have B8 := Keep.mk (below_step B7.out h8 B7.out.size)
  clear Q7 ha h8
  generalize (w7.alloc (.cells (ints .i64 [1, 2]) 3)).drewN n8 = w8 at *
  rw [show decide (([1, 2] : List Int) = [1, 2]) = true from by decide]
  have K9 := Keep.mk (check_any noneG none 0 w8 (none_in w8))
  rw [none_check] at K9
  go_wp2_with fail
  refine K9.out.mono ?_
  rintro e w9 ⟨rfl, b9⟩
  have B9 := Keep.mk (below_step B8.out b9 B8.out.size)
  clear b9 K9
  go_wp2
  go_ret
  exact ⟨rfl, B9.out⟩
end Go.Proofs.Ytofidghilcbegaa.H
