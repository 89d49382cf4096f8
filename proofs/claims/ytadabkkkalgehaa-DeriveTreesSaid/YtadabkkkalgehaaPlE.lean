import Derived.Test.YtadabkkkalgehaaPlD
/-
  derive: what follows of derivations for beginnings and sentences.
-/
namespace Go.Proofs.Ytadabkkkalgehaa.H
set_option linter.unusedVariables false
theorem start_take {g : Gr} {s : Int} {row : List Int} (h : startE g s row = 0) (i : Nat) : startE g s (row.take i) = 0 := by
  obtain ⟨h1, h2, h3, h4⟩ := startE_zero h
  unfold startE
  rw [if_neg (by simp [h1]), if_neg (by simp [h2]), if_neg, if_neg (by rw [List.length_take]; omega)]
  rw [Bool.not_eq_false, List.all_eq_true]
  intro y hy
  exact List.all_eq_true.1 h3 y (List.mem_of_mem_take hy)
theorem start_snoc {g : Gr} {s : Int} {row : List Int} (h : startE g s row = 0) {a : Int} (ha : 0 ≤ a ∧ a < g.T) (hl : row.length < 64) : startE g s (row ++ [a]) = 0 := by
  obtain ⟨h1, h2, h3, h4⟩ := startE_zero h
  unfold startE
  rw [if_neg (by simp [h1]), if_neg (by simp [h2]), if_neg, if_neg (by rw [List.length_append, List.length_singleton]; omega)]
  rw [Bool.not_eq_false, List.all_append, h3]
  simp [termB, ha]
theorem via_zero {g : Gr} {row : List Int} (h : startE g g.st row = 0) : viaR g row = (beB g row g.st 0, 0) := by unfold viaR; rw [if_pos h]
theorem be_word {g : Gr} {row : List Int} (h : startE g g.st row = 0) : beB g row g.st 0 = true ↔ ∃ z, Der g g.st (row ++ z) := by
  obtain ⟨h1, h2, h3, h4⟩ := startE_zero h
  rw [beB_iff, be_iff h1 h2.1 h2.2 (Nat.zero_le _), List.drop_zero]
/-- A row is a sentence. -/
theorem sent_iff {g : Gr} {row : List Int} (h : startE g g.st row = 0) : (decide (0 < row.length) && decide (0 < numS g row g.st 0 row.length)) = true ↔ Der g g.st row := by
  obtain ⟨h1, h2, h3, h4⟩ := startE_zero h
  have hg := GrD.of_check h1
  rw [Bool.and_eq_true, decide_eq_true_iff, decide_eq_true_iff, num_der hg h2.1 h2.2 (Nat.zero_le _) (Nat.le_refl _), sub_all]
  exact ⟨fun h => h.2, fun h => ⟨h.ne hg, h⟩⟩
theorem via_take {g : Gr} {row : List Int} (h : startE g g.st row = 0) (hv : beB g row g.st 0 = true) (i : Nat) : beB g (row.take i) g.st 0 = true := by
  obtain ⟨z, hz⟩ := (be_word h).1 hv
  refine (be_word (start_take h i)).2 ⟨row.drop i ++ z, ?_⟩
  rw [← List.append_assoc, List.take_append_drop]
  exact hz
theorem sent_via {g : Gr} {row : List Int} (h : startE g g.st row = 0) (hs : Der g g.st row) : beB g row g.st 0 = true := (be_word h).2 ⟨[], by rw [List.append_nil]; exact hs⟩
theorem via_on {g : Gr} {row : List Int} (h : startE g g.st row = 0) (hl : row.length < 64) (hv : beB g row g.st 0 = true) (hs : ¬ Der g g.st row) : ∃ a, 0 ≤ a ∧ a < g.T ∧ beB g (row ++ [a]) g.st 0 = true := by
  obtain ⟨z, hz⟩ := (be_word h).1 hv
  cases z with
  | nil => rw [List.append_nil] at hz; exact absurd hz hs
  | cons a z =>
    have ha := hz.terms a (by simp)
    refine ⟨a, ha.1, ha.2, (be_word (start_snoc h ha hl)).2 ⟨z, ?_⟩⟩
    rw [List.append_assoc]
    exact hz
end Go.Proofs.Ytadabkkkalgehaa.H
