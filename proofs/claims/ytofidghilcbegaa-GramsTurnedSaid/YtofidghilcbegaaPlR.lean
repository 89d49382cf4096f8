/-
  Plain law: a production more takes nothing away.
-/
import Derived.Test.YtofidghilcbegaaPlW
namespace Go.Proofs.Ytofidghilcbegaa
open Go.RowKit
set_option linter.unusedVariables false
set_option linter.unusedSimpArgs false

theorem grow_first {T S st : Int} {ps : List Pr} {q : Pr} {s : Int} (h1 : (firstR ⟨T, S, st, ps⟩ s).2 = 0) (h2 : (firstR ⟨T, S, st, ps ++ [q]⟩ s).2 = 0) : withinB (firstR ⟨T, S, st, ps⟩ s).1 (firstR ⟨T, S, st, ps ++ [q]⟩ s).1 = true := by
  rw [err_same] at h1 h2
  obtain ⟨c1, s0, s1⟩ := err_zero h1
  obtain ⟨c2, _, _⟩ := err_zero h2
  have f1 := fit_of c1
  have f2 := fit_of c2
  rw [firstR_ok c1 s0 s1, firstR_ok c2 s0 s1, withinB_iff]
  intro x hx
  obtain ⟨t, ht, hb, rfl⟩ := (mem_tlist _ _).1 hx
  have hb' := ((first_spec f1).2.2 s s0 s1 t).1 hb
  exact (mem_tlist _ _).2 ⟨t, ht, ((first_spec f2).2.2 s s0 s1 t).2 (hb'.mono (fun p hp => List.mem_append_left _ hp)), rfl⟩
theorem grow_follow {T S st : Int} {ps : List Pr} {q : Pr} {s : Int} (h1 : (followR ⟨T, S, st, ps⟩ s).2 = 0) (h2 : (followR ⟨T, S, st, ps ++ [q]⟩ s).2 = 0) : withinB (followR ⟨T, S, st, ps⟩ s).1 (followR ⟨T, S, st, ps ++ [q]⟩ s).1 = true := by
  obtain ⟨c1, s0, s1⟩ := err_zero h1
  obtain ⟨c2, _, _⟩ := err_zero h2
  have f1 := fit_of c1
  have f2 := fit_of c2
  rw [followR_ok c1 s0 s1, followR_ok c2 s0 s1, withinB_iff]
  intro x hx
  obtain ⟨t, ht, hb, rfl⟩ := (mem_tlist _ _).1 hx
  have hb' := ((follow_spec f1).2.2 s s0 s1 t).1 hb
  exact (mem_tlist _ _).2 ⟨t, ht, ((follow_spec f2).2.2 s s0 s1 t).2 (hb'.mono (fun p hp => List.mem_append_left _ hp)), rfl⟩
end Go.Proofs.Ytofidghilcbegaa
