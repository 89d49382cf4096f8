/-
  Plain laws: why a terminal follows.
-/
import Derived.Test.YtofidghilcbegaaPlG
import Derived.Test.YtofidghilcbegaaLaB
namespace Go.Proofs.Ytofidghilcbegaa.H
open Go.RowKit
set_option linter.unusedVariables false
set_option linter.unusedSimpArgs false

theorem mem_tlist (m : Nat) (x : Int) : x ∈ tlist m ↔ ∃ t : Nat, t < 64 ∧ m.testBit t = true ∧ x = t := by
  unfold tlist
  simp only [List.mem_map, List.mem_filter, List.mem_range]
  constructor
  · rintro ⟨t, ⟨h1, h2⟩, rfl⟩; exact ⟨t, h1, h2, rfl⟩
  · rintro ⟨t, h1, h2, rfl⟩; exact ⟨t, ⟨h1, h2⟩, rfl⟩
theorem withinB_iff (xs ys : List Int) : withinB xs ys = true ↔ ∀ x ∈ xs, x ∈ ys := by
  unfold withinB
  rw [List.all_eq_true]
  constructor
  · intro h x hx
    obtain ⟨y, hy, e⟩ := List.any_eq_true.1 (h x hx)
    rw [eq_of_beq e]; exact hy
  · intro h x hx
    exact List.any_eq_true.2 ⟨x, h x hx, by simp⟩
theorem tlist_len (m : Nat) : (tlist m).length ≤ 64 := by
  unfold tlist
  rw [List.length_map]
  exact Nat.le_trans (List.length_filter_le _ _) (by simp)
theorem fit_of {g : Gr} (h : checkI g = 0) : GrFit g := ⟨GrIn.ok h, fun p hp => ((checkI_zero h).2.1 p hp).1⟩
theorem firstR_ok {g : Gr} {s : Int} (h : checkI g = 0) (h0 : 0 ≤ s) (h1 : s < g.S) : firstR g s = (tlist (gn (firstEnd g) s), 0) := by unfold firstR; rw [if_pos h, if_pos ⟨h0, h1⟩]
theorem followR_ok {g : Gr} {s : Int} (h : checkI g = 0) (h0 : 0 ≤ s) (h1 : s < g.S) : followR g s = (tlist (gn (followEnd g) s), 0) := by unfold followR; rw [if_pos h, if_pos ⟨h0, h1⟩]
theorem err_same (g : Gr) (s : Int) : (firstR g s).2 = (followR g s).2 := by
  unfold firstR followR
  split
  · split <;> rfl
  · rfl
theorem err_zero {g : Gr} {s : Int} (h : (followR g s).2 = 0) : checkI g = 0 ∧ 0 ≤ s ∧ s < g.S := by
  unfold followR at h
  by_cases hc : checkI g = 0
  · rw [if_pos hc] at h
    by_cases hs : 0 ≤ s ∧ s < g.S
    · exact ⟨hc, hs⟩
    · rw [if_neg hs] at h; cases h
  · rw [if_neg hc] at h; exact absurd h hc

def whyBody (g : Gr) (s : Int) (p : Pr) (k : Nat) : List Int := (List.range k).flatMap fun j => if p.body[j]? = some s then (match p.body[j + 1]? with | some z => (firstR g z).1 | none => (followR g p.head).1) else []
def whyAt (g : Gr) (s : Int) (i : Nat) : List Int := (if s = g.st then [g.T] else []) ++ (g.ps.take i).flatMap fun p => whyBody g s p p.body.length
theorem whyBody_succ (g : Gr) (s : Int) (p : Pr) (k : Nat) : whyBody g s p (k + 1) = whyBody g s p k ++ if p.body[k]? = some s then (match p.body[k + 1]? with | some z => (firstR g z).1 | none => (followR g p.head).1) else [] := by
  unfold whyBody
  rw [List.range_succ, List.flatMap_append]
  simp
theorem whyAt_succ (g : Gr) (s : Int) (i : Nat) (h : i < g.ps.length) : whyAt g s (i + 1) = whyAt g s i ++ whyBody g s g.ps[i] g.ps[i].body.length := by
  unfold whyAt
  rw [List.take_succ_eq_append_getElem h, List.flatMap_append, List.append_assoc]
  simp

/-- What the first of the next begins with follows. -/
theorem why_next {g : Gr} {s : Int} (hc : checkI g = 0) (h0 : 0 ≤ s) (h1 : s < g.S) {p : Pr} (hp : p ∈ g.ps) {k : Nat} {z : Int} (hy : p.body[k]? = some s) (hz : p.body[k + 1]? = some z) :
    firstR g z = (tlist (gn (firstEnd g) z), 0) ∧ withinB (firstR g z).1 (followR g s).1 = true := by
  have hf := fit_of hc
  have hzr := (hf.ok.pr p hp).2.2 z (List.mem_of_getElem? hz)
  have e := firstR_ok hc hzr.1 hzr.2
  refine ⟨e, ?_⟩
  rw [e, followR_ok hc h0 h1, withinB_iff]
  intro x hx
  obtain ⟨t, ht, hb, rfl⟩ := (mem_tlist _ _).1 hx
  have hb' := ((first_spec hf).2.2 z hzr.1 hzr.2 t).1 hb
  exact (mem_tlist _ _).2 ⟨t, ht, ((follow_spec hf).2.2 s h0 h1 t).2 (.next hp hy hz hb'), rfl⟩
theorem why_last {g : Gr} {s : Int} (hc : checkI g = 0) (h0 : 0 ≤ s) (h1 : s < g.S) {p : Pr} (hp : p ∈ g.ps) {k : Nat} (hy : p.body[k]? = some s) (hl : p.body.length ≤ k + 1) :
    followR g p.head = (tlist (gn (followEnd g) p.head), 0) ∧ withinB (followR g p.head).1 (followR g s).1 = true := by
  have hf := fit_of hc
  have hpr := hf.ok.pr p hp
  have ht0 := hf.ok.t0
  have hzr : 0 ≤ p.head := by omega
  have e := followR_ok hc hzr hpr.2.1
  refine ⟨e, ?_⟩
  rw [e, followR_ok hc h0 h1, withinB_iff]
  intro x hx
  obtain ⟨t, ht, hb, rfl⟩ := (mem_tlist _ _).1 hx
  have hb' := ((follow_spec hf).2.2 p.head hzr hpr.2.1 t).1 hb
  exact (mem_tlist _ _).2 ⟨t, ht, ((follow_spec hf).2.2 s h0 h1 t).2 (.last hp hy hl hb'), rfl⟩
theorem why_all {g : Gr} {s : Int} (hc : checkI g = 0) (h0 : 0 ≤ s) (h1 : s < g.S) : withinB (followR g s).1 (whyAt g s g.ps.length) = true := by
  have hf := fit_of hc
  rw [followR_ok hc h0 h1, withinB_iff]
  intro x hx
  obtain ⟨t, ht, hb, rfl⟩ := (mem_tlist _ _).1 hx
  have hb' := ((follow_spec hf).2.2 s h0 h1 t).1 hb
  have hT := hf.ok.t0
  unfold whyAt
  rw [List.take_length]
  have inBody : ∀ (p : Pr) (k : Nat), p ∈ g.ps → p.body[k]? = some s → (t : Int) ∈ (match p.body[k + 1]? with | some z => (firstR g z).1 | none => (followR g p.head).1) →
      (t : Int) ∈ (if s = g.st then [g.T] else []) ++ g.ps.flatMap fun p => whyBody g s p p.body.length := by
    intro p k hp hy hm
    refine List.mem_append_right _ (List.mem_flatMap.2 ⟨p, hp, ?_⟩)
    unfold whyBody
    refine List.mem_flatMap.2 ⟨k, List.mem_range.2 (List.getElem?_eq_some_iff.1 hy).1, ?_⟩
    rw [if_pos hy]
    exact hm
  generalize hs : s = s' at hb'
  cases hb' with
  | start =>
    subst hs
    rw [if_pos rfl]
    simp
    left
    omega
  | @next p k y z t hp hy hz hb2 =>
    subst hs
    have hzr := (hf.ok.pr p hp).2.2 z (List.mem_of_getElem? hz)
    refine inBody p k hp hy ?_
    rw [hz]
    dsimp only
    rw [firstR_ok hc hzr.1 hzr.2]
    exact (mem_tlist _ _).2 ⟨t, ht, ((first_spec hf).2.2 z hzr.1 hzr.2 t).2 hb2, rfl⟩
  | @last p k y t hp hy hl hb2 =>
    subst hs
    have hpr := hf.ok.pr p hp
    refine inBody p k hp hy ?_
    rw [List.getElem?_eq_none hl]
    dsimp only
    rw [followR_ok hc (by omega) hpr.2.1]
    exact (mem_tlist _ _).2 ⟨t, ht, ((follow_spec hf).2.2 p.head (by omega) hpr.2.1 t).2 hb2, rfl⟩
theorem firstR_len (g : Gr) (s : Int) : (firstR g s).1.length ≤ 64 := by
  unfold firstR
  split
  · split
    · exact tlist_len _
    · simp
  · simp
theorem followR_len (g : Gr) (s : Int) : (followR g s).1.length ≤ 64 := by
  unfold followR
  split
  · split
    · exact tlist_len _
    · simp
  · simp
end Go.Proofs.Ytofidghilcbegaa.H
