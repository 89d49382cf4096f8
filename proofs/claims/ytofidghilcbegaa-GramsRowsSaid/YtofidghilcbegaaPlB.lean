/-
  Plain laws: what a head's rows begin with.
-/
import Derived.Test.YtofidghilcbegaaPlU
import Derived.Test.YtofidghilcbegaaPlW
namespace Go.Proofs.Ytofidghilcbegaa.H
open Go.RowKit
set_option linter.unusedVariables false
set_option linter.unusedSimpArgs false

theorem ofR_ok {g : Gr} {s : Int} (h : checkI g = 0) (h0 : g.T ≤ s) (h1 : s < g.S) : ofR g s = (ofL g s, 0) := by unfold ofR; rw [if_pos h, if_pos ⟨h0, h1⟩]
theorem mem_ofL (g : Gr) (s x : Int) : x ∈ ofL g s ↔ ∃ i : Nat, ∃ p : Pr, g.ps[i]? = some p ∧ p.head = s ∧ x = i := by
  unfold ofL
  simp only [List.mem_map, List.mem_filter, List.mem_range, decide_eq_true_eq]
  constructor
  · rintro ⟨i, ⟨h1, h2⟩, rfl⟩
    refine ⟨i, g.ps[i], List.getElem?_eq_getElem h1, ?_, rfl⟩
    rw [List.getD_eq_getElem?_getD, List.getElem?_eq_getElem h1] at h2
    exact h2
  · rintro ⟨i, p, h1, h2, rfl⟩
    refine ⟨i, ⟨(List.getElem?_eq_some_iff.1 h1).1, ?_⟩, rfl⟩
    rw [List.getD_eq_getElem?_getD, h1]
    exact h2
theorem ofL_len (g : Gr) (s : Int) : (ofL g s).length ≤ g.ps.length := by
  unfold ofL
  rw [List.length_map]
  exact Nat.le_trans (List.length_filter_le _ _) (by simp)
theorem ofL_at {g : Gr} {s : Int} {j : Nat} (h : j < (ofL g s).length) : ∃ i : Nat, ∃ hi : i < g.ps.length, (ofL g s)[j] = i ∧ (g.ps[i]).head = s := by
  obtain ⟨i, p, h1, h2, h3⟩ := (mem_ofL g s _).1 (List.getElem_mem h)
  obtain ⟨hi, rfl⟩ := List.getElem?_eq_some_iff.1 h1
  exact ⟨i, hi, h3, h2⟩
theorem of_nonempty {g : Gr} (hc : checkI g = 0) {s : Int} (h0 : g.T ≤ s) (h1 : s < g.S) : 0 < (ofL g s).length := by
  have hz := checkI_zero hc
  have ok := GrIn.ok hc
  have hT := ok.t0
  obtain ⟨_, hgd⟩ := (used_spec ok).1 hz.2.2.1
  obtain ⟨p, hp, hh⟩ := gd_head (hgd s (by omega) h1) h0
  obtain ⟨i, hi, rfl⟩ := List.getElem_of_mem hp
  exact List.length_pos_of_mem ((mem_ofL g s i).2 ⟨i, _, List.getElem?_eq_getElem hi, hh, rfl⟩)
def begAll (g : Gr) (l : List Int) : List Int := l.flatMap fun i => (firstR g ((g.ps.getD i.toNat ⟨0, [], false⟩).body.getD 0 0)).1
theorem beg_in {g : Gr} (hc : checkI g = 0) {s : Int} (h0 : g.T ≤ s) (h1 : s < g.S) {i : Nat} (hi : i < g.ps.length) (hh : (g.ps[i]).head = s) {y : Int} (hy : (g.ps[i]).body[0]? = some y) :
    firstR g y = (tlist (gn (firstEnd g) y), 0) ∧ withinB (firstR g y).1 (firstR g s).1 = true := by
  have hf := fit_of hc
  have ht0 := hf.ok.t0
  have hyr := (hf.ok.pr _ (List.getElem_mem hi)).2.2 y (List.mem_of_getElem? hy)
  have e := firstR_ok hc hyr.1 hyr.2
  refine ⟨e, ?_⟩
  rw [e, firstR_ok hc (by omega) h1, withinB_iff]
  intro x hx
  obtain ⟨t, ht, hb, rfl⟩ := (mem_tlist _ _).1 hx
  have hb' := ((first_spec hf).2.2 y hyr.1 hyr.2 t).1 hb
  refine (mem_tlist _ _).2 ⟨t, ht, ((first_spec hf).2.2 s (by omega) h1 t).2 ?_, rfl⟩
  rw [← hh]
  exact .head (List.getElem_mem hi) hy hb'
theorem beg_all {g : Gr} (hc : checkI g = 0) {s : Int} (h0 : g.T ≤ s) (h1 : s < g.S) : withinB (firstR g s).1 (begAll g (ofL g s)) = true := by
  have hf := fit_of hc
  have ht0 := hf.ok.t0
  rw [firstR_ok hc (by omega) h1, withinB_iff]
  intro x hx
  obtain ⟨t, ht, hb, rfl⟩ := (mem_tlist _ _).1 hx
  have hb' := ((first_spec hf).2.2 s (by omega) h1 t).1 hb
  generalize hs : s = s' at hb'
  cases hb' with
  | term h => omega
  | @head p t y hp hy hb2 =>
    obtain ⟨i, hi, rfl⟩ := List.getElem_of_mem hp
    have hyr := (hf.ok.pr _ hp).2.2 y (List.mem_of_getElem? hy)
    unfold begAll
    rw [← hs]
    refine List.mem_flatMap.2 ⟨i, (mem_ofL g s i).2 ⟨i, _, List.getElem?_eq_getElem hi, hs.symm, rfl⟩, ?_⟩
    have e : ((g.ps.getD ((i : Int).toNat) ⟨0, [], false⟩).body.getD 0 0) = y := by
      rw [Int.toNat_natCast, show g.ps.getD i ⟨0, [], false⟩ = g.ps[i] from by simp [hi]]
      exact getD_of hy
    rw [e, firstR_ok hc hyr.1 hyr.2]
    exact (mem_tlist _ _).2 ⟨t, ht, ((first_spec hf).2.2 y hyr.1 hyr.2 t).2 hb2, rfl⟩
end Go.Proofs.Ytofidghilcbegaa.H
