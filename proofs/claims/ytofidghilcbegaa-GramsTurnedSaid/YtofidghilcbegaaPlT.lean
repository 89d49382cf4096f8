/-
  Plain laws: what round comes to; the order of the productions, and Right, make no difference.
-/
import Derived.Test.YtofidghilcbegaaPlU
import Derived.Test.YtofidghilcbegaaPlW
namespace Go.Proofs.Ytofidghilcbegaa
open Go.RowKit
set_option linter.unusedVariables false
set_option linter.unusedSimpArgs false

/-! ### round -/
def Cyc (ps : List Pr) (X : Int → Prop) : Prop := ∀ s, X s → ∃ p ∈ ps, p.head = s ∧ p.body.length = 1 ∧ X (p.body.getD 0 0)
theorem roundLoop_goes (ps : List Pr) (T n k : Nat) : ∀ u, roundLoop ps T n k u = goes Ro.more (roundRound ps T n) k u := by
  induction k with
  | zero => intro u; rfl
  | succ k ih => intro u; simp only [roundLoop, goes]; split <;> simp [ih]
structure RoI (g : Gr) (u : Ro) : Prop where
  l : u.left.length = g.S.toNat
  t : ∀ s : Int, 0 ≤ s → gb u.left s = true → g.T ≤ s
  x : ∀ X : Int → Prop, (∀ s, X s → g.T ≤ s ∧ s < g.S) → Cyc g.ps X → ∀ s, X s → gb u.left s = true
theorem roundIn_I {g : Gr} {u : Ro} {s : Nat} (hT : 0 ≤ g.T) (hs : s < g.S.toNat) (h : RoI g u) : RoI g (roundIn g.ps u s) := by
  unfold roundIn
  split
  · rename_i hc
    simp only [Bool.and_eq_true, Bool.not_eq_true'] at hc
    refine ⟨by simp [h.l], fun y hy hg => ?_, fun X hX hC y hy => ?_⟩
    · dsimp only at hg
      have := gb_set (m := u.left) (i := (s : Int)) (b := false) (by omega) (by rw [h.l]; simpa using hs) y hy
      simp only [Int.toNat_natCast] at this
      rw [this] at hg
      split at hg
      · cases hg
      · exact h.t y hy hg
    · dsimp only
      have h0 : 0 ≤ y := by have := (hX y hy).1; omega
      have := gb_set (m := u.left) (i := (s : Int)) (b := false) (by omega) (by rw [h.l]; simpa using hs) y h0
      simp only [Int.toNat_natCast] at this
      rw [this]
      by_cases e : y = s
      · exfalso
        subst e
        obtain ⟨p, hp, e1, e2, e3⟩ := hC _ hy
        have h1 := h.x X hX hC _ e3
        have h2 := List.any_eq_false.1 hc.2 p hp
        simp only [leads, e1, e2, h1] at h2
        simp at h2
      · rw [if_neg e]
        exact h.x X hX hC y hy
  · exact h
theorem roundAll_I {g : Gr} (hT : 0 ≤ g.T) (l : List Nat) (hl : ∀ s ∈ l, s < g.S.toNat) : ∀ u, RoI g u → RoI g (l.foldl (roundIn g.ps) u) := by
  induction l with
  | nil => intro u h; exact h
  | cons s l ih => intro u h; exact ih (fun y hy => hl y (List.mem_cons_of_mem _ hy)) _ (roundIn_I hT (hl s List.mem_cons_self) h)
theorem roundAll_still {ps : List Pr} (l : List Nat) : ∀ u : Ro, (l.foldl (roundIn ps) u).more = false → l.foldl (roundIn ps) u = u ∧ u.more = false ∧ ∀ s ∈ l, gb u.left s = true → ps.any (leads u.left s) = true := by
  induction l with
  | nil => intro u h; exact ⟨rfl, h, by simp⟩
  | cons s l ih =>
    intro u h
    rw [List.foldl_cons] at h ⊢
    obtain ⟨h1, h2, h3⟩ := ih _ h
    have hn : ¬ ((gb u.left s && !(ps.any (leads u.left s))) = true) := by
      intro hc
      unfold roundIn at h2
      rw [if_pos hc] at h2
      cases h2
    have he : roundIn ps u s = u := by unfold roundIn; rw [if_neg hn]
    rw [he] at h1 h2 h3 ⊢
    refine ⟨h1, h2, fun y hy hg => ?_⟩
    rcases List.mem_cons.1 hy with rfl | hy
    · simp only [Bool.and_eq_true, Bool.not_eq_true', not_and, Bool.not_eq_false] at hn
      exact hn hg
    · exact h3 y hy hg
theorem round_spec {g : Gr} (ok : GrOk g) : roundB g = true ↔ ∃ X : Int → Prop, (∃ s, X s) ∧ (∀ s, X s → g.T ≤ s ∧ s < g.S) ∧ Cyc g.ps X := by
  have hT0 := ok.t0
  have hS := ok.s0
  have I0 : RoI g (round0 g.T.toNat g.S.toNat) := by
    refine ⟨by simp [round0]; omega, fun s hs hg => ?_, fun X hX hC s hs => ?_⟩
    · unfold round0 at hg
      dsimp only at hg
      by_cases hlt : s.toNat < g.T.toNat + (g.S.toNat - g.T.toNat)
      · rw [gb_rep _ _ _ _ _ hlt] at hg
        split at hg
        · cases hg
        · omega
      · omega
    · unfold round0
      dsimp only
      have := hX s hs
      rw [gb_rep _ _ _ _ _ (by omega), if_neg (by omega)]
  have hround : ∀ u, RoI g u → RoI g (roundRound g.ps g.T.toNat g.S.toNat u) :=
    fun u hu => roundAll_I (by omega) _ (fun s hs => by have := List.mem_range'_1.1 hs; omega) _ ⟨hu.l, hu.t, hu.x⟩
  obtain ⟨v, hv, e, hm⟩ := goes_end Ro.more (roundRound g.ps g.T.toNat g.S.toNat) (fun u => u.left.count true) (RoI g) hround
    (fun u hu hm => (roundRound_le (n := g.S.toNat) hu.l).2 hm) (g.S.toNat + 1) (round0 g.T.toNat g.S.toNat) I0
    (by have := List.count_le_length (a := true) (l := (round0 g.T.toNat g.S.toNat).left); have h1 := I0.l; omega) rfl
  have hend : roundEnd g = roundRound g.ps g.T.toNat g.S.toNat v := by unfold roundEnd; rw [roundLoop_goes, e]
  obtain ⟨h1, _, h3⟩ := roundAll_still _ ⟨v.left, false⟩ hm
  have hsame : (roundEnd g).left = v.left := by rw [hend]; unfold roundRound; rw [h1]
  unfold roundB
  rw [hsame]
  constructor
  · intro ha
    obtain ⟨b, hb, hb2⟩ := List.any_eq_true.1 ha
    have hb3 : b = true := by simpa using hb2
    subst hb3
    obtain ⟨i, hi, hib⟩ := List.getElem_of_mem hb
    refine ⟨fun s => 0 ≤ s ∧ gb v.left s = true, ⟨(i : Int), by omega, by unfold gb; rw [List.getD_eq_getElem?_getD]; simp [hi, hib]⟩, fun s hs => ⟨hv.t s hs.1 hs.2, ?_⟩, fun s hs => ?_⟩
    · apply Classical.byContradiction
      intro hlt
      have := hs.2
      unfold gb at this
      rw [List.getD_eq_getElem?_getD, List.getElem?_eq_none (by rw [hv.l]; omega)] at this
      cases this
    · have hsT := hv.t s hs.1 hs.2
      have hsS : s.toNat < g.S.toNat := by
        apply Classical.byContradiction
        intro hlt
        have := hs.2
        unfold gb at this
        rw [List.getD_eq_getElem?_getD, List.getElem?_eq_none (by rw [hv.l]; omega)] at this
        cases this
      have hss : ((s.toNat : Nat) : Int) = s := Int.toNat_of_nonneg hs.1
      have := h3 s.toNat (List.mem_range'_1.2 ⟨by omega, by omega⟩) (by rw [hss]; exact hs.2)
      rw [hss] at this
      obtain ⟨p, hp, hl⟩ := List.any_eq_true.1 this
      simp only [leads, Bool.and_eq_true, decide_eq_true_eq] at hl
      refine ⟨p, hp, hl.1.1, hl.1.2, ?_, hl.2⟩
      have hb0 : p.body.getD 0 0 ∈ p.body := by
        rw [List.getD_eq_getElem?_getD, List.getElem?_eq_getElem (by omega)]
        exact List.getElem_mem _
      exact ((ok.pr p hp).2.2 _ hb0).1
  · rintro ⟨X, ⟨s, hs⟩, hX, hC⟩
    have hg := hv.x X hX hC s hs
    have := hX s hs
    have hlt : s.toNat < v.left.length := by rw [hv.l]; omega
    refine List.any_eq_true.2 ⟨v.left[s.toNat], List.getElem_mem hlt, ?_⟩
    unfold gb at hg
    rw [List.getD_eq_getElem?_getD, List.getElem?_eq_getElem hlt] at hg
    simpa using hg

/-! ### numbers, whatever the order -/
def Apart (a b : Pr) : Prop := ¬ (a.head = b.head ∧ a.body = b.body)
theorem numbersB_iff (g : Gr) : numbersB g = true ↔ headB g = true ∧ (∀ p ∈ g.ps, g.T ≤ p.head ∧ p.head < g.S ∧ ∀ s ∈ p.body, 0 ≤ s ∧ s < g.S) ∧ g.ps.Pairwise Apart := by
  constructor
  · intro h
    obtain ⟨ok, hh⟩ := numbersB_ok h
    refine ⟨hh, ok.pr, List.pairwise_iff_getElem.2 fun i j hi hj hij => ?_⟩
    unfold numbersB at h
    simp only [Bool.and_eq_true] at h
    have h3 := List.all_eq_true.1 h.2 j (List.mem_range.2 hj)
    unfold okAt at h3
    rw [List.getElem?_eq_getElem hj] at h3
    simp only [prodB, Bool.and_eq_true, Bool.not_eq_true'] at h3
    have h4 := List.any_eq_false.1 h3.2 g.ps[i] (List.mem_take_iff_getElem.2 ⟨i, by omega, rfl⟩)
    simp only [sameP, Bool.and_eq_true, decide_eq_true_eq] at h4
    exact h4
  · rintro ⟨hh, hp, hw⟩
    refine numbersB_all hh fun j hj => ?_
    unfold okAt
    rw [List.getElem?_eq_getElem hj]
    simp only [prodB, Bool.and_eq_true, Bool.not_eq_true', decide_eq_true_eq]
    have h1 := hp _ (List.getElem_mem hj)
    refine ⟨⟨⟨h1.1, h1.2.1⟩, List.all_eq_true.2 fun s hs => ?_⟩, List.any_eq_false.2 fun q hq => ?_⟩
    · have := h1.2.2 s hs
      simp [symB, this.1, this.2]
    · obtain ⟨i, hi, rfl⟩ := List.mem_take_iff_getElem.1 hq
      have := List.pairwise_iff_getElem.1 hw i j (by omega) hj (by omega)
      unfold Apart at this
      simpa only [sameP, Bool.and_eq_true, decide_eq_true_eq] using this

/-! ### The productions turned -/
def turnP (p : Pr) : Pr := ⟨p.head, p.body, !p.right⟩
def turnG (g : Gr) : Gr := ⟨g.T, g.S, g.st, (g.ps.map turnP).reverse⟩
def Sub (ps qs : List Pr) : Prop := ∀ p ∈ ps, ∃ q ∈ qs, q.head = p.head ∧ q.body = p.body
theorem sub_turn (ps : List Pr) : Sub ps (ps.map turnP).reverse := fun p hp => ⟨turnP p, List.mem_reverse.2 (List.mem_map_of_mem hp), rfl, rfl⟩
theorem turn_sub (ps : List Pr) : Sub (ps.map turnP).reverse ps := fun q hq => by
  obtain ⟨p, hp, rfl⟩ := List.mem_map.1 (List.mem_reverse.1 hq)
  exact ⟨p, hp, rfl, rfl⟩
theorem Cm.sub {st : Int} {ps qs : List Pr} (h : Sub ps qs) {s : Int} (hb : Cm st ps s) : Cm st qs s := by
  induction hb with
  | start => exact .start
  | step hp _ hy ih =>
    obtain ⟨q, hq, e1, e2⟩ := h _ hp
    exact .step hq (by rw [e1]; exact ih) (by rw [e2]; exact hy)
theorem Gd.sub {T : Int} {ps qs : List Pr} (h : Sub ps qs) {s : Int} (hb : Gd T ps s) : Gd T qs s := by
  induction hb with
  | term h0 h1 => exact .term h0 h1
  | head hp _ ih =>
    obtain ⟨q, hq, e1, e2⟩ := h _ hp
    rw [← e1]
    exact .head hq (fun y hy => ih y (by rw [← e2]; exact hy))
theorem Beg.sub {T : Nat} {ps qs : List Pr} (h : Sub ps qs) {s : Int} {t : Nat} (hb : Beg T ps s t) : Beg T qs s t := by
  induction hb with
  | term h1 => exact .term h1
  | head hp hy _ ih =>
    obtain ⟨q, hq, e1, e2⟩ := h _ hp
    rw [← e1]
    exact .head hq (by rw [e2]; exact hy) ih
theorem Fol.sub {T : Nat} {st : Int} {ps qs : List Pr} (h : Sub ps qs) {s : Int} {t : Nat} (hb : Fol T st ps s t) : Fol T st qs s t := by
  induction hb with
  | start => exact .start
  | next hp hy hz hb =>
    obtain ⟨q, hq, e1, e2⟩ := h _ hp
    exact .next hq (by rw [e2]; exact hy) (by rw [e2]; exact hz) (hb.sub h)
  | last hp hy hl _ ih =>
    obtain ⟨q, hq, e1, e2⟩ := h _ hp
    exact .last hq (by rw [e2]; exact hy) (by rw [e2]; exact hl) (by rw [e1]; exact ih)
theorem Cyc.sub {ps qs : List Pr} (h : Sub ps qs) {X : Int → Prop} (hc : Cyc ps X) : Cyc qs X := by
  intro s hs
  obtain ⟨p, hp, e1, e2, e3⟩ := hc s hs
  obtain ⟨q, hq, f1, f2⟩ := h _ hp
  exact ⟨q, hq, by rw [f1]; exact e1, by rw [f2]; exact e2, by rw [f2]; exact e3⟩
theorem bool_iff {a b : Bool} (h : a = true ↔ b = true) : a = b := by cases a <;> cases b <;> simp_all
theorem numbers_turn (g : Gr) : numbersB (turnG g) = numbersB g := by
  apply bool_iff
  rw [numbersB_iff, numbersB_iff]
  have hh : headB (turnG g) = headB g := by simp [headB, turnG]
  rw [hh]
  have hw : (turnG g).ps.Pairwise Apart ↔ g.ps.Pairwise Apart := by
    unfold turnG
    dsimp only
    rw [List.pairwise_reverse, List.pairwise_map]
    constructor
    · intro h
      exact h.imp fun {a b} hab => fun e => hab ⟨e.1.symm, e.2.symm⟩
    · intro h
      exact h.imp fun {a b} hab => fun e => hab ⟨e.1.symm, e.2.symm⟩
  rw [hw]
  have hp : (∀ p ∈ (turnG g).ps, (turnG g).T ≤ p.head ∧ p.head < (turnG g).S ∧ ∀ s ∈ p.body, 0 ≤ s ∧ s < (turnG g).S) ↔ ∀ p ∈ g.ps, g.T ≤ p.head ∧ p.head < g.S ∧ ∀ s ∈ p.body, 0 ≤ s ∧ s < g.S := by
    constructor
    · intro h p hp
      obtain ⟨q, hq, e1, e2⟩ := sub_turn g.ps p hp
      have := h q hq
      rw [e1, e2] at this
      exact this
    · intro h q hq
      obtain ⟨p, hp, e1, e2⟩ := turn_sub g.ps q hq
      have := h p hp
      rw [e1, e2] at this
      exact this
  rw [hp]
theorem check_turn (g : Gr) : checkI (turnG g) = checkI g := by
  have hn := numbers_turn g
  unfold checkI
  rw [hn]
  cases hN : numbersB g with
  | false => simp
  | true =>
    have ok := (numbersB_ok hN).1
    have okt := (numbersB_ok (hn.trans hN)).1
    have a1 : (turnG g).ps.any (fun p => decide (8 < p.body.length)) = g.ps.any (fun p => decide (8 < p.body.length)) := by
      unfold turnG; rw [List.any_reverse, List.any_map]; rfl
    have a2 : (turnG g).ps.any (fun p => decide (p.body.length = 0)) = g.ps.any (fun p => decide (p.body.length = 0)) := by
      unfold turnG; rw [List.any_reverse, List.any_map]; rfl
    have a3 : usedB (turnG g) = usedB g := by
      apply bool_iff
      rw [used_spec okt, used_spec ok]
      constructor
      · rintro ⟨h1, h2⟩
        exact ⟨fun s h3 h4 => (h1 s h3 h4).sub (turn_sub g.ps), fun s h3 h4 => (h2 s h3 h4).sub (turn_sub g.ps)⟩
      · rintro ⟨h1, h2⟩
        exact ⟨fun s h3 h4 => (h1 s h3 h4).sub (sub_turn g.ps), fun s h3 h4 => (h2 s h3 h4).sub (sub_turn g.ps)⟩
    have a4 : roundB (turnG g) = roundB g := by
      apply bool_iff
      rw [round_spec okt, round_spec ok]
      constructor
      · rintro ⟨X, h1, h2, h3⟩; exact ⟨X, h1, h2, h3.sub (turn_sub g.ps)⟩
      · rintro ⟨X, h1, h2, h3⟩; exact ⟨X, h1, h2, h3.sub (sub_turn g.ps)⟩
    rw [a1, a2, a3, a4]
theorem tlist_same {a b : Nat} (h : ∀ t, a.testBit t = true ↔ b.testBit t = true) : tlist a = tlist b := by
  have : a.testBit = b.testBit := funext fun t => bool_iff (h t)
  unfold tlist
  rw [this]
theorem first_turn (g : Gr) (s : Int) : firstR (turnG g) s = firstR g s := by
  unfold firstR
  rw [check_turn]
  by_cases hc : checkI g = 0
  · rw [if_pos hc, if_pos hc]
    by_cases hs : 0 ≤ s ∧ s < g.S
    · have hs' : 0 ≤ s ∧ s < (turnG g).S := hs
      rw [if_pos hs, if_pos hs']
      have f1 := fit_of hc
      have f2 := fit_of ((check_turn g).trans hc)
      rw [tlist_same (b := gn (firstEnd g) s)]
      intro t
      rw [(first_spec f2).2.2 s hs.1 hs.2 t, (first_spec f1).2.2 s hs.1 hs.2 t]
      exact ⟨fun h => h.sub (turn_sub g.ps), fun h => h.sub (sub_turn g.ps)⟩
    · have hs' : ¬ (0 ≤ s ∧ s < (turnG g).S) := hs
      rw [if_neg hs, if_neg hs']
  · rw [if_neg hc, if_neg hc]
theorem follow_turn (g : Gr) (s : Int) : followR (turnG g) s = followR g s := by
  unfold followR
  rw [check_turn]
  by_cases hc : checkI g = 0
  · rw [if_pos hc, if_pos hc]
    by_cases hs : 0 ≤ s ∧ s < g.S
    · have hs' : 0 ≤ s ∧ s < (turnG g).S := hs
      rw [if_pos hs, if_pos hs']
      have f1 := fit_of hc
      have f2 := fit_of ((check_turn g).trans hc)
      rw [tlist_same (b := gn (followEnd g) s)]
      intro t
      rw [(follow_spec f2).2.2 s hs.1 hs.2 t, (follow_spec f1).2.2 s hs.1 hs.2 t]
      exact ⟨fun h => h.sub (turn_sub g.ps), fun h => h.sub (sub_turn g.ps)⟩
    · have hs' : ¬ (0 ≤ s ∧ s < (turnG g).S) := hs
      rw [if_neg hs, if_neg hs']
  · rw [if_neg hc, if_neg hc]
end Go.Proofs.Ytofidghilcbegaa
