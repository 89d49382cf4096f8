/-
  Plain laws: what it means that a grammar may be: each head is come to and good for something, none goes round.
-/
import Derived.Test.YtadabkkkalgehaaCh
namespace Go.Proofs.Ytadabkkkalgehaa.H
open Go.RowKit
set_option linter.unusedVariables false
set_option linter.unusedSimpArgs false

theorem checkI_zero {g : Gr} (h : checkI g = 0) : numbersB g = true ∧ (∀ p ∈ g.ps, 0 < p.body.length ∧ p.body.length ≤ 8) ∧ usedB g = true ∧ roundB g = false := by
  unfold checkI at h
  by_cases h1 : numbersB g = false
  · rw [if_pos h1] at h; cases h
  rw [if_neg h1] at h
  by_cases h2 : g.ps.any (fun p => decide (8 < p.body.length)) = true
  · rw [if_pos h2] at h; cases h
  rw [if_neg h2] at h
  by_cases h3 : g.ps.any (fun p => decide (p.body.length = 0)) = true
  · rw [if_pos h3] at h; cases h
  rw [if_neg h3] at h
  by_cases h4 : usedB g = false
  · rw [if_pos h4] at h; cases h
  rw [if_neg h4] at h
  by_cases h5 : roundB g = true
  · rw [if_pos h5] at h; cases h
  refine ⟨by simpa using h1, fun p hp => ?_, by simpa using h4, by simpa using h5⟩
  simp only [List.any_eq_true, decide_eq_true_eq, not_exists, not_and] at h2 h3
  have := h2 p hp
  have := h3 p hp
  omega
theorem checkI_cases (g : Gr) : 0 ≤ checkI g ∧ checkI g ≤ 132 := by
  unfold checkI
  repeat (split <;> first | decide | skip)
theorem GrIn.ok {g : Gr} (h : checkI g = 0) : GrOk g := (numbersB_ok (checkI_zero h).1).1

/-- A loop that goes round while something was new. -/
def goes {α : Type} (more : α → Bool) (round : α → α) : Nat → α → α
  | 0, u => u
  | k + 1, u => if more u then goes more round k (round u) else u
theorem goes_end {α : Type} (more : α → Bool) (round : α → α) (μ : α → Nat) (I : α → Prop) (hI : ∀ u, I u → I (round u)) (hμ : ∀ u, I u → more (round u) = true → μ (round u) < μ u) :
    ∀ k u, I u → μ u < k → more u = true → ∃ v, I v ∧ goes more round k u = round v ∧ more (round v) = false := by
  intro k
  induction k with
  | zero => intro u _ h _; omega
  | succ k ih =>
    intro u hu hk hm
    unfold goes
    rw [if_pos hm]
    cases h : more (round u) with
    | false =>
      refine ⟨u, hu, ?_, h⟩
      cases k with
      | zero => rfl
      | succ k => unfold goes; rw [if_neg (by simp [h])]
    | true => exact ih (round u) (hI u hu) (by have := hμ u hu h; omega) h
/-- A symbol stands in a row that Start becomes. -/
inductive Cm (st : Int) (ps : List Pr) : Int → Prop where
  | start : Cm st ps st
  | step {p : Pr} {y : Int} (hp : p ∈ ps) (h : Cm st ps p.head) (hy : y ∈ p.body) : Cm st ps y
/-- A symbol becomes a row of terminals. -/
inductive Gd (T : Int) (ps : List Pr) : Int → Prop where
  | term {s : Int} (h0 : 0 ≤ s) (h : s < T) : Gd T ps s
  | head {p : Pr} (hp : p ∈ ps) (h : ∀ y ∈ p.body, Gd T ps y) : Gd T ps p.head

theorem usedLoop_goes (ps : List Pr) (k : Nat) : ∀ u, usedLoop ps k u = goes Us.more (usedRound ps) k u := by
  induction k with
  | zero => intro u; rfl
  | succ k ih => intro u; simp only [usedLoop, goes]; split <;> simp [ih]
theorem gb_set {m : List Bool} {i : Int} {b : Bool} (hi : 0 ≤ i) (h : i.toNat < m.length) (s : Int) (hs : 0 ≤ s) : gb (m.set i.toNat b) s = if s = i then b else gb m s := by
  unfold gb
  rw [List.getD_eq_getElem?_getD, List.getD_eq_getElem?_getD, List.getElem?_set]
  by_cases e : s = i
  · subst e; simp [h]
  · have : ¬ i.toNat = s.toNat := by omega
    simp [this, e]
theorem gb_rep (a b : Nat) (x y : Bool) (s : Int) (hs : s.toNat < a + b) : gb (List.replicate a x ++ List.replicate b y) s = if s.toNat < a then x else y := by
  unfold gb
  rw [List.getD_eq_getElem?_getD]
  by_cases h : s.toNat < a
  · rw [List.getElem?_append_left (by simpa using h)]
    simp [h]
  · rw [List.getElem?_append_right (by simpa using h)]
    have : s.toNat - a < b := by omega
    simp [h, this]

structure UsI (T : Int) (n : Nat) (st : Int) (ps : List Pr) (u : Us) : Prop where
  lc : u.come.length = n
  lg : u.good.length = n
  sv : gb u.come st = true
  tm : ∀ s : Int, 0 ≤ s → s < T → gb u.good s = true
  c : ∀ s : Int, 0 ≤ s → s.toNat < n → gb u.come s = true → Cm st ps s
  g : ∀ s : Int, 0 ≤ s → s.toNat < n → gb u.good s = true → Gd T ps s
theorem comeIn_I {T : Int} {n : Nat} {st : Int} {ps : List Pr} {u : Us} {p : Pr} {y : Int} (hst : 0 ≤ st) (hp : p ∈ ps) (hin : PrIn n p) (hy : y ∈ p.body) (h : UsI T n st ps u) : UsI T n st ps (comeIn p.head u y) := by
  have hyn := hin.2.2 y hy
  unfold comeIn
  split
  · rename_i ht
    simp only [Bool.and_eq_true, Bool.not_eq_true'] at ht
    refine ⟨by simp [h.lc], h.lg, ?_, h.tm, fun s hs hsn hc => ?_, h.g⟩
    · dsimp only
      rw [gb_set hyn.1 (by rw [h.lc]; exact hyn.2) _ hst]
      split
      · rfl
      · exact h.sv
    · dsimp only at hc
      rw [gb_set hyn.1 (by rw [h.lc]; exact hyn.2) _ hs] at hc
      split at hc
      · rename_i e
        rw [e]
        exact .step hp (h.c p.head hin.1 hin.2.1 ht.1) hy
      · exact h.c s hs hsn hc
  · exact h
theorem goodIn_I {T : Int} {n : Nat} {st : Int} {ps : List Pr} {u : Us} {p : Pr} (hp : p ∈ ps) (hin : PrIn n p) (h : UsI T n st ps u) : UsI T n st ps (goodIn p u) := by
  unfold goodIn
  split
  · rename_i ht
    simp only [Bool.and_eq_true, Bool.not_eq_true'] at ht
    have hall : ∀ y ∈ p.body, gb u.good y = true := by
      intro y hy
      have h2 := List.any_eq_false.1 ht.2 y hy
      simpa using h2
    refine ⟨h.lc, by simp [h.lg], h.sv, fun s hs hsT => ?_, h.c, fun s hs hsn hc => ?_⟩
    · dsimp only
      rw [gb_set hin.1 (by rw [h.lg]; exact hin.2.1) _ hs]
      split
      · rfl
      · exact h.tm s hs hsT
    · dsimp only at hc
      rw [gb_set hin.1 (by rw [h.lg]; exact hin.2.1) _ hs] at hc
      split at hc
      · rename_i e
        rw [e]
        exact .head hp (fun y hy => h.g y (hin.2.2 y hy).1 (hin.2.2 y hy).2 (hall y hy))
      · exact h.g s hs hsn hc
  · exact h
theorem comeAll_I {T : Int} {n : Nat} {st : Int} {ps : List Pr} {p : Pr} (hst : 0 ≤ st) (hp : p ∈ ps) (hin : PrIn n p) (l : List Int) (hl : ∀ y ∈ l, y ∈ p.body) : ∀ u : Us, UsI T n st ps u → UsI T n st ps (l.foldl (comeIn p.head) u) := by
  induction l with
  | nil => intro u h; exact h
  | cons y l ih => intro u h; exact ih (fun q hq => hl q (by simp [hq])) _ (comeIn_I hst hp hin (hl y (by simp)) h)
theorem usedAll_I {T : Int} {n : Nat} {st : Int} {ps : List Pr} (hst : 0 ≤ st) (hin : ∀ p ∈ ps, PrIn n p) (l : List Pr) (hl : ∀ p ∈ l, p ∈ ps) : ∀ u : Us, UsI T n st ps u → UsI T n st ps (l.foldl usedStep u) := by
  induction l with
  | nil => intro u h; exact h
  | cons p l ih =>
    intro u h
    have hp := hl p (by simp)
    exact ih (fun q hq => hl q (by simp [hq])) _ (comeAll_I hst hp (hin p hp) p.body (fun _ h => h) _ (goodIn_I hp (hin p hp) h))
theorem comeAll_still {h : Int} (l : List Int) : ∀ u : Us, (l.foldl (comeIn h) u).more = false → l.foldl (comeIn h) u = u ∧ u.more = false ∧ ∀ y ∈ l, gb u.come h = true → gb u.come y = true := by
  induction l with
  | nil => intro u h; exact ⟨rfl, h, by simp⟩
  | cons y l ih =>
    intro u hm
    obtain ⟨h1, h2, h3⟩ := ih (comeIn h u y) hm
    have e : comeIn h u y = u := by
      unfold comeIn at h2 ⊢
      split at h2
      · cases h2
      · rename_i hc; rw [if_neg hc]
    have e2 : gb u.come h = true → gb u.come y = true := by
      intro hh
      unfold comeIn at h2
      split at h2
      · cases h2
      · rename_i hc
        simp only [Bool.and_eq_true, Bool.not_eq_true', not_and, Bool.not_eq_false] at hc
        exact hc hh
    rw [e] at h1 h2 h3
    refine ⟨by rw [List.foldl_cons, e, h1], h2, fun z hz => ?_⟩
    rcases List.mem_cons.1 hz with rfl | hz
    · exact e2
    · exact h3 z hz
theorem usedAll_still (l : List Pr) : ∀ u : Us, (l.foldl usedStep u).more = false → l.foldl usedStep u = u ∧ u.more = false ∧ ∀ p ∈ l, (gb u.come p.head = true → ∀ y ∈ p.body, gb u.come y = true) ∧ ((∀ y ∈ p.body, gb u.good y = true) → gb u.good p.head = true) := by
  induction l with
  | nil => intro u h; exact ⟨rfl, h, by simp⟩
  | cons p l ih =>
    intro u hm
    obtain ⟨h1, h2, h3⟩ := ih (usedStep u p) hm
    obtain ⟨k1, k2, k3⟩ := comeAll_still p.body (goodIn p u) h2
    have e : goodIn p u = u ∧ ((∀ y ∈ p.body, gb u.good y = true) → gb u.good p.head = true) := by
      unfold goodIn at k2
      unfold goodIn
      split at k2
      · cases k2
      · rename_i hc
        refine ⟨by rw [if_neg hc], fun hall => ?_⟩
        simp only [Bool.and_eq_true, Bool.not_eq_true', not_and] at hc
        apply Classical.byContradiction
        intro hng
        refine hc (by simpa using hng) ?_
        rw [List.any_eq_false]
        intro y hy
        rw [hall y hy]; simp
    have e1 : usedStep u p = u := by
      unfold usedStep
      rw [e.1] at k1 ⊢
      exact k1
    rw [e.1] at k3
    rw [e1] at h1 h2 h3
    refine ⟨by rw [List.foldl_cons, e1, h1], h2, fun q hq => ?_⟩
    rcases List.mem_cons.1 hq with rfl | hq
    · exact ⟨fun hh y hy => k3 y hy hh, e.2⟩
    · exact h3 q hq
theorem any_false_iff (l : List Bool) : l.any (fun x => false == x) = false ↔ ∀ i (h : i < l.length), l[i] = true := by
  rw [List.any_eq_false]
  constructor
  · intro h i hi
    have := h _ (List.getElem_mem hi)
    simpa using this
  · intro h x hx
    obtain ⟨i, hi, rfl⟩ := List.getElem_of_mem hx
    simp [h i hi]
theorem used_spec {g : Gr} (ok : GrOk g) : usedB g = true ↔ (∀ s, g.T ≤ s → s < g.S → Cm g.st g.ps s) ∧ (∀ s, 0 ≤ s → s < g.S → Gd g.T g.ps s) := by
  have h1 := ok.t0; have h2 := ok.s0; have h3 := ok.st0; have h4 := ok.st1
  have hpin : ∀ p ∈ g.ps, PrIn g.S.toNat p := by
    intro p hp
    have h1 := ok.pr p hp
    exact ⟨by omega, by omega, fun s hs => by have := h1.2.2 s hs; omega⟩
  have hst : 0 ≤ g.st := by omega
  have I0 : UsI g.T g.S.toNat g.st g.ps (used0 g) := by
    refine ⟨by simp [used0], by simp [used0]; omega, ?_, fun s hs hsT => ?_, fun s hs hsn hc => ?_, fun s hs hsn hc => ?_⟩
    · simp only [used0]
      rw [gb_set hst (by simp; omega) _ hst, if_pos rfl]
    · simp only [used0]
      rw [gb_rep _ _ _ _ _ (by omega), if_pos (by omega)]
    · simp only [used0] at hc
      rw [gb_set hst (by simp; omega) _ hs] at hc
      split at hc
      · rename_i e; rw [e]; exact .start
      · exfalso
        have : gb (List.replicate g.S.toNat false) s = false := by
          unfold gb; rw [List.getD_eq_getElem?_getD, List.getElem?_replicate]; split <;> rfl
        rw [this] at hc; cases hc
    · simp only [used0] at hc
      rw [gb_rep _ _ _ _ _ (by omega)] at hc
      split at hc
      · exact .term hs (by omega)
      · cases hc
  have hround : ∀ u, UsI g.T g.S.toNat g.st g.ps u → UsI g.T g.S.toNat g.st g.ps (usedRound g.ps u) :=
    fun u hu => usedAll_I hst hpin g.ps (fun _ h => h) _ ⟨hu.lc, hu.lg, hu.sv, hu.tm, hu.c, hu.g⟩
  have hle : falses (used0 g) < 2 * g.S.toNat + 1 := by
    have a1 := List.count_le_length (l := (used0 g).come) (a := false)
    have a2 := List.count_le_length (l := (used0 g).good) (a := false)
    rw [I0.lc] at a1
    rw [I0.lg] at a2
    unfold falses
    omega
  obtain ⟨v, hv, e, hm⟩ := goes_end Us.more (usedRound g.ps) falses (UsI g.T g.S.toNat g.st g.ps) hround
    (fun u hu hm => (usedRound_le (n := g.S.toNat) hu.lc hu.lg hpin).2.2 hm) (2 * g.S.toNat + 1) (used0 g) I0 hle rfl
  have hend : usedEnd g = usedRound g.ps v := by unfold usedEnd; rw [usedLoop_goes, e]
  obtain ⟨k1, _, k3⟩ := usedAll_still g.ps { v with more := false } hm
  have hfin := hround v hv
  have ec : (usedEnd g).come = v.come := by rw [hend]; show (g.ps.foldl usedStep { v with more := false }).come = _; rw [k1]
  have eg : (usedEnd g).good = v.good := by rw [hend]; show (g.ps.foldl usedStep { v with more := false }).good = _; rw [k1]
  have hC : ∀ s, 0 ≤ s → s < g.S → (gb v.come s = true ↔ Cm g.st g.ps s) := by
    intro s hs hsS
    refine ⟨fun h => hv.c s hs (by omega) h, fun h => ?_⟩
    clear hs hsS
    induction h with
    | start => exact hv.sv
    | step hp _ hy ih => exact (k3 _ hp).1 ih _ hy
  have hG : ∀ s, 0 ≤ s → s < g.S → (gb v.good s = true ↔ Gd g.T g.ps s) := by
    intro s hs hsS
    refine ⟨fun h => hv.g s hs (by omega) h, fun h => ?_⟩
    clear hs hsS
    induction h with
    | term h0 h => exact hv.tm _ h0 h
    | head hp _ ih => exact (k3 _ hp).2 ih
  have getb : ∀ (l : List Bool) (i : Nat) (h : i < l.length), gb l (i : Int) = l[i] := by
    intro l i h; unfold gb; simp [h]
  unfold usedB
  rw [Bool.and_eq_true, Bool.not_eq_true', Bool.not_eq_true', any_false_iff, any_false_iff, ec, eg]
  constructor
  · rintro ⟨a1, a2⟩
    refine ⟨fun s hsT hsS => ?_, fun s hs hsS => ?_⟩
    · refine (hC s (by omega) hsS).1 ?_
      have := a1 (s.toNat - g.T.toNat) (by rw [List.length_drop, hv.lc]; omega)
      rw [List.getElem_drop] at this
      have e : (s : Int) = ((g.T.toNat + (s.toNat - g.T.toNat) : Nat) : Int) := by omega
      rw [e, getb _ _ (by rw [hv.lc]; omega)]
      exact this
    · refine (hG s hs hsS).1 ?_
      have := a2 s.toNat (by rw [hv.lg]; omega)
      have e : (s : Int) = ((s.toNat : Nat) : Int) := by omega
      rw [e, getb _ _ (by rw [hv.lg]; omega)]
      exact this
  · rintro ⟨a1, a2⟩
    refine ⟨fun i hi => ?_, fun i hi => ?_⟩
    · rw [List.length_drop, hv.lc] at hi
      rw [List.getElem_drop, ← getb _ _ (by rw [hv.lc]; omega)]
      exact (hC _ (by omega) (by omega)).2 (a1 _ (by omega) (by omega))
    · rw [hv.lg] at hi
      rw [← getb _ _ (by rw [hv.lg]; omega)]
      exact (hG _ (by omega) (by omega)).2 (a2 _ (by omega) (by omega))
theorem gd_head {T : Int} {ps : List Pr} {s : Int} (h : Gd T ps s) (hs : T ≤ s) : ∃ p ∈ ps, p.head = s := by
  cases h with
  | term h0 h => omega
  | head hp _ => exact ⟨_, hp, rfl⟩
/-! ### round -/
def Cyc (ps : List Pr) (X : Int → Prop) : Prop := ∀ s, X s → ∃ p ∈ ps, p.head = s ∧ p.body.length = 1 ∧ X (p.body.getD 0 0)
theorem roundLoop_goes (ps : List Pr) (T n k : Nat) : ∀ u, roundLoop ps T n k u = goes Ro.more (roundRound ps T n) k u := by
  induction k with
  | zero => intro u; rfl
  | succ k ih => intro u; simp only [roundLoop, goes]; split <;> simp [ih]
structure RoI (g : Gr) (u : Ro) : Prop where
  l : u.left.length = g.S.toNat
  t : ∀ s : Int, 0 ≤ s → gb u.left s = true → g.T ≤ s
  x : ∀ X : Int → Prop, (∀ s, X s → g.T ≤ s ∧ s < g.S) → Cyc g.ps X → ∀ s, X s → gb u.left s = true
theorem roundIn_I {g : Gr} {u : Ro} {s : Nat} (hT : 0 ≤ g.T) (hs : s < g.S.toNat) (h : RoI g u) : RoI g (roundIn g.ps u s) := by
  unfold roundIn
  split
  · rename_i hc
    simp only [Bool.and_eq_true, Bool.not_eq_true'] at hc
    refine ⟨by simp [h.l], fun y hy hg => ?_, fun X hX hC y hy => ?_⟩
    · dsimp only at hg
      have := gb_set (m := u.left) (i := (s : Int)) (b := false) (by omega) (by rw [h.l]; simpa using hs) y hy
      simp only [Int.toNat_natCast] at this
      rw [this] at hg
      split at hg
      · cases hg
      · exact h.t y hy hg
    · dsimp only
      have h0 : 0 ≤ y := by have := (hX y hy).1; omega
      have := gb_set (m := u.left) (i := (s : Int)) (b := false) (by omega) (by rw [h.l]; simpa using hs) y h0
      simp only [Int.toNat_natCast] at this
      rw [this]
      by_cases e : y = s
      · exfalso
        subst e
        obtain ⟨p, hp, e1, e2, e3⟩ := hC _ hy
        have h1 := h.x X hX hC _ e3
        have h2 := List.any_eq_false.1 hc.2 p hp
        simp only [leads, e1, e2, h1] at h2
        simp at h2
      · rw [if_neg e]
        exact h.x X hX hC y hy
  · exact h
theorem roundAll_I {g : Gr} (hT : 0 ≤ g.T) (l : List Nat) (hl : ∀ s ∈ l, s < g.S.toNat) : ∀ u, RoI g u → RoI g (l.foldl (roundIn g.ps) u) := by
  induction l with
  | nil => intro u h; exact h
  | cons s l ih => intro u h; exact ih (fun y hy => hl y (List.mem_cons_of_mem _ hy)) _ (roundIn_I hT (hl s List.mem_cons_self) h)
theorem roundAll_still {ps : List Pr} (l : List Nat) : ∀ u : Ro, (l.foldl (roundIn ps) u).more = false → l.foldl (roundIn ps) u = u ∧ u.more = false ∧ ∀ s ∈ l, gb u.left s = true → ps.any (leads u.left s) = true := by
  induction l with
  | nil => intro u h; exact ⟨rfl, h, by simp⟩
  | cons s l ih =>
    intro u h
    rw [List.foldl_cons] at h ⊢
    obtain ⟨h1, h2, h3⟩ := ih _ h
    have hn : ¬ ((gb u.left s && !(ps.any (leads u.left s))) = true) := by
      intro hc
      unfold roundIn at h2
      rw [if_pos hc] at h2
      cases h2
    have he : roundIn ps u s = u := by unfold roundIn; rw [if_neg hn]
    rw [he] at h1 h2 h3 ⊢
    refine ⟨h1, h2, fun y hy hg => ?_⟩
    rcases List.mem_cons.1 hy with rfl | hy
    · simp only [Bool.and_eq_true, Bool.not_eq_true', not_and, Bool.not_eq_false] at hn
      exact hn hg
    · exact h3 y hy hg
theorem round_spec {g : Gr} (ok : GrOk g) : roundB g = true ↔ ∃ X : Int → Prop, (∃ s, X s) ∧ (∀ s, X s → g.T ≤ s ∧ s < g.S) ∧ Cyc g.ps X := by
  have hT0 := ok.t0
  have hS := ok.s0
  have I0 : RoI g (round0 g.T.toNat g.S.toNat) := by
    refine ⟨by simp [round0]; omega, fun s hs hg => ?_, fun X hX hC s hs => ?_⟩
    · unfold round0 at hg
      dsimp only at hg
      by_cases hlt : s.toNat < g.T.toNat + (g.S.toNat - g.T.toNat)
      · rw [gb_rep _ _ _ _ _ hlt] at hg
        split at hg
        · cases hg
        · omega
      · omega
    · unfold round0
      dsimp only
      have := hX s hs
      rw [gb_rep _ _ _ _ _ (by omega), if_neg (by omega)]
  have hround : ∀ u, RoI g u → RoI g (roundRound g.ps g.T.toNat g.S.toNat u) :=
    fun u hu => roundAll_I (by omega) _ (fun s hs => by have := List.mem_range'_1.1 hs; omega) _ ⟨hu.l, hu.t, hu.x⟩
  obtain ⟨v, hv, e, hm⟩ := goes_end Ro.more (roundRound g.ps g.T.toNat g.S.toNat) (fun u => u.left.count true) (RoI g) hround
    (fun u hu hm => (roundRound_le (n := g.S.toNat) hu.l).2 hm) (g.S.toNat + 1) (round0 g.T.toNat g.S.toNat) I0
    (by have := List.count_le_length (a := true) (l := (round0 g.T.toNat g.S.toNat).left); have h1 := I0.l; omega) rfl
  have hend : roundEnd g = roundRound g.ps g.T.toNat g.S.toNat v := by unfold roundEnd; rw [roundLoop_goes, e]
  obtain ⟨h1, _, h3⟩ := roundAll_still _ ⟨v.left, false⟩ hm
  have hsame : (roundEnd g).left = v.left := by rw [hend]; unfold roundRound; rw [h1]
  unfold roundB
  rw [hsame]
  constructor
  · intro ha
    obtain ⟨b, hb, hb2⟩ := List.any_eq_true.1 ha
    have hb3 : b = true := by simpa using hb2
    subst hb3
    obtain ⟨i, hi, hib⟩ := List.getElem_of_mem hb
    refine ⟨fun s => 0 ≤ s ∧ gb v.left s = true, ⟨(i : Int), by omega, by unfold gb; rw [List.getD_eq_getElem?_getD]; simp [hi, hib]⟩, fun s hs => ⟨hv.t s hs.1 hs.2, ?_⟩, fun s hs => ?_⟩
    · apply Classical.byContradiction
      intro hlt
      have := hs.2
      unfold gb at this
      rw [List.getD_eq_getElem?_getD, List.getElem?_eq_none (by rw [hv.l]; omega)] at this
      cases this
    · have hsT := hv.t s hs.1 hs.2
      have hsS : s.toNat < g.S.toNat := by
        apply Classical.byContradiction
        intro hlt
        have := hs.2
        unfold gb at this
        rw [List.getD_eq_getElem?_getD, List.getElem?_eq_none (by rw [hv.l]; omega)] at this
        cases this
      have hss : ((s.toNat : Nat) : Int) = s := Int.toNat_of_nonneg hs.1
      have := h3 s.toNat (List.mem_range'_1.2 ⟨by omega, by omega⟩) (by rw [hss]; exact hs.2)
      rw [hss] at this
      obtain ⟨p, hp, hl⟩ := List.any_eq_true.1 this
      simp only [leads, Bool.and_eq_true, decide_eq_true_eq] at hl
      refine ⟨p, hp, hl.1.1, hl.1.2, ?_, hl.2⟩
      have hb0 : p.body.getD 0 0 ∈ p.body := by
        rw [List.getD_eq_getElem?_getD, List.getElem?_eq_getElem (by omega)]
        exact List.getElem_mem _
      exact ((ok.pr p hp).2.2 _ hb0).1
  · rintro ⟨X, ⟨s, hs⟩, hX, hC⟩
    have hg := hv.x X hX hC s hs
    have := hX s hs
    have hlt : s.toNat < v.left.length := by rw [hv.l]; omega
    refine List.any_eq_true.2 ⟨v.left[s.toNat], List.getElem_mem hlt, ?_⟩
    unfold gb at hg
    rw [List.getD_eq_getElem?_getD, List.getElem?_eq_getElem hlt] at hg
    simpa using hg

end Go.Proofs.Ytadabkkkalgehaa.H
