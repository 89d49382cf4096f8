import Derived.Test.YtofidghilcbegaaZ0
import Derived.Below
import Derived.Deep.Draws
import Derived.Deep.AppendLies
import Derived.Maps.AppendAt
import Derived.OwnWalk
import Derived.Laws.BytesArg
import Derived.Laws.MakeOwn
import Derived.Laws.OwnMore
import Derived.Deep.OwnRows
import Derived.Tactics
import Derived.Lib.ConvBytes
import Derived.Laws.Slices
import Derived.WalkKit
import Derived.KernelRfl
import Derived.RowKit3
import Derived.Deep.LoopGhost
import Derived.Deep.QuietTactic
import Derived.BigQuiet
import Derived.WideLaws
import Derived.Deep.DeepCutAuto
import Derived.Deep.CutBlock
import Derived.Deep.RegionHeld3
import Derived.Laws.Rows
import Derived.Lib.AppendStr
import Derived.ArgAppend
import Derived.Laws.IdiomCopy
import Derived.RowKit
namespace Go.Proofs.Ytofidghilcbegaa.H
open Go.RowKit
set_option linter.unusedVariables false
set_option linter.unusedSimpArgs false
theorem checkI_zero {g : Gr} (h : checkI g = 0) : numbersB g = true ∧ (∀ p ∈ g.ps, 0 < p.body.length ∧ p.body.length ≤ 8) ∧ usedB g = true ∧ roundB g = false := by
  unfold checkI at h
  by_cases h1 : numbersB g = false
  · rw [if_pos h1] at h; cases h
  rw [if_neg h1] at h
  by_cases h2 : g.ps.any (fun p => decide (8 < p.body.length)) = true
  · rw [if_pos h2] at h; cases h
  rw [if_neg h2] at h
  by_cases h3 : g.ps.any (fun p => decide (p.body.length = 0)) = true
  · rw [if_pos h3] at h; cases h
  rw [if_neg h3] at h
  by_cases h4 : usedB g = false
  · rw [if_pos h4] at h; cases h
  rw [if_neg h4] at h
  by_cases h5 : roundB g = true
  · rw [if_pos h5] at h; cases h
  refine ⟨by simpa using h1, fun p hp => ?_, by simpa using h4, by simpa using h5⟩
  simp only [List.any_eq_true, decide_eq_true_eq, not_exists, not_and] at h2 h3
  have := h2 p hp
  have := h3 p hp
  omega
theorem GrIn.ok {g : Gr} (h : checkI g = 0) : GrOk g := (numbersB_ok (checkI_zero h).1).1
def goes {α : Type} (more : α → Bool) (round : α → α) : Nat → α → α
  | 0, u => u
  | k + 1, u => if more u then goes more round k (round u) else u
theorem goes_end {α : Type} (more : α → Bool) (round : α → α) (μ : α → Nat) (I : α → Prop) (hI : ∀ u, I u → I (round u)) (hμ : ∀ u, I u → more (round u) = true → μ (round u) < μ u) :
    ∀ k u, I u → μ u < k → more u = true → ∃ v, I v ∧ goes more round k u = round v ∧ more (round v) = false := by
  intro k
  induction k with
  | zero => intro u _ h _; omega
  | succ k ih =>
    intro u hu hk hm
    unfold goes
    rw [if_pos hm]
    cases h : more (round u) with
    | false =>
      refine ⟨u, hu, ?_, h⟩
      cases k with
      | zero => rfl
      | succ k => unfold goes; rw [if_neg (by simp [h])]
    | true => exact ih (round u) (hI u hu) (by have := hμ u hu h; omega) h
inductive Cm (st : Int) (ps : List Pr) : Int → Prop where
  | start : Cm st ps st
  | step {p : Pr} {y : Int} (hp : p ∈ ps) (h : Cm st ps p.head) (hy : y ∈ p.body) : Cm st ps y
inductive Gd (T : Int) (ps : List Pr) : Int → Prop where
  | term {s : Int} (h0 : 0 ≤ s) (h : s < T) : Gd T ps s
  | head {p : Pr} (hp : p ∈ ps) (h : ∀ y ∈ p.body, Gd T ps y) : Gd T ps p.head
theorem usedLoop_goes (ps : List Pr) (k : Nat) : ∀ u, usedLoop ps k u = goes Us.more (usedRound ps) k u := by
  induction k with
  | zero => intro u; rfl
  | succ k ih => intro u; simp only [usedLoop, goes]; split <;> simp [ih]
theorem gb_set {m : List Bool} {i : Int} {b : Bool} (hi : 0 ≤ i) (h : i.toNat < m.length) (s : Int) (hs : 0 ≤ s) : gb (m.set i.toNat b) s = if s = i then b else gb m s := by
  unfold gb
  rw [List.getD_eq_getElem?_getD, List.getD_eq_getElem?_getD, List.getElem?_set]
  by_cases e : s = i
  · subst e; simp [h]
  · have : ¬ i.toNat = s.toNat := by omega
    simp [this, e]
theorem gb_rep (a b : Nat) (x y : Bool) (s : Int) (hs : s.toNat < a + b) : gb (List.replicate a x ++ List.replicate b y) s = if s.toNat < a then x else y := by
  unfold gb
  rw [List.getD_eq_getElem?_getD]
  by_cases h : s.toNat < a
  · rw [List.getElem?_append_left (by simpa using h)]
    simp [h]
  · rw [List.getElem?_append_right (by simpa using h)]
    have : s.toNat - a < b := by omega
    simp [h, this]
structure UsI (T : Int) (n : Nat) (st : Int) (ps : List Pr) (u : Us) : Prop where
  lc : u.come.length = n
  lg : u.good.length = n
  sv : gb u.come st = true
  tm : ∀ s : Int, 0 ≤ s → s < T → gb u.good s = true
  c : ∀ s : Int, 0 ≤ s → s.toNat < n → gb u.come s = true → Cm st ps s
  g : ∀ s : Int, 0 ≤ s → s.toNat < n → gb u.good s = true → Gd T ps s
theorem comeIn_I {T : Int} {n : Nat} {st : Int} {ps : List Pr} {u : Us} {p : Pr} {y : Int} (hst : 0 ≤ st) (hp : p ∈ ps) (hin : PrIn n p) (hy : y ∈ p.body) (h : UsI T n st ps u) : UsI T n st ps (comeIn p.head u y) := by
  have hyn := hin.2.2 y hy
  unfold comeIn
  split
  · rename_i ht
    simp only [Bool.and_eq_true, Bool.not_eq_true'] at ht
    refine ⟨by simp [h.lc], h.lg, ?_, h.tm, fun s hs hsn hc => ?_, h.g⟩
    · dsimp only
      rw [gb_set hyn.1 (by rw [h.lc]; exact hyn.2) _ hst]
      split
      · rfl
      · exact h.sv
    · dsimp only at hc
      rw [gb_set hyn.1 (by rw [h.lc]; exact hyn.2) _ hs] at hc
      split at hc
      · rename_i e
        rw [e]
        exact .step hp (h.c p.head hin.1 hin.2.1 ht.1) hy
      · exact h.c s hs hsn hc
  · exact h
theorem goodIn_I {T : Int} {n : Nat} {st : Int} {ps : List Pr} {u : Us} {p : Pr} (hp : p ∈ ps) (hin : PrIn n p) (h : UsI T n st ps u) : UsI T n st ps (goodIn p u) := by
  unfold goodIn
  split
  · rename_i ht
    simp only [Bool.and_eq_true, Bool.not_eq_true'] at ht
    have hall : ∀ y ∈ p.body, gb u.good y = true := by
      intro y hy
      have h2 := List.any_eq_false.1 ht.2 y hy
      simpa using h2
    refine ⟨h.lc, by simp [h.lg], h.sv, fun s hs hsT => ?_, h.c, fun s hs hsn hc => ?_⟩
    · dsimp only
      rw [gb_set hin.1 (by rw [h.lg]; exact hin.2.1) _ hs]
      split
      · rfl
      · exact h.tm s hs hsT
    · dsimp only at hc
      rw [gb_set hin.1 (by rw [h.lg]; exact hin.2.1) _ hs] at hc
      split at hc
      · rename_i e
        rw [e]
        exact .head hp (fun y hy => h.g y (hin.2.2 y hy).1 (hin.2.2 y hy).2 (hall y hy))
      · exact h.g s hs hsn hc
  · exact h
theorem comeAll_I {T : Int} {n : Nat} {st : Int} {ps : List Pr} {p : Pr} (hst : 0 ≤ st) (hp : p ∈ ps) (hin : PrIn n p) (l : List Int) (hl : ∀ y ∈ l, y ∈ p.body) : ∀ u : Us, UsI T n st ps u → UsI T n st ps (l.foldl (comeIn p.head) u) := by
  induction l with
  | nil => intro u h; exact h
  | cons y l ih => intro u h; exact ih (fun q hq => hl q (by simp [hq])) _ (comeIn_I hst hp hin (hl y (by simp)) h)
theorem usedAll_I {T : Int} {n : Nat} {st : Int} {ps : List Pr} (hst : 0 ≤ st) (hin : ∀ p ∈ ps, PrIn n p) (l : List Pr) (hl : ∀ p ∈ l, p ∈ ps) : ∀ u : Us, UsI T n st ps u → UsI T n st ps (l.foldl usedStep u) := by
  induction l with
  | nil => intro u h; exact h
  | cons p l ih =>
    intro u h
    have hp := hl p (by simp)
    exact ih (fun q hq => hl q (by simp [hq])) _ (comeAll_I hst hp (hin p hp) p.body (fun _ h => h) _ (goodIn_I hp (hin p hp) h))
theorem comeAll_still {h : Int} (l : List Int) : ∀ u : Us, (l.foldl (comeIn h) u).more = false → l.foldl (comeIn h) u = u ∧ u.more = false ∧ ∀ y ∈ l, gb u.come h = true → gb u.come y = true := by
  induction l with
  | nil => intro u h; exact ⟨rfl, h, by simp⟩
  | cons y l ih =>
    intro u hm
    obtain ⟨h1, h2, h3⟩ := ih (comeIn h u y) hm
    have e : comeIn h u y = u := by
      unfold comeIn at h2 ⊢
      split at h2
      · cases h2
      · rename_i hc; rw [if_neg hc]
    have e2 : gb u.come h = true → gb u.come y = true := by
      intro hh
      unfold comeIn at h2
      split at h2
      · cases h2
      · rename_i hc
        simp only [Bool.and_eq_true, Bool.not_eq_true', not_and, Bool.not_eq_false] at hc
        exact hc hh
    rw [e] at h1 h2 h3
    refine ⟨by rw [List.foldl_cons, e, h1], h2, fun z hz => ?_⟩
    rcases List.mem_cons.1 hz with rfl | hz
    · exact e2
    · exact h3 z hz
theorem usedAll_still (l : List Pr) : ∀ u : Us, (l.foldl usedStep u).more = false → l.foldl usedStep u = u ∧ u.more = false ∧ ∀ p ∈ l, (gb u.come p.head = true → ∀ y ∈ p.body, gb u.come y = true) ∧ ((∀ y ∈ p.body, gb u.good y = true) → gb u.good p.head = true) := by
  induction l with
  | nil => intro u h; exact ⟨rfl, h, by simp⟩
  | cons p l ih =>
    intro u hm
    obtain ⟨h1, h2, h3⟩ := ih (usedStep u p) hm
    obtain ⟨k1, k2, k3⟩ := comeAll_still p.body (goodIn p u) h2
    have e : goodIn p u = u ∧ ((∀ y ∈ p.body, gb u.good y = true) → gb u.good p.head = true) := by
      unfold goodIn at k2
      unfold goodIn
      split at k2
      · cases k2
      · rename_i hc
        refine ⟨by rw [if_neg hc], fun hall => ?_⟩
        simp only [Bool.and_eq_true, Bool.not_eq_true', not_and] at hc
        apply Classical.byContradiction
        intro hng
        refine hc (by simpa using hng) ?_
        rw [List.any_eq_false]
        intro y hy
        rw [hall y hy]; simp
    have e1 : usedStep u p = u := by
      unfold usedStep
      rw [e.1] at k1 ⊢
      exact k1
    rw [e.1] at k3
    rw [e1] at h1 h2 h3
    refine ⟨by rw [List.foldl_cons, e1, h1], h2, fun q hq => ?_⟩
    rcases List.mem_cons.1 hq with rfl | hq
    · exact ⟨fun hh y hy => k3 y hy hh, e.2⟩
    · exact h3 q hq
theorem any_false_iff (l : List Bool) : l.any (fun x => false == x) = false ↔ ∀ i (h : i < l.length), l[i] = true := by
  rw [List.any_eq_false]
  constructor
  · intro h i hi
    have := h _ (List.getElem_mem hi)
    simpa using this
  · intro h x hx
    obtain ⟨i, hi, rfl⟩ := List.getElem_of_mem hx
    simp [h i hi]
theorem used_spec {g : Gr} (ok : GrOk g) : usedB g = true ↔ (∀ s, g.T ≤ s → s < g.S → Cm g.st g.ps s) ∧ (∀ s, 0 ≤ s → s < g.S → Gd g.T g.ps s) := by
  have h1 := ok.t0; have h2 := ok.s0; have h3 := ok.st0; have h4 := ok.st1
  have hpin : ∀ p ∈ g.ps, PrIn g.S.toNat p := by
    intro p hp
    have h1 := ok.pr p hp
    exact ⟨by omega, by omega, fun s hs => by have := h1.2.2 s hs; omega⟩
  have hst : 0 ≤ g.st := by omega
  have I0 : UsI g.T g.S.toNat g.st g.ps (used0 g) := by
    refine ⟨by simp [used0], by simp [used0]; omega, ?_, fun s hs hsT => ?_, fun s hs hsn hc => ?_, fun s hs hsn hc => ?_⟩
    · simp only [used0]
      rw [gb_set hst (by simp; omega) _ hst, if_pos rfl]
    · simp only [used0]
      rw [gb_rep _ _ _ _ _ (by omega), if_pos (by omega)]
    · simp only [used0] at hc
      rw [gb_set hst (by simp; omega) _ hs] at hc
      split at hc
      · rename_i e; rw [e]; exact .start
      · exfalso
        have : gb (List.replicate g.S.toNat false) s = false := by
          unfold gb; rw [List.getD_eq_getElem?_getD, List.getElem?_replicate]; split <;> rfl
        rw [this] at hc; cases hc
    · simp only [used0] at hc
      rw [gb_rep _ _ _ _ _ (by omega)] at hc
      split at hc
      · exact .term hs (by omega)
      · cases hc
  have hround : ∀ u, UsI g.T g.S.toNat g.st g.ps u → UsI g.T g.S.toNat g.st g.ps (usedRound g.ps u) :=
    fun u hu => usedAll_I hst hpin g.ps (fun _ h => h) _ ⟨hu.lc, hu.lg, hu.sv, hu.tm, hu.c, hu.g⟩
  have hle : falses (used0 g) < 2 * g.S.toNat + 1 := by
    have a1 := List.count_le_length (l := (used0 g).come) (a := false)
    have a2 := List.count_le_length (l := (used0 g).good) (a := false)
    rw [I0.lc] at a1
    rw [I0.lg] at a2
    unfold falses
    omega
  obtain ⟨v, hv, e, hm⟩ := goes_end Us.more (usedRound g.ps) falses (UsI g.T g.S.toNat g.st g.ps) hround
    (fun u hu hm => (usedRound_le (n := g.S.toNat) hu.lc hu.lg hpin).2.2 hm) (2 * g.S.toNat + 1) (used0 g) I0 hle rfl
  have hend : usedEnd g = usedRound g.ps v := by unfold usedEnd; rw [usedLoop_goes, e]
  obtain ⟨k1, _, k3⟩ := usedAll_still g.ps { v with more := false } hm
  have hfin := hround v hv
  have ec : (usedEnd g).come = v.come := by rw [hend]; show (g.ps.foldl usedStep { v with more := false }).come = _; rw [k1]
  have eg : (usedEnd g).good = v.good := by rw [hend]; show (g.ps.foldl usedStep { v with more := false }).good = _; rw [k1]
  have hC : ∀ s, 0 ≤ s → s < g.S → (gb v.come s = true ↔ Cm g.st g.ps s) := by
    intro s hs hsS
    refine ⟨fun h => hv.c s hs (by omega) h, fun h => ?_⟩
    clear hs hsS
    induction h with
    | start => exact hv.sv
    | step hp _ hy ih => exact (k3 _ hp).1 ih _ hy
  have hG : ∀ s, 0 ≤ s → s < g.S → (gb v.good s = true ↔ Gd g.T g.ps s) := by
    intro s hs hsS
    refine ⟨fun h => hv.g s hs (by omega) h, fun h => ?_⟩
    clear hs hsS
    induction h with
    | term h0 h => exact hv.tm _ h0 h
    | head hp _ ih => exact (k3 _ hp).2 ih
  have getb : ∀ (l : List Bool) (i : Nat) (h : i < l.length), gb l (i : Int) = l[i] := by
    intro l i h; unfold gb; simp [h]
  unfold usedB
  rw [Bool.and_eq_true, Bool.not_eq_true', Bool.not_eq_true', any_false_iff, any_false_iff, ec, eg]
  constructor
  · rintro ⟨a1, a2⟩
    refine ⟨fun s hsT hsS => ?_, fun s hs hsS => ?_⟩
    · refine (hC s (by omega) hsS).1 ?_
      have := a1 (s.toNat - g.T.toNat) (by rw [List.length_drop, hv.lc]; omega)
      rw [List.getElem_drop] at this
      have e : (s : Int) = ((g.T.toNat + (s.toNat - g.T.toNat) : Nat) : Int) := by omega
      rw [e, getb _ _ (by rw [hv.lc]; omega)]
      exact this
    · refine (hG s hs hsS).1 ?_
      have := a2 s.toNat (by rw [hv.lg]; omega)
      have e : (s : Int) = ((s.toNat : Nat) : Int) := by omega
      rw [e, getb _ _ (by rw [hv.lg]; omega)]
      exact this
  · rintro ⟨a1, a2⟩
    refine ⟨fun i hi => ?_, fun i hi => ?_⟩
    · rw [List.length_drop, hv.lc] at hi
      rw [List.getElem_drop, ← getb _ _ (by rw [hv.lc]; omega)]
      exact (hC _ (by omega) (by omega)).2 (a1 _ (by omega) (by omega))
    · rw [hv.lg] at hi
      rw [← getb _ _ (by rw [hv.lg]; omega)]
      exact (hG _ (by omega) (by omega)).2 (a2 _ (by omega) (by omega))
def Cyc (ps : List Pr) (X : Int → Prop) : Prop := ∀ s, X s → ∃ p ∈ ps, p.head = s ∧ p.body.length = 1 ∧ X (p.body.getD 0 0)
theorem roundLoop_goes (ps : List Pr) (T n k : Nat) : ∀ u, roundLoop ps T n k u = goes Ro.more (roundRound ps T n) k u := by
  induction k with
  | zero => intro u; rfl
  | succ k ih => intro u; simp only [roundLoop, goes]; split <;> simp [ih]
structure RoI (g : Gr) (u : Ro) : Prop where
  l : u.left.length = g.S.toNat
  t : ∀ s : Int, 0 ≤ s → gb u.left s = true → g.T ≤ s
  x : ∀ X : Int → Prop, (∀ s, X s → g.T ≤ s ∧ s < g.S) → Cyc g.ps X → ∀ s, X s → gb u.left s = true
theorem roundIn_I {g : Gr} {u : Ro} {s : Nat} (hT : 0 ≤ g.T) (hs : s < g.S.toNat) (h : RoI g u) : RoI g (roundIn g.ps u s) := by
  unfold roundIn
  split
  · rename_i hc
    simp only [Bool.and_eq_true, Bool.not_eq_true'] at hc
    refine ⟨by simp [h.l], fun y hy hg => ?_, fun X hX hC y hy => ?_⟩
    · dsimp only at hg
      have := gb_set (m := u.left) (i := (s : Int)) (b := false) (by omega) (by rw [h.l]; simpa using hs) y hy
      simp only [Int.toNat_natCast] at this
      rw [this] at hg
      split at hg
      · cases hg
      · exact h.t y hy hg
    · dsimp only
      have h0 : 0 ≤ y := by have := (hX y hy).1; omega
      have := gb_set (m := u.left) (i := (s : Int)) (b := false) (by omega) (by rw [h.l]; simpa using hs) y h0
      simp only [Int.toNat_natCast] at this
      rw [this]
      by_cases e : y = s
      · exfalso
        subst e
        obtain ⟨p, hp, e1, e2, e3⟩ := hC _ hy
        have h1 := h.x X hX hC _ e3
        have h2 := List.any_eq_false.1 hc.2 p hp
        simp only [leads, e1, e2, h1] at h2
        simp at h2
      · rw [if_neg e]
        exact h.x X hX hC y hy
  · exact h
theorem roundAll_I {g : Gr} (hT : 0 ≤ g.T) (l : List Nat) (hl : ∀ s ∈ l, s < g.S.toNat) : ∀ u, RoI g u → RoI g (l.foldl (roundIn g.ps) u) := by
  induction l with
  | nil => intro u h; exact h
  | cons s l ih => intro u h; exact ih (fun y hy => hl y (List.mem_cons_of_mem _ hy)) _ (roundIn_I hT (hl s List.mem_cons_self) h)
theorem roundAll_still {ps : List Pr} (l : List Nat) : ∀ u : Ro, (l.foldl (roundIn ps) u).more = false → l.foldl (roundIn ps) u = u ∧ u.more = false ∧ ∀ s ∈ l, gb u.left s = true → ps.any (leads u.left s) = true := by
  induction l with
  | nil => intro u h; exact ⟨rfl, h, by simp⟩
  | cons s l ih =>
    intro u h
    rw [List.foldl_cons] at h ⊢
    obtain ⟨h1, h2, h3⟩ := ih _ h
    have hn : ¬ ((gb u.left s && !(ps.any (leads u.left s))) = true) := by
      intro hc
      unfold roundIn at h2
      rw [if_pos hc] at h2
      cases h2
    have he : roundIn ps u s = u := by unfold roundIn; rw [if_neg hn]
    rw [he] at h1 h2 h3 ⊢
    refine ⟨h1, h2, fun y hy hg => ?_⟩
    rcases List.mem_cons.1 hy with rfl | hy
    · simp only [Bool.and_eq_true, Bool.not_eq_true', not_and, Bool.not_eq_false] at hn
      exact hn hg
    · exact h3 y hy hg
theorem round_spec {g : Gr} (ok : GrOk g) : roundB g = true ↔ ∃ X : Int → Prop, (∃ s, X s) ∧ (∀ s, X s → g.T ≤ s ∧ s < g.S) ∧ Cyc g.ps X := by
  have hT0 := ok.t0
  have hS := ok.s0
  have I0 : RoI g (round0 g.T.toNat g.S.toNat) := by
    refine ⟨by simp [round0]; omega, fun s hs hg => ?_, fun X hX hC s hs => ?_⟩
    · unfold round0 at hg
      dsimp only at hg
      by_cases hlt : s.toNat < g.T.toNat + (g.S.toNat - g.T.toNat)
      · rw [gb_rep _ _ _ _ _ hlt] at hg
        split at hg
        · cases hg
        · omega
      · omega
    · unfold round0
      dsimp only
      have := hX s hs
      rw [gb_rep _ _ _ _ _ (by omega), if_neg (by omega)]
  have hround : ∀ u, RoI g u → RoI g (roundRound g.ps g.T.toNat g.S.toNat u) :=
    fun u hu => roundAll_I (by omega) _ (fun s hs => by have := List.mem_range'_1.1 hs; omega) _ ⟨hu.l, hu.t, hu.x⟩
  obtain ⟨v, hv, e, hm⟩ := goes_end Ro.more (roundRound g.ps g.T.toNat g.S.toNat) (fun u => u.left.count true) (RoI g) hround
    (fun u hu hm => (roundRound_le (n := g.S.toNat) hu.l).2 hm) (g.S.toNat + 1) (round0 g.T.toNat g.S.toNat) I0
    (by have := List.count_le_length (a := true) (l := (round0 g.T.toNat g.S.toNat).left); have h1 := I0.l; omega) rfl
  have hend : roundEnd g = roundRound g.ps g.T.toNat g.S.toNat v := by unfold roundEnd; rw [roundLoop_goes, e]
  obtain ⟨h1, _, h3⟩ := roundAll_still _ ⟨v.left, false⟩ hm
  have hsame : (roundEnd g).left = v.left := by rw [hend]; unfold roundRound; rw [h1]
  unfold roundB
  rw [hsame]
  constructor
  · intro ha
    obtain ⟨b, hb, hb2⟩ := List.any_eq_true.1 ha
    have hb3 : b = true := by simpa using hb2
    subst hb3
    obtain ⟨i, hi, hib⟩ := List.getElem_of_mem hb
    refine ⟨fun s => 0 ≤ s ∧ gb v.left s = true, ⟨(i : Int), by omega, by unfold gb; rw [List.getD_eq_getElem?_getD]; simp [hi, hib]⟩, fun s hs => ⟨hv.t s hs.1 hs.2, ?_⟩, fun s hs => ?_⟩
    · apply Classical.byContradiction
      intro hlt
      have := hs.2
      unfold gb at this
      rw [List.getD_eq_getElem?_getD, List.getElem?_eq_none (by rw [hv.l]; omega)] at this
      cases this
    · have hsT := hv.t s hs.1 hs.2
      have hsS : s.toNat < g.S.toNat := by
        apply Classical.byContradiction
        intro hlt
        have := hs.2
        unfold gb at this
        rw [List.getD_eq_getElem?_getD, List.getElem?_eq_none (by rw [hv.l]; omega)] at this
        cases this
      have hss : ((s.toNat : Nat) : Int) = s := Int.toNat_of_nonneg hs.1
      have := h3 s.toNat (List.mem_range'_1.2 ⟨by omega, by omega⟩) (by rw [hss]; exact hs.2)
      rw [hss] at this
      obtain ⟨p, hp, hl⟩ := List.any_eq_true.1 this
      simp only [leads, Bool.and_eq_true, decide_eq_true_eq] at hl
      refine ⟨p, hp, hl.1.1, hl.1.2, ?_, hl.2⟩
      have hb0 : p.body.getD 0 0 ∈ p.body := by
        rw [List.getD_eq_getElem?_getD, List.getElem?_eq_getElem (by omega)]
        exact List.getElem_mem _
      exact ((ok.pr p hp).2.2 _ hb0).1
  · rintro ⟨X, ⟨s, hs⟩, hX, hC⟩
    have hg := hv.x X hX hC s hs
    have := hX s hs
    have hlt : s.toNat < v.left.length := by rw [hv.l]; omega
    refine List.any_eq_true.2 ⟨v.left[s.toNat], List.getElem_mem hlt, ?_⟩
    unfold gb at hg
    rw [List.getD_eq_getElem?_getD, List.getElem?_eq_getElem hlt] at hg
    simpa using hg
end Go.Proofs.Ytofidghilcbegaa.H
namespace Go.Proofs.Ytofidghilcbegaa.H
open Go.RowKit
set_option linter.unusedVariables false
set_option linter.unusedSimpArgs false
def firstR (g : Gr) (s : Int) : List Int × Int := if checkI g = 0 then (if 0 ≤ s ∧ s < g.S then (tlist (gn (firstEnd g) s), 0) else ([], 2)) else ([], checkI g)
def ListErr (w : World) (r : List Int × Int) (e : Ending) (w' : World) : Prop :=
  ∃ v, e = .returned (.tuple #[v, .int .i64 r.2]) ∧ OwnI w' w.heap.size v r.1 ∧ Below w.heap.size w w'
set_option maxRecDepth 100000 in
set_option maxHeartbeats 2000000 in
theorem first_any (g : Gr) (s : Int) (A : Option Addr) (c : Nat) (w : World) (h : GrIn w g A c) :
    Calls Try.prog 18 #[grV g A c, .int .i64 s] w (ListErr w (firstR g s)) := by
  have H0 := Keep.mk h
  clear h
  have K1 := Keep.mk fun W (hW : Below w.heap.size w W) => check_any g A c W (H0.out.below hW)
  have K2 : Keep (checkI g = 0 → ∀ W, Below w.heap.size w W → Calls Try.prog 42 #[grV g A c] W _) := ⟨fun hz W hW => firsts_any g A c W (H0.out.below hW).r (GrIn.ok hz)
    (fun p hp => ⟨((checkI_zero hz).2.1 p hp).1, H0.out.b p hp⟩)⟩
  have HS : Keep (checkI g = 0 → GrOk g) := ⟨GrIn.ok⟩
  have HR : Keep (firstR g s = if checkI g = 0 then (if 0 ≤ s ∧ s < g.S then (tlist (gn (firstEnd g) s), 0) else ([], 2)) else ([], checkI g)) := ⟨rfl⟩
  generalize checkI g = E at *
  generalize firstR g s = R at *
  generalize firstEnd g = F at *
  obtain ⟨T, S, st, ps⟩ := g
  unfold grV at *
  dsimp only at *
  have B0 : Keep (Below w.heap.size w (w.alloc (.cells #[.int .i64 T, .int .i64 S, .int .i64 st, .slice A ps.length c] 24))) := ⟨(Below.refl _ _).alloc (Nat.le_refl _) _⟩
  have BG : Keep (Blk (w.alloc (.cells #[.int .i64 T, .int .i64 S, .int .i64 st, .slice A ps.length c] 24)) w.heap.size 24 #[.int .i64 T, .int .i64 S, .int .i64 st, .slice A ps.length c]) := ⟨Blk.new _ _ _⟩
  go_enter Try.func18, Try.ntmps18
  go_wp2_with fail
  refine (K1.out _ B0.out).mono ?_
  rintro e w1 ⟨rfl, hb⟩
  have B1 : Keep (Below w.heap.size w w1) := ⟨below_step B0.out hb B0.out.size⟩
  have BG1 := Keep.mk (BG.out.below hb BG.out.lt)
  clear BG B0 hb
  by_cases hE : E = 0
  · subst hE
    have q0 := BG1.out.cell 0
    have q1 := BG1.out.cell 1
    have q2 := BG1.out.cell 2
    have q3 := BG1.out.cell 3
    simp at q0 q1 q2 q3
    by_cases hs : 0 ≤ s ∧ s < S
    · obtain ⟨hs0, hs1⟩ := hs
      have HR2 : Keep (R = (tlist (gn F s), 0)) := ⟨by rw [HR.out, if_pos rfl, if_pos ⟨hs0, hs1⟩]⟩
      have ok := HS.out rfl
      obtain ⟨n, rfl⟩ := Int.eq_ofNat_of_zero_le (show 0 ≤ S by have := ok.t0; have := ok.s0; dsimp only at *; omega)
      obtain ⟨y, rfl⟩ := Int.eq_ofNat_of_zero_le hs0
      clear ok HS HR
      go_wp2_with fail
      refine (K2.out (by first | rfl | trivial) _ B1.out).mono ?_
      rintro e w2 ⟨gF, rfl, hF, hl, hlt, hg, hb⟩
      have cF := hF.cell y
      have B2 : Keep (Below w.heap.size w w2) := ⟨below_step B1.out hb B1.out.size⟩
      simp only [Int.toNat_natCast] at hl
      rw [u64s_gn _ y (by omega)] at cF
      have KL := Keep.mk (list_any (gn F y) w2 (gn_lt hlt _))
      clear hF hlt hg hb hl q0 q1 q2 q3
      simp only [Int.toNat_natCast]
      generalize gn F y = v at *
      go_wp2_with fail
      refine KL.out.mono ?_
      rintro e w3 ⟨v3, rfl, ho, hb⟩
      have B3 : Keep (Below w.heap.size w w3) := ⟨below_step B2.out hb B2.out.size⟩
      have HO := Keep.mk (ho.mono B2.out.size)
      clear ho hb
      go_wp2
      go_ret2
      rw [HR2.out]
      exact ⟨v3, rfl, HO.out, B3.out⟩
    · have HR2 : Keep (R = ([], 2)) := ⟨by rw [HR.out, if_pos rfl, if_neg hs]⟩
      clear HR
      go_wp2
      all_goals
        go_ret2
        rw [HR2.out]
        exact ⟨_, rfl, OwnI.nil _ _, B1.out⟩
  · have t : ((E : Int) != 0) = true := by simp [hE]
    have HR2 : Keep (R = ([], E)) := ⟨by rw [HR.out, if_neg hE]⟩
    clear HR hE
    go_wp2
    go_ret2
    rw [HR2.out]
    exact ⟨_, rfl, OwnI.nil _ _, B1.out⟩
end Go.Proofs.Ytofidghilcbegaa.H
namespace Go.Proofs.Ytofidghilcbegaa.H
open Go.RowKit
set_option linter.unusedVariables false
set_option linter.unusedSimpArgs false
def followX (F : List Nat) (p : Pr) (m : List Nat) (k : Nat) : Nat := if k + 1 < p.body.length then gn F (p.body.getD (k + 1) 0) else gn m p.head
def followIn (F : List Nat) (p : Pr) (u : Fi) (k : Nat) : Fi :=
  if followX F p u.m k ||| gn u.m (p.body.getD k 0) = gn u.m (p.body.getD k 0) then u else ⟨u.m.set (p.body.getD k 0).toNat (gn u.m (p.body.getD k 0) ||| followX F p u.m k), true⟩
def followBody (F : List Nat) (u : Fi) (p : Pr) : Fi := (List.range p.body.length).foldl (followIn F p) u
def followRound (F : List Nat) (ps : List Pr) (u : Fi) : Fi := ps.foldl (followBody F) ⟨u.m, false⟩
def followLoop (F : List Nat) (ps : List Pr) : Nat → Fi → Fi
  | 0, u => u
  | k + 1, u => if u.more then followLoop F ps k (followRound F ps u) else u
def follow0 (g : Gr) : List Nat := (List.replicate g.S.toNat 0).set g.st.toNat (2 ^ g.T.toNat)
def followEnd (g : Gr) : List Nat := (followLoop (firstEnd g) g.ps (64 * g.S.toNat + 1) ⟨follow0 g, true⟩).m
def followR (g : Gr) (s : Int) : List Int × Int := if checkI g = 0 then (if 0 ≤ s ∧ s < g.S then (tlist (gn (followEnd g) s), 0) else ([], 2)) else ([], checkI g)
theorem followX_lt {F m : List Nat} {p : Pr} {k : Nat} (hF : ∀ x ∈ F, x < 2 ^ 64) (hm : ∀ x ∈ m, x < 2 ^ 64) : followX F p m k < 2 ^ 64 := by
  unfold followX
  split
  · exact gn_lt hF _
  · exact gn_lt hm _
theorem followIn_le {n : Nat} {F : List Nat} {p : Pr} {u : Fi} {k : Nat} (hF : ∀ x ∈ F, x < 2 ^ 64) (hc : u.m.length = n) (hb : ∀ x ∈ u.m, x < 2 ^ 64) (hp : (p.body.getD k 0).toNat < n) : FiLe n u (followIn F p u k) := by
  unfold followIn
  split
  · exact ⟨hc, hb, Nat.le_refl _, fun h => .inl h⟩
  · rename_i ht
    have hx := followX_lt (p := p) (k := k) hF hb
    have h1 := lack_or (gn u.m (p.body.getD k 0)) (followX F p u.m k) hx (by rw [Nat.or_comm]; exact ht)
    have h2 := lack_set u.m (p.body.getD k 0).toNat (gn u.m (p.body.getD k 0) ||| followX F p u.m k) (by omega) h1
    exact ⟨by simp [hc], set_lt hb _ _ (Nat.or_lt_two_pow (gn_lt hb _) hx), Nat.le_of_lt h2, fun _ => .inr h2⟩
theorem followBody_le {n : Nat} {F : List Nat} {p : Pr} (hF : ∀ x ∈ F, x < 2 ^ 64) (l : List Nat) : ∀ {u : Fi}, u.m.length = n → (∀ x ∈ u.m, x < 2 ^ 64) → (∀ k ∈ l, (p.body.getD k 0).toNat < n) → FiLe n u (l.foldl (followIn F p) u) := by
  induction l with
  | nil => intro u hc hb _; exact ⟨hc, hb, Nat.le_refl _, fun h => .inl h⟩
  | cons k l ih =>
    intro u hc hb hs
    have h1 := followIn_le hF hc hb (hs k (by simp))
    exact h1.trans (ih h1.c h1.b (fun s hs' => hs s (by simp [hs'])))
theorem getD_in {n : Nat} {p : Pr} (hp : PrIn n p) : ∀ k ∈ List.range p.body.length, (p.body.getD k 0).toNat < n := by
  intro k hk
  have hk' := List.mem_range.1 hk
  rw [List.getD_eq_getElem?_getD, List.getElem?_eq_getElem hk']
  exact (hp.2.2 _ (List.getElem_mem hk')).2
theorem followAll_le {n : Nat} {F : List Nat} (hF : ∀ x ∈ F, x < 2 ^ 64) (l : List Pr) : ∀ {u : Fi}, u.m.length = n → (∀ x ∈ u.m, x < 2 ^ 64) → (∀ p ∈ l, PrIn n p) → FiLe n u (l.foldl (followBody F) u) := by
  induction l with
  | nil => intro u hc hb _; exact ⟨hc, hb, Nat.le_refl _, fun h => .inl h⟩
  | cons p l ih =>
    intro u hc hb hs
    have h1 : FiLe n u (followBody F u p) := followBody_le hF (List.range p.body.length) hc hb (getD_in (hs p (by simp)))
    exact h1.trans (ih h1.c h1.b (fun s hs' => hs s (by simp [hs'])))
theorem followRound_le {n : Nat} {F : List Nat} {ps : List Pr} {u : Fi} (hF : ∀ x ∈ F, x < 2 ^ 64) (hc : u.m.length = n) (hb : ∀ x ∈ u.m, x < 2 ^ 64) (hp : ∀ p ∈ ps, PrIn n p) :
    (followRound F ps u).m.length = n ∧ (∀ x ∈ (followRound F ps u).m, x < 2 ^ 64) ∧ ((followRound F ps u).more = true → lack (followRound F ps u).m < lack u.m) := by
  have h := followAll_le (n := n) hF ps (u := ⟨u.m, false⟩) hc hb hp
  refine ⟨h.c, h.b, fun hm => ?_⟩
  rcases h.new hm with h1 | h1
  · cases h1
  · exact h1
theorem followLoop_done (F : List Nat) (ps : List Pr) (k : Nat) (u : Fi) (h : u.more = false) : followLoop F ps k u = u := by
  cases k with
  | zero => rfl
  | succ k => simp [followLoop, h]
theorem followLoop_go (F : List Nat) (ps : List Pr) (k : Nat) (u : Fi) (h : u.more = true) : followLoop F ps (k + 1) u = followLoop F ps k (followRound F ps u) := by simp [followLoop, h]
structure LW (w wr : World) (gv : Array Value) (gF gO n : Nat) (F m : List Nat) : Prop where
  bw : Below w.heap.size w wr
  bg : Blk wr w.heap.size 24 gv
  bf : Blk wr gF 48 (u64s F)
  bo : Blk wr gO 48 (u64s m)
  gf : w.heap.size < gF
  go : w.heap.size < gO
  ne : gO ≠ gF
  lF : F.length = n
  lf : m.length = n
section
variable {w wr w' : World} {gv : Array Value} {gF gO n : Nat} {F m : List Nat}
theorem LW.below (h : LW w wr gv gF gO n F m) (hb : Below wr.heap.size wr w') : LW w w' gv gF gO n F m :=
  ⟨below_step h.bw hb h.bw.size, h.bg.below hb h.bg.lt, h.bf.below hb h.bf.lt, h.bo.below hb h.bo.lt, h.gf, h.go, h.ne, h.lF, h.lf⟩
theorem LW.alloc (h : LW w wr gv gF gO n F m) (o : Obj) : LW w (wr.alloc o) gv gF gO n F m := h.below ((Below.refl _ _).alloc (Nat.le_refl _) o)
theorem LW.drewN (h : LW w wr gv gF gO n F m) (k : Nat) : LW w (wr.drewN k) gv gF gO n F m := h.below (below_drewN (Below.refl _ _) k)
theorem LW.setF (h : LW w wr gv gF gO n F m) (i b : Nat) : LW w (wr.setCell ⟨gO, i, none⟩ (.int .u64 (b : Int))) gv gF gO n F (m.set i b) := by
  refine ⟨h.bw.setCell (by show w.heap.size ≤ gO; have := h.go; omega) _, h.bg.far (by show _ ≠ gO; have := h.go; omega) _, h.bf.far (fun e => h.ne e.symm) _, ?_, h.gf, h.go, h.ne, h.lF, by simp [h.lf]⟩
  have := h.bo.set_ i (.int .u64 (b : Int))
  rwa [u64s_set] at this
end
end Go.Proofs.Ytofidghilcbegaa.H
namespace Go.Proofs.Ytofidghilcbegaa.H
open Go.RowKit
set_option linter.unusedVariables false
set_option linter.unusedSimpArgs false
set_option maxRecDepth 100000 in
set_option maxHeartbeats 6000000 in
theorem follow_any (g : Gr) (s : Int) (A : Option Addr) (c : Nat) (w : World) (h : GrIn w g A c) :
    Calls Try.prog 22 #[grV g A c, .int .i64 s] w (ListErr w (followR g s)) := by
  have H0 := Keep.mk h
  clear h
  have K1 := Keep.mk fun W (hW : Below w.heap.size w W) => check_any g A c W (H0.out.below hW)
  have K2 : Keep (checkI g = 0 → ∀ W, Below w.heap.size w W → Calls Try.prog 42 #[grV g A c] W _) := ⟨fun hz W hW => firsts_any g A c W (H0.out.below hW).r (GrIn.ok hz)
    (fun p hp => ⟨((checkI_zero hz).2.1 p hp).1, H0.out.b p hp⟩)⟩
  have HS : Keep (checkI g = 0 → GrOk g) := ⟨GrIn.ok⟩
  have HP : Keep (checkI g = 0 → ∀ p ∈ g.ps, 0 < p.body.length ∧ p.body.length ≤ 8) := ⟨fun h => (checkI_zero h).2.1⟩
  have HR : Keep (followR g s = if checkI g = 0 then (if 0 ≤ s ∧ s < g.S then (tlist (gn (followLoop (firstEnd g) g.ps (64 * g.S.toNat + 1) ⟨(List.replicate g.S.toNat 0).set g.st.toNat (2 ^ g.T.toNat), true⟩).m s), 0) else ([], 2)) else ([], checkI g)) := ⟨rfl⟩
  generalize checkI g = E at *
  generalize followR g s = R at *
  generalize firstEnd g = F at *
  obtain ⟨T, S, st, ps⟩ := g
  unfold grV at *
  dsimp only at *
  have B0 : Keep (Below w.heap.size w (w.alloc (.cells #[.int .i64 T, .int .i64 S, .int .i64 st, .slice A ps.length c] 24))) := ⟨(Below.refl _ _).alloc (Nat.le_refl _) _⟩
  have BG : Keep (Blk (w.alloc (.cells #[.int .i64 T, .int .i64 S, .int .i64 st, .slice A ps.length c] 24)) w.heap.size 24 #[.int .i64 T, .int .i64 S, .int .i64 st, .slice A ps.length c]) := ⟨Blk.new _ _ _⟩
  go_enter Try.func22, Try.ntmps22
  go_wp2_with fail
  refine (K1.out _ B0.out).mono ?_
  rintro e w1 ⟨rfl, hb⟩
  have B1 : Keep (Below w.heap.size w w1) := ⟨below_step B0.out hb B0.out.size⟩
  have BG1 := Keep.mk (BG.out.below hb BG.out.lt)
  clear BG B0 hb
  by_cases hE : E = 0
  · subst hE
    have q0 := BG1.out.cell 0
    have q1 := BG1.out.cell 1
    have q2 := BG1.out.cell 2
    have q3 := BG1.out.cell 3
    simp at q0 q1 q2 q3
    by_cases hs : 0 ≤ s ∧ s < S
    · obtain ⟨hs0, hs1⟩ := hs
      have HR2 : Keep (R = (tlist (gn (followLoop F ps (64 * S.toNat + 1) ⟨(List.replicate S.toNat 0).set st.toNat (2 ^ T.toNat), true⟩).m s), 0)) := ⟨by rw [HR.out, if_pos rfl, if_pos ⟨hs0, hs1⟩]⟩
      have ok := HS.out rfl
      have hpp := HP.out rfl
      have KF := Keep.mk (K2.out rfl)
      obtain ⟨t0, t1, s0, s1, st0, st1, n0, n1, pr⟩ := ok
      dsimp only at *
      obtain ⟨t, rfl⟩ := Int.eq_ofNat_of_zero_le (show 0 ≤ T by omega)
      obtain ⟨n, rfl⟩ := Int.eq_ofNat_of_zero_le (show 0 ≤ S by omega)
      obtain ⟨a, rfl⟩ := Int.eq_ofNat_of_zero_le (show 0 ≤ st by omega)
      obtain ⟨y, rfl⟩ := Int.eq_ofNat_of_zero_le hs0
      have P0 : Keep (∀ p ∈ ps, PrIn n p) := ⟨fun p hp => ⟨by have := pr p hp; omega, by have := pr p hp; omega, fun s hs => by have := (pr p hp).2.2 s hs; omega⟩⟩
      have L0 : Keep (∀ p ∈ ps, p.body.length ≤ 8) := ⟨fun p hp => (hpp p hp).2⟩
      simp only [Int.toNat_natCast] at HR2
      clear HS HR HP K2 pr hpp n0 hs0
      have hmk := @run_make_row' Try.prog 49 48 (.int .u64 0) 8 Try.underlying49 info_u64 rfl .i64 .i64 n (by omega) (by omega)
      simp only [madeCells_u64s] at hmk
      go_upto_region 6 with fail
      go_cut [7, 8] (fun s7 s8 wx => ∃ gF gO : Nat, s7 = .slice (some ⟨gF, 0, none⟩) n n ∧ s8 = .slice (some ⟨gO, 0, none⟩) n n ∧ Keep (∀ x ∈ F, x < 2 ^ 64) ∧
        Keep (LW w wx #[.int .i64 t, .int .i64 n, .int .i64 a, .slice A ps.length c] gF gO n F (List.replicate n 0)))
      case first =>
        have hsz := BG1.out.lt
        go_region_with (go_at_call 42; refine (KF.out _ (by first | exact below_drew1 B1.out | exact (below_drew1 B1.out).alloc (by simp; exact B1.out.size) _ | exact B1.out | exact B1.out.alloc B1.out.size _)).mono ?_; rintro e w2 ⟨gF, rfl, hF, hl, hlt, hg, hb⟩; have BG2 : Blk w2 w.heap.size 24 #[.int .i64 t, .int .i64 n, .int .i64 a, .slice A ps.length c] := (by first | exact BG1.out.drew.below hb BG1.out.lt | exact (BG1.out.drew.alloc _).below hb (by simp; have := BG1.out.lt; omega)); have q1' := BG2.cell 1; simp at q1'; have hsz2 := BG2.lt; have BG3 := Keep.mk BG2; have HF := Keep.mk hF; clear BG2 hF)
        all_goals go_wp2_with fail
        all_goals go_meet
        all_goals first
          | exact ⟨gF, w2.heap.size, rfl, rfl, ⟨hlt⟩, ⟨(below_step (below_drew1 B1.out) hb B1.out.size).alloc (Nat.le_of_lt hsz2) _, BG3.out.alloc _, HF.out.alloc _, Blk.new _ _ _, Nat.lt_of_lt_of_le hsz hg, hsz2, Nat.ne_of_gt HF.out.lt, by simpa using hl, by simp⟩⟩
          | exact ⟨gF, w1.heap.size, rfl, rfl, ⟨hlt⟩, ⟨below_step ((below_drew1 B1.out).alloc B1.out.size (.cells (u64s (List.replicate n 0)) 48)) hb (by simp; have := B1.out.size; omega), BG3.out, HF.out,
              (Blk.newAt rfl : Blk (w1.drew.alloc (.cells (u64s (List.replicate n 0)) 48)) w1.heap.size 48 _).below hb (by simp), by simp at hg; omega, hsz, by simp at hg; omega, by simpa using hl, by simp⟩⟩
      case rest =>
        obtain ⟨gF, gO, rfl, rfl, HF, U⟩ := hcut
        clear q0 q1 q2 q3 BG1 B1 K1 KF
        clear w1
        have q0 := U.out.bg.cell 0
        have q2 := U.out.bg.cell 2
        simp at q0 q2
        have ca := U.out.bo.cell a
        rw [u64s_gn _ a (by simp; omega)] at ca
        have cf := U.out.bo.frozen a
        have i1 : (a : Int) < n := by omega
        go_upto_region 7 with fail
        go_cut [] (fun wx => Keep (LW w wx #[.int .i64 t, .int .i64 n, .int .i64 a, .slice A ps.length c] gF gO n F ((List.replicate n 0).set a (2 ^ t))))
        case first =>
          go_region
          all_goals (go_wp2_with fail; go_meet)
          all_goals (refine ⟨?_⟩; rw [wrap_pow t (by omega)]; exact (U.out.drewN 1).setF a (2 ^ t))
        case rest =>
          have U := hcut
          clear hcut q0 q2 ca cf
          have H0b : Keep (∀ x ∈ (List.replicate n 0).set a (2 ^ t), x < 2 ^ 64) := ⟨set_lt (fun x hx => by have := (List.mem_replicate.1 hx).2; omega) a (2 ^ t) (Nat.pow_lt_pow_right (by decide) (by omega))⟩
          have HF0 : Keep (lack ((List.replicate n 0).set a (2 ^ t)) < 64 * n + 1) := ⟨by
            have := lack_le ((List.replicate n 0).set a (2 ^ t))
            simp only [List.length_set, List.length_replicate] at this
            omega⟩
          clear i1
          go_wp2
          go_loopg [9] (64 * n + 1) (fun gg s9 wr => ∃ u : Fi, s9 = .bool u.more ∧ Keep (u.more = true → lack u.m < gg) ∧ Keep (∀ x ∈ u.m, x < 2 ^ 64) ∧
            Keep (LW w wr #[.int .i64 t, .int .i64 n, .int .i64 a, .slice A ps.length c] gF gO n F u.m) ∧ Keep (followLoop F ps gg u = followLoop F ps (64 * n + 1) ⟨(List.replicate n 0).set a (2 ^ t), true⟩))
          case atStart => exact ⟨⟨(List.replicate n 0).set a (2 ^ t), true⟩, rfl, ⟨fun _ => HF0.out⟩, H0b, U, ⟨rfl⟩⟩
          case round =>
            clear U HF0 H0b
            obtain ⟨⟨m, more⟩, rfl, HM, HB, U, HL⟩ := hrel
            dsimp only at *
            cases more with
            | false =>
              replace HL := HL.out
              rw [followLoop_done _ _ _ _ rfl] at HL
              have HE : Keep (R = (tlist (gn m y), 0)) := ⟨by rw [HR2.out, ← HL]⟩
              clear HL HR2
              have cy := U.out.bo.cell y
              rw [u64s_gn _ y (by rw [U.out.lf]; omega)] at cy
              have KL := Keep.mk (list_any (gn m y) wr (gn_lt HB.out _))
              generalize gn m y = v at *
              have i1 : (y : Int) < n := by omega
              go_wp2_with fail
              refine KL.out.mono ?_
              rintro e w3 ⟨v3, rfl, ho, hb⟩
              have B3 : Keep (Below w.heap.size w w3) := ⟨below_step U.out.bw hb U.out.bw.size⟩
              have HO := Keep.mk (ho.mono U.out.bw.size)
              clear ho hb
              go_wp2
              go_ret2
              rw [HE.out]
              exact ⟨v3, rfl, HO.out, B3.out⟩
            | true =>
              obtain ⟨fu, rfl⟩ : ∃ m, gk = m + 1 := ⟨gk - 1, by have := HM.out rfl; omega⟩
              replace HL := HL.out
              rw [followLoop_go _ _ _ _ rfl] at HL
              have HL2 := Keep.mk HL
              have HRn := Keep.mk (followRound_le (n := n) (u := ⟨m, true⟩) (ps := ps) HF.out U.out.lf HB.out P0.out)
              clear HL
              have h3 := U.out.bg.cell 3
              simp at h3
              go_wp2
              go_loopg [9, 44] ps.length (fun gg s9 s44 wr => ∃ (j : Nat) (u : Fi), j ≤ ps.length ∧ ps.length - j ≤ gg ∧ s9 = .bool u.more ∧ s44 = .int .i64 j ∧
                Keep (u = (ps.take j).foldl (followBody F) ⟨m, false⟩) ∧ Keep (∀ x ∈ u.m, x < 2 ^ 64) ∧ Keep (LW w wr #[.int .i64 t, .int .i64 n, .int .i64 a, .slice A ps.length c] gF gO n F u.m))
              case atStart => exact ⟨0, ⟨m, false⟩, Nat.zero_le _, by omega, rfl, rfl, ⟨by simp⟩, HB, U⟩
              case round =>
                clear U h3 HB
                obtain ⟨j, u, hj, hgj, rfl, rfl, HU, HB, U⟩ := hrel
                by_cases hltj : j < ps.length
                · obtain ⟨ad, Ab, cb, rfl, hb, c0, c1, c2, hlb, hrb⟩ := H0.out.r j hltj
                  replace c0 := cell_below c0 U.out.bw (by rw [add_block]; exact hb)
                  replace c1 := cell_below c1 U.out.bw (by show (ad.add _).block < _; rw [add_block]; exact hb)
                  replace c2 := cell_below c2 U.out.bw (by show (ad.add _).block < _; rw [add_block]; exact hb)
                  dsimp only at c0 c1 c2 hlb hrb
                  have hbl := L0.out _ (List.getElem_mem hltj)
                  have hpi := Keep.mk (P0.out _ (List.getElem_mem hltj))
                  have HU2 : Keep ((ps.take (j + 1)).foldl (followBody F) ⟨m, false⟩ = followBody F u ps[j]) := ⟨by rw [List.take_succ_eq_append_getElem hltj, List.foldl_append, ← HU.out]; rfl⟩
                  clear HU
                  generalize hx : ps[j] = p at *
                  clear hx
                  obtain ⟨hd, bd, rt⟩ := p
                  dsimp only at *
                  obtain ⟨d, rfl⟩ := Int.eq_ofNat_of_zero_le hpi.out.1
                  have hdn : (d : Int) < n := by have := hpi.out.2.1; simp at this; omega
                  have i1 : (0:Int) ≤ j := by omega
                  have i2 : (j : Int) < ps.length := by omega
                  have HU3 : Keep (followBody F u ⟨d, bd, rt⟩ = (List.range bd.length).foldl (followIn F ⟨d, bd, rt⟩) u) := ⟨rfl⟩
                  have UP : Keep (LW w (wr.alloc (.cells #[.int .i64 d, .slice Ab bd.length cb, .bool rt] 38)) #[.int .i64 t, .int .i64 n, .int .i64 a, .slice (some ad) ps.length c] gF gO n F u.m) := ⟨U.out.alloc _⟩
                  have BP : Keep (Blk (wr.alloc (.cells #[.int .i64 d, .slice Ab bd.length cb, .bool rt] 38)) wr.heap.size 38 #[.int .i64 d, .slice Ab bd.length cb, .bool rt]) := ⟨Blk.new _ _ _⟩
                  have np : gF < wr.heap.size ∧ gO < wr.heap.size ∧ w.heap.size ≤ wr.heap.size := ⟨U.out.bf.lt, U.out.bo.lt, U.out.bw.size⟩
                  clear U
                  obtain ⟨wo, rfl⟩ : ∃ wo : World, wo = wr := ⟨_, rfl⟩
                  go_wp2
                  go_loopg [9, 51] bd.length (fun gg s9 s51 wr => ∃ (i : Nat) (u2 : Fi), i ≤ bd.length ∧ bd.length - i ≤ gg ∧ s9 = .bool u2.more ∧ s51 = .int .i64 i ∧ Keep (u2 = (List.range i).foldl (followIn F ⟨d, bd, rt⟩) u) ∧ Keep (∀ x ∈ u2.m, x < 2 ^ 64) ∧
                    Keep (LW w wr #[.int .i64 t, .int .i64 n, .int .i64 a, .slice (some ad) ps.length c] gF gO n F u2.m) ∧ Keep (Blk wr wo.heap.size 38 #[.int .i64 d, .slice Ab bd.length cb, .bool rt]))
                  case atStart => exact ⟨0, u, Nat.zero_le _, by omega, rfl, rfl, ⟨by simp⟩, HB, UP, BP⟩
                  case round =>
                    clear UP BP HB c0 c1 c2
                    obtain ⟨i, u2, hi, hgi, rfl, rfl, HV, HB, U, BP⟩ := hrel
                    by_cases hlti : i < bd.length
                    · obtain ⟨a2, rfl, hb2, hc2⟩ := hrb.int i hlti
                      replace hc2 := cell_below hc2 U.out.bw (by rw [add_block]; exact hb2)
                      have hs := hpi.out.2.2 _ (List.getElem_mem hlti)
                      have HV2 : Keep ((List.range (i + 1)).foldl (followIn F ⟨d, bd, rt⟩) u = followIn F ⟨d, bd, rt⟩ u2 i) := ⟨by rw [List.range_succ, List.foldl_append, ← HV.out]; rfl⟩
                      have hgz : Keep (bd.getD i 0 = bd[i]) := ⟨by simp [hlti]⟩
                      have HN := Keep.mk (followIn_le (p := ⟨d, bd, rt⟩) (k := i) HF.out U.out.lf HB.out (by dsimp only; rw [hgz.out]; exact hs.2))
                      clear HV
                      generalize bd[i] = z at *
                      obtain ⟨z, rfl⟩ := Int.eq_ofNat_of_zero_le hs.1
                      have hzn : (z : Int) < n := by have := hs.2; simp at this; omega
                      clear hs
                      have j1 : (0:Int) ≤ i := by omega
                      have j2 : (i : Int) < bd.length := by omega
                      have q0 := BP.out.cell 0
                      have q1 := BP.out.cell 1
                      simp at q0 q1
                      have cd := U.out.bo.cell d
                      rw [u64s_gn _ d (by rw [U.out.lf]; omega)] at cd
                      by_cases hnx : i + 1 < bd.length
                      · obtain ⟨a3, e3, hb3, hc3⟩ := hrb.int (i + 1) hnx
                        cases e3
                        replace hc3 := cell_below hc3 U.out.bw (by rw [add_block]; exact hb3)
                        have hs := hpi.out.2.2 _ (List.getElem_mem hnx)
                        have hg3 : Keep (bd.getD (i + 1) 0 = bd[i + 1]) := ⟨by simp [hnx]⟩
                        generalize bd[i + 1] = z3 at *
                        obtain ⟨z3, rfl⟩ := Int.eq_ofNat_of_zero_le hs.1
                        have hzn3 : (z3 : Int) < n := by have := hs.2; simp at this; omega
                        clear hs
                        simp only [Addr.add, Nat.add_eq_zero_iff, Nat.one_ne_zero, and_false, if_false] at hc3
                        have cF := U.out.bf.cell z3
                        rw [u64s_gn _ z3 (by rw [U.out.lF]; omega)] at cF
                        have HX0 : Keep (followX F ⟨d, bd, rt⟩ u2.m i = gn F z3) := ⟨by unfold followX; dsimp only; rw [if_pos hnx, hg3.out]⟩
                        obtain ⟨X, hX⟩ : ∃ X, X = gn F z3 := ⟨_, rfl⟩
                        rw [← hX] at cF HX0
                        have HX := HX0
                        clear HX0 hX
                        have j3 : (0 : Int) ≤ (i : Int) + 1 := by omega
                        have j4 : (i : Int) + 1 < bd.length := by omega
                        have j5 : ((i : Int) + 1).toNat = i + 1 := by omega
                        have hlX : X < 2 ^ 64 := by rw [← HX.out]; exact followX_lt HF.out HB.out
                        have hlv : gn u2.m z < 2 ^ 64 := gn_lt HB.out _
                        have or1 := or64 X (gn u2.m z) hlX hlv
                        have or2 := or64 (gn u2.m z) X hlv hlX
                        have cz := U.out.bo.cell z
                        rw [u64s_gn _ z (by rw [U.out.lf]; omega)] at cz
                        have cf := U.out.bo.frozen z
                        have HIN : Keep ((X ||| gn u2.m z = gn u2.m z → followIn F ⟨d, bd, rt⟩ u2 i = u2) ∧ (¬ X ||| gn u2.m z = gn u2.m z → followIn F ⟨d, bd, rt⟩ u2 i = ⟨u2.m.set z (gn u2.m z ||| X), true⟩)) := ⟨by
                          unfold followIn
                          dsimp only
                          rw [HX.out, hgz.out]
                          exact ⟨fun h => if_pos h, fun h => if_neg h⟩⟩
                        clear hlX hlv
                        generalize gn u2.m z = v at *
                        by_cases hne : (X ||| v) = v
                        · have t1 : ((((X ||| v : Nat) : Int)) != (v : Int)) = false := by simp [hne]
                          have e : Keep (followIn F ⟨d, bd, rt⟩ u2 i = u2) := ⟨HIN.out.1 hne⟩
                          clear hne
                          generalize (X ||| v : Nat) = v3 at *
                          generalize (v ||| X : Nat) = v4 at *
                          go_wp2
                          go_quiet (fail)
                          go_wp2
                          go_roundg (bd.length - (i + 1))
                          case measure => omega
                          case rel => exact ⟨i + 1, u2, by omega, by omega, rfl, by go_num, ⟨by rw [HV2.out, e.out]⟩, HB, ⟨U.out.drewN _⟩, ⟨BP.out.drewN _⟩⟩
                        · have t1 : ((((X ||| v : Nat) : Int)) != (v : Int)) = true := by simp; omega
                          have e : Keep (followIn F ⟨d, bd, rt⟩ u2 i = ⟨u2.m.set z (v ||| X), true⟩) := ⟨HIN.out.2 hne⟩
                          clear hne
                          have HN2 := Keep.mk HN.out.b
                          rw [e.out] at HN2
                          generalize (X ||| v : Nat) = v3 at *
                          generalize (v ||| X : Nat) = v4 at *
                          go_wp2
                          go_quiet (fail)
                          go_wp2
                          go_roundg (bd.length - (i + 1))
                          case measure => omega
                          case rel => exact ⟨i + 1, ⟨u2.m.set z v4, true⟩, by omega, by omega, rfl, by go_num, ⟨by rw [HV2.out, e.out]⟩, HN2, ⟨(U.out.drewN _).setF z v4⟩, ⟨(BP.out.drewN _).far (by show wo.heap.size ≠ gO; omega) _⟩⟩
                      · have j4 : ¬ ((i : Int) + 1 < bd.length) := by omega
                        have HX0 : Keep (followX F ⟨d, bd, rt⟩ u2.m i = gn u2.m d) := ⟨by unfold followX; dsimp only; rw [if_neg hnx]⟩
                        obtain ⟨X, hX⟩ : ∃ X, X = gn u2.m d := ⟨_, rfl⟩
                        rw [← hX] at cd HX0
                        have HX := HX0
                        clear HX0 hX
                        have hlX : X < 2 ^ 64 := by rw [← HX.out]; exact followX_lt HF.out HB.out
                        have hlv : gn u2.m z < 2 ^ 64 := gn_lt HB.out _
                        have or1 := or64 X (gn u2.m z) hlX hlv
                        have or2 := or64 (gn u2.m z) X hlv hlX
                        have cz := U.out.bo.cell z
                        rw [u64s_gn _ z (by rw [U.out.lf]; omega)] at cz
                        have cf := U.out.bo.frozen z
                        have HIN : Keep ((X ||| gn u2.m z = gn u2.m z → followIn F ⟨d, bd, rt⟩ u2 i = u2) ∧ (¬ X ||| gn u2.m z = gn u2.m z → followIn F ⟨d, bd, rt⟩ u2 i = ⟨u2.m.set z (gn u2.m z ||| X), true⟩)) := ⟨by
                          unfold followIn
                          dsimp only
                          rw [HX.out, hgz.out]
                          exact ⟨fun h => if_pos h, fun h => if_neg h⟩⟩
                        clear hlX hlv
                        generalize gn u2.m z = v at *
                        by_cases hne : (X ||| v) = v
                        · have t1 : ((((X ||| v : Nat) : Int)) != (v : Int)) = false := by simp [hne]
                          have e : Keep (followIn F ⟨d, bd, rt⟩ u2 i = u2) := ⟨HIN.out.1 hne⟩
                          clear hne
                          generalize (X ||| v : Nat) = v3 at *
                          generalize (v ||| X : Nat) = v4 at *
                          go_wp2
                          go_quiet (fail)
                          go_wp2
                          go_roundg (bd.length - (i + 1))
                          case measure => omega
                          case rel => exact ⟨i + 1, u2, by omega, by omega, rfl, by go_num, ⟨by rw [HV2.out, e.out]⟩, HB, ⟨U.out.drewN _⟩, ⟨BP.out.drewN _⟩⟩
                        · have t1 : ((((X ||| v : Nat) : Int)) != (v : Int)) = true := by simp; omega
                          have e : Keep (followIn F ⟨d, bd, rt⟩ u2 i = ⟨u2.m.set z (v ||| X), true⟩) := ⟨HIN.out.2 hne⟩
                          clear hne
                          have HN2 := Keep.mk HN.out.b
                          rw [e.out] at HN2
                          generalize (X ||| v : Nat) = v3 at *
                          generalize (v ||| X : Nat) = v4 at *
                          go_wp2
                          go_quiet (fail)
                          go_wp2
                          go_roundg (bd.length - (i + 1))
                          case measure => omega
                          case rel => exact ⟨i + 1, ⟨u2.m.set z v4, true⟩, by omega, by omega, rfl, by go_num, ⟨by rw [HV2.out, e.out]⟩, HN2, ⟨(U.out.drewN _).setF z v4⟩, ⟨(BP.out.drewN _).far (by show wo.heap.size ≠ gO; omega) _⟩⟩
                    · have ei : i = bd.length := by omega
                      subst ei
                      go_wp2
                      go_roundg (ps.length - (j + 1))
                      case measure => omega
                      case rel => exact ⟨j + 1, u2, by omega, by omega, rfl, by go_num, ⟨by rw [HU2.out, HU3.out, HV.out]⟩, HB, U⟩
                · have em : j = ps.length := by omega
                  subst em
                  go_wp2
                  go_roundg fu
                  case measure => omega
                  case rel =>
                    have hu : u = followRound F ps ⟨m, true⟩ := by rw [HU.out, List.take_length]; rfl
                    refine ⟨u, rfl, ⟨fun h => ?_⟩, HB, U, ⟨by rw [hu]; exact HL2.out⟩⟩
                    have h1 := HRn.out.2.2
                    rw [← hu] at h1
                    have h2 := HM.out (by first | rfl | trivial)
                    have h3 := h1 h
                    omega
    · have HR2 : Keep (R = ([], 2)) := ⟨by rw [HR.out, if_pos rfl, if_neg hs]⟩
      clear HR
      go_wp2
      all_goals
        go_ret2
        rw [HR2.out]
        exact ⟨_, rfl, OwnI.nil _ _, B1.out⟩
  · have t : ((E : Int) != 0) = true := by simp [hE]
    have HR2 : Keep (R = ([], E)) := ⟨by rw [HR.out, if_neg hE]⟩
    clear HR hE
    go_wp2
    go_ret2
    rw [HR2.out]
    exact ⟨_, rfl, OwnI.nil _ _, B1.out⟩
end Go.Proofs.Ytofidghilcbegaa.H
namespace Go.Proofs.Ytofidghilcbegaa.H
open Go.RowKit
set_option linter.unusedVariables false
set_option linter.unusedSimpArgs false
def sizeOfGr (ps : List Pr) : Nat := ps.length + (ps.map (·.body.length)).sum
def bigB (g : Gr) : Bool := decide (100000 < sizeOfGr g.ps)
set_option maxRecDepth 100000 in
set_option maxHeartbeats 2000000 in
theorem grammarBig_any (g : Gr) (A : Option Addr) (c : Nat) (w : World) (h : GrIn w g A c) :
    Calls Try.prog 27 #[grV g A c, .int .i64 100000] w fun e w' => e = .returned (.bool (bigB g)) ∧ Below w.heap.size w w' := by
  have H0 := Keep.mk h
  have HL : g.ps.length ≤ 9223372036854775807 := by have := h.l; have := h.l2; omega
  have HR : Keep (bigB g = decide (100000 < g.ps.length + (g.ps.map (·.body.length)).sum)) := ⟨rfl⟩
  generalize bigB g = R at *
  clear h
  obtain ⟨T, S, st, ps⟩ := g
  unfold grV at *
  dsimp only at *
  have BG : Keep (Blk (w.alloc (.cells #[.int .i64 T, .int .i64 S, .int .i64 st, .slice A ps.length c] 24)) w.heap.size 24 #[.int .i64 T, .int .i64 S, .int .i64 st, .slice A ps.length c]) := ⟨Blk.new _ _ _⟩
  go_enter Try.func27, Try.ntmps27
  go_upto_region 2 with fail
  go_cut [5, 6] (fun s5 s6 wx => ∃ q : Nat, s5 = .int .i64 q ∧ s6 = .int .i64 0 ∧ q ≤ 200001 ∧ Keep ((q ≤ 100000 → q = ps.length) ∧ (100000 < q → 100000 < ps.length)) ∧ Keep (Below w.heap.size w wx) ∧ Keep (Blk wx w.heap.size 24 #[.int .i64 T, .int .i64 S, .int .i64 st, .slice A ps.length c]))
  case first =>
    by_cases hb : ps.length ≤ 100001
    · have hb' : ((ps.length : Int) ≤ 100001) := by omega
      go_wp2_with fail
      go_meet
      exact ⟨ps.length, rfl, rfl, by omega, ⟨fun _ => rfl, fun h => h⟩, ⟨(Below.refl _ _).alloc (Nat.le_refl _) _⟩, BG⟩
    · have hb' : ¬ ((ps.length : Int) ≤ 100001) := by omega
      go_wp2_with fail
      go_meet
      exact ⟨100001, rfl, rfl, by omega, ⟨fun h => absurd h (by omega), fun _ => by omega⟩, ⟨(Below.refl _ _).alloc (Nat.le_refl _) _⟩, BG⟩
  case rest =>
    obtain ⟨q, rfl, rfl, hq, HQ, HB, BG1⟩ := hcut
    clear BG
    go_wp2
    go_loopg [5, 6] ps.length (fun gg s5 s6 wr => ∃ i q : Nat, i ≤ ps.length ∧ ps.length - i ≤ gg ∧ s5 = .int .i64 q ∧ s6 = .int .i64 i ∧ q ≤ 200001 ∧ Keep ((q ≤ 100000 → q = ps.length + ((ps.take i).map (·.body.length)).sum) ∧ (100000 < q → 100000 < ps.length + (ps.map (·.body.length)).sum)) ∧
      Keep (Below w.heap.size w wr) ∧ Keep (Blk wr w.heap.size 24 #[.int .i64 T, .int .i64 S, .int .i64 st, .slice A ps.length c]))
    case atStart => exact ⟨0, q, by omega, by omega, rfl, rfl, hq, ⟨fun h => by rw [HQ.out.1 h]; simp, fun h => by have := HQ.out.2 h; omega⟩, HB, BG1⟩
    case round =>
      clear HQ HB BG1 hq
      obtain ⟨i, q, hi, hg, rfl, rfl, hq, HQ, HB, BG⟩ := hrel
      have q3 := BG.out.cell 3
      simp at q3
      by_cases hlt : i < ps.length
      · by_cases hk : q ≤ 100000
        · obtain ⟨ad, Ab, cb, rfl, hb, c0, c1, c2, hlb, hrb⟩ := H0.out.r i hlt
          have hbl := H0.out.b _ (List.getElem_mem hlt)
          dsimp only at c0 c1 c2 hlb hrb hbl
          replace c1 := cell_below c1 HB.out (by show (ad.add _).block < _; rw [add_block]; exact hb)
          clear c0 c2 hrb
          have HT : Keep (((ps.take (i + 1)).map (·.body.length)).sum = ((ps.take i).map (·.body.length)).sum + ps[i].body.length) := ⟨by rw [List.take_succ_eq_append_getElem hlt, List.map_append, List.sum_append]; simp⟩
          have HT2 : Keep (((ps.take (i + 1)).map (·.body.length)).sum ≤ (ps.map (·.body.length)).sum) := ⟨by
            conv => rhs; rw [← List.take_append_drop (i + 1) ps, List.map_append, List.sum_append]
            omega⟩
          have i1 : (0 : Int) ≤ i := by omega
          have i2 : (i : Int) < ps.length := by omega
          generalize ps[i] = p at *
          by_cases hp : p.body.length ≤ 100001
          · have hp' : ((p.body.length : Int) ≤ 100001) := by omega
            go_wp2
            go_roundg (ps.length - (i + 1))
            case measure => omega
            case rel =>
              refine ⟨i + 1, q + p.body.length, by omega, by omega, by go_num, by go_num, by omega, ⟨fun h => ?_, fun h => ?_⟩, HB, BG⟩
              · have := HQ.out.1 hk; have := HT.out; omega
              · have := HQ.out.1 hk; have := HT.out; have := HT2.out; omega
          · have hp' : ¬ ((p.body.length : Int) ≤ 100001) := by omega
            go_wp2
            go_roundg (ps.length - (i + 1))
            case measure => omega
            case rel =>
              refine ⟨i + 1, q + 100001, by omega, by omega, by go_num, by go_num, by omega, ⟨fun h => ?_, fun h => ?_⟩, HB, BG⟩
              · omega
              · have := HQ.out.1 hk; have := HT.out; have := HT2.out; omega
        · go_wp2
          go_ret
          refine ⟨?_, HB.out⟩
          have := HQ.out.2 (by omega)
          rw [HR.out]
          simp; omega
      · have ei : i = ps.length := by omega
        subst ei
        go_wp2
        all_goals
          go_ret
          refine ⟨?_, HB.out⟩
          have h1 := HQ.out.1
          have h2 := HQ.out.2
          rw [List.take_length] at h1
          rw [HR.out]
          simp; omega
theorem big_any (g : Gr) (A : Option Addr) (c : Nat) (w : World) (h : GrIn w g A c) :
    Calls Try.prog 12 #[grV g A c] w fun e w' => e = .returned (.bool (bigB g)) ∧ Below w.heap.size w w' := by
  have hB : Below w.heap.size w (w.alloc (.cells #[.int .i64 g.T, .int .i64 g.S, .int .i64 g.st, .slice A g.ps.length c] 24)) := (Below.refl _ _).alloc (Nat.le_refl _) _
  have K := Keep.mk (grammarBig_any g A c _ (h.below hB))
  have HB := Keep.mk hB
  clear h hB
  generalize bigB g = R at *
  obtain ⟨T, S, st, ps⟩ := g
  unfold grV at *
  dsimp only at *
  go_enter Try.func12, Try.ntmps12
  go_wp2_with fail
  refine K.out.mono ?_
  rintro e w1 ⟨rfl, hb⟩
  go_wp2
  go_ret
  exact ⟨rfl, below_step HB.out hb HB.out.size⟩
end Go.Proofs.Ytofidghilcbegaa.H
namespace Go.Proofs.Ytofidghilcbegaa.H
open Go.RowKit
set_option linter.unusedVariables false
set_option linter.unusedSimpArgs false
theorem sameInts (A1 A2 : Option Addr) (n1 n2 c1 c2 : Nat) (xs ys : List Int) (w : World)
    (hn1 : n1 = xs.length) (hn2 : n2 = ys.length) (hl1 : xs.length ≤ 9223372036854775807)
    (h1 : Rd eI 1 w w.heap.size A1 xs) (h2 : Rd eI 1 w w.heap.size A2 ys) :
    Calls Try.prog 20 #[.slice A1 n1 c1, .slice A2 n2 c2] w fun e w' => e = .returned (.bool (decide (xs = ys))) ∧ ∃ n, w' = w.drewN n := by
  subst hn1 hn2
  by_cases hne : xs.length = ys.length
  · have hne' : ((xs.length : Int) != (ys.length : Int)) = false := by simp [hne]
    have Hne := Lib.hid hne
    clear hne
    go_enter Try.func20, Try.ntmps20
    go_wp2
    go_loopg [5] xs.length (fun gg s13 wr => ∃ k : Nat, k ≤ xs.length ∧ xs.length - k ≤ gg ∧ s13 = .int .i64 k ∧ (∃ n, wr = w.drewN n) ∧ Keep (∀ j, j < k → xs[j]? = ys[j]?))
    case atStart => exact ⟨0, Nat.zero_le _, by omega, rfl, ⟨0, rfl⟩, ⟨fun j hj => absurd hj (Nat.not_lt_zero _)⟩⟩
    case round =>
      obtain ⟨k, hk, hg, rfl, ⟨n, rfl⟩, HA⟩ := hrel
      by_cases hlt : k < xs.length
      · have hlt2 : k < ys.length := by have := Hne.out; omega
        obtain ⟨a1, rfl, hb1, hc1⟩ := h1.int k hlt
        obtain ⟨a2, rfl, hb2, hc2⟩ := h2.int k hlt2
        clear h1 h2
        generalize hx : xs[k] = x at *
        generalize hy : ys[k] = y at *
        have Hx := Lib.hid hx
        have Hy := Lib.hid hy
        clear hx hy
        have i1 : (0:Int) ≤ k := by omega
        have i2 : (k : Int) < xs.length := by omega
        have i3 : (k : Int) < ys.length := by omega
        by_cases hxy : x = y
        · have t : ((x : Int) != y) = false := by simp [hxy]
          have Hxy := Lib.hid hxy
          clear hxy
          go_wp2
          go_quiet (fail)
          go_wp2
          go_roundg (xs.length - (k + 1))
          case measure => omega
          case rel =>
            refine ⟨k + 1, by omega, by omega, by go_num, ⟨_, rfl⟩, ⟨fun j hj => ?_⟩⟩
            by_cases e : j = k
            · subst e
              rw [List.getElem?_eq_getElem hlt, List.getElem?_eq_getElem hlt2, Hx.out, Hy.out, Hxy.out]
            · exact HA.out j (by omega)
        · have t : ((x : Int) != y) = true := by simp [hxy]
          have Hxy := Lib.hid hxy
          clear hxy
          go_wp2
          go_quiet (fail)
          go_wp2
          go_ret
          refine ⟨?_, ⟨_, World.drewN_drewN ..⟩⟩
          have : ¬ xs = ys := by
            rintro rfl
            exact Hxy.out (by rw [← Hx.out, ← Hy.out])
          simp [this]
      · go_wp2
        go_ret
        refine ⟨?_, ⟨_, rfl⟩⟩
        have : xs = ys := List.ext_getElem? (fun j => by
          by_cases hj : j < k
          · exact HA.out j hj
          · rw [List.getElem?_eq_none (by omega), List.getElem?_eq_none (by have := Hne.out; omega)])
        simp [this]
  · have hne' : ((xs.length : Int) != (ys.length : Int)) = true := by simp; omega
    have hxy : decide (xs = ys) = false := by simp; intro h; exact hne (by rw [h])
    clear hne
    go_enter Try.func20, Try.ntmps20
    go_wp2
    go_ret
    exact ⟨by rw [hxy]; rfl, 0, rfl⟩
theorem rd_ints {w : World} {g : Nat} {t : TypeId} {xs : List Int} {B : Nat} (h : Blk w g t (ints .i64 xs)) (hB : g < B) : Rd eI 1 w B (some ⟨g, 0, none⟩) xs := by
  intro i hi
  refine ⟨_, rfl, hB, fun j u hu => ?_⟩
  have hj : j = 0 := by
    rcases j with _ | j
    · rfl
    · simp [eI] at hu
  subst hj
  have : ((Addr.mk g 0 none).add (i * 1)).add 0 = ⟨g, i, none⟩ := by by_cases h0 : i = 0 <;> simp [Addr.add, h0]
  rw [this, h.cell i, ints_at .i64 xs i hi]
  simpa [eI] using hu
theorem rdP_at {w : World} {g : Nat} {t : TypeId} {cs : Array Value} (h : Blk w g t cs) (i : Nat) (p : Pr) (Ab : Option Addr) (cb : Nat) (h0 : cs[i * 3]? = some (.int .i64 p.head)) (h1 : cs[i * 3 + 1]? = some (.slice Ab p.body.length cb)) (h2 : cs[i * 3 + 2]? = some (.bool p.right)) :
    w.cell? ((Addr.mk g 0 none).add (i * 3)) = some (.int .i64 p.head) ∧ w.cell? ⟨((Addr.mk g 0 none).add (i * 3)).block, ((Addr.mk g 0 none).add (i * 3)).off + 1, none⟩ = some (.slice Ab p.body.length cb) ∧
    w.cell? ⟨((Addr.mk g 0 none).add (i * 3)).block, ((Addr.mk g 0 none).add (i * 3)).off + 2, none⟩ = some (.bool p.right) := by
  have e : (Addr.mk g 0 none).add (i * 3) = ⟨g, i * 3, none⟩ := by
    by_cases h0 : i = 0
    · subst h0; rfl
    · have h3 : i * 3 ≠ 0 := by omega
      simp [Addr.add, h3]
  rw [e]
  exact ⟨(h.cell _).trans h0, (h.cell _).trans h1, (h.cell _).trans h2⟩
def knownG : Gr := ⟨4, 6, 4, [⟨4, [4, 0, 5], false⟩, ⟨4, [5], false⟩, ⟨5, [1], false⟩, ⟨5, [2, 4, 3], false⟩]⟩
set_option maxRecDepth 100000 in
set_option maxHeartbeats 2000000 in
theorem known_any (w : World) :
    Calls Try.prog 34 #[] w fun e w' => ∃ A, e = .returned (grV knownG A 4) ∧ GrIn w' knownG A 4 ∧ Below w.heap.size w w' := by
  go_enter Try.func34, Try.ntmps34
  go_wp2
  generalize hw : World.alloc _ _ = wz
  have z := hw
  have b0 : Blk wz w.heap.size 24 #[.int .i64 4, .int .i64 6, .int .i64 4, .slice (some ⟨w.heap.size + 1 + 1 + 1 + 1 + 1, 0, none⟩) 4 4] := by
    rw [← hw]; exact (((((Blk.new _ _ _).alloc _).alloc _).alloc _).alloc _).alloc _
  have b1 : Blk wz (w.heap.size + 1) 3 (ints .i64 [4, 0, 5]) := by rw [← hw]; exact ((((Blk.newAt (by simp)).alloc _).alloc _).alloc _).alloc _
  have b2 : Blk wz (w.heap.size + 1 + 1) 3 (ints .i64 [5]) := by rw [← hw]; exact (((Blk.newAt (by simp)).alloc _).alloc _).alloc _
  have b3 : Blk wz (w.heap.size + 1 + 1 + 1) 3 (ints .i64 [1]) := by rw [← hw]; exact ((Blk.newAt (by simp)).alloc _).alloc _
  have b4 : Blk wz (w.heap.size + 1 + 1 + 1 + 1) 3 (ints .i64 [2, 4, 3]) := by rw [← hw]; exact (Blk.newAt (by simp)).alloc _
  have b5 : Blk wz (w.heap.size + 1 + 1 + 1 + 1 + 1) 38 #[.int .i64 4, .slice (some ⟨w.heap.size + 1, 0, none⟩) 3 3, .bool false, .int .i64 4, .slice (some ⟨w.heap.size + 1 + 1, 0, none⟩) 1 1, .bool false,
      .int .i64 5, .slice (some ⟨w.heap.size + 1 + 1 + 1, 0, none⟩) 1 1, .bool false, .int .i64 5, .slice (some ⟨w.heap.size + 1 + 1 + 1 + 1, 0, none⟩) 3 3, .bool false] := by rw [← hw]; exact Blk.newAt (by simp)
  have bw : Below w.heap.size w wz := by
    rw [← hw]
    exact ((((((Below.refl _ _).alloc (by simp) _).alloc (by simp) _).alloc (by simp; omega) _).alloc (by simp; omega) _).alloc (by simp; omega) _).alloc (by simp; omega) _
  clear hw z
  refine bodyPost_ret (v := grV knownG (some ⟨w.heap.size + 1 + 1 + 1 + 1 + 1, 0, none⟩) 4) ?_ rfl ⟨some ⟨w.heap.size + 1 + 1 + 1 + 1 + 1, 0, none⟩, rfl, ⟨by decide, by decide, ?_, ?_⟩, bw⟩
  · have c0 := b0.cell 0
    have c1 := b0.cell 1
    have c2 := b0.cell 2
    have c3 := b0.cell 3
    simp at c0 c1 c2 c3
    simp [results, Try.results34, go_sem, c0, c1, c2, c3, grV, knownG]
  · intro p hp
    have : p.body.length ≤ 3 := by
      simp only [knownG, List.mem_cons, List.not_mem_nil, or_false] at hp
      rcases hp with rfl | rfl | rfl | rfl <;> decide
    omega
  · intro i hi
    have hi4 : i < 4 := hi
    have h5 := b5.lt
    rcases i with _ | _ | _ | _ | i
    · obtain ⟨x0, x1, x2⟩ := rdP_at b5 0 ⟨4, [4, 0, 5], false⟩ _ 3 rfl rfl rfl
      exact ⟨_, _, _, rfl, h5, x0, x1, x2, Nat.le_refl _, rd_ints b1 b1.lt⟩
    · obtain ⟨x0, x1, x2⟩ := rdP_at b5 1 ⟨4, [5], false⟩ _ 1 rfl rfl rfl
      exact ⟨_, _, _, rfl, h5, x0, x1, x2, Nat.le_refl _, rd_ints b2 b2.lt⟩
    · obtain ⟨x0, x1, x2⟩ := rdP_at b5 2 ⟨5, [1], false⟩ _ 1 rfl rfl rfl
      exact ⟨_, _, _, rfl, h5, x0, x1, x2, Nat.le_refl _, rd_ints b3 b3.lt⟩
    · obtain ⟨x0, x1, x2⟩ := rdP_at b5 3 ⟨5, [2, 4, 3], false⟩ _ 3 rfl rfl rfl
      exact ⟨_, _, _, rfl, h5, x0, x1, x2, Nat.le_refl _, rd_ints b4 b4.lt⟩
    · omega
end Go.Proofs.Ytofidghilcbegaa.H
namespace Go.Proofs.Ytofidghilcbegaa.H
open Go.RowKit
set_option linter.unusedVariables false
set_option linter.unusedSimpArgs false
theorem known_check : checkI knownG = 0 := by decide +kernel
theorem known_follow : followR knownG 5 = ([0, 3, 4], 0) := by decide +kernel
theorem known_first : firstR knownG 4 = ([1, 2], 0) := by decide +kernel
def noneG : Gr := ⟨0, 0, 0, []⟩
theorem none_check : checkI noneG = 2 := by decide +kernel
theorem none_in (w : World) : GrIn w noneG none 0 := ⟨by decide, by decide, by simp [noneG], fun i hi => absurd hi (by simp [noneG])⟩
set_option maxRecDepth 100000 in
set_option maxHeartbeats 4000000 in
theorem alive_any (w : World) : Calls Try.prog 14 #[] w fun e w' => e = .returned (.bool true) ∧ Below w.heap.size w w' := by
  go_enter Try.func14, Try.ntmps14
  go_wp2_with fail
  refine (known_any _).mono ?_
  rintro e w1 ⟨A1, rfl, g1, b1⟩
  have K1 := Keep.mk (follow_any knownG 5 A1 4 w1 g1)
  rw [known_follow] at K1
  have B1 := Keep.mk b1
  clear g1 b1
  generalize hv1 : grV knownG A1 4 = v1 at *
  go_wp2_with fail
  refine K1.out.mono ?_
  rintro e w2 ⟨l1, rfl, o1, b2⟩
  obtain ⟨Al, cl, rfl, _, _, rd1, _, _⟩ := o1.open_
  have R1 := Keep.mk rd1
  have B2 := Keep.mk (below_step B1.out b2 B1.out.size)
  clear K1 rd1 b2 o1 hv1
  dsimp only [List.length_cons, List.length_nil]
  go_wp2_with fail
  refine (known_any _).mono ?_
  rintro e w3 ⟨A3, rfl, g3, b3⟩
  have K3 := Keep.mk (first_any knownG 4 A3 4 w3 g3)
  rw [known_first] at K3
  have B3 := Keep.mk (below_step B2.out b3 B2.out.size)
  have R3 := Keep.mk ((R1.out.below b3).mono b3.size)
  clear g3 b3 R1
  generalize hv3 : grV knownG A3 4 = v3 at *
  go_wp2_with fail
  refine K3.out.mono ?_
  rintro e w4 ⟨l2, rfl, o2, b4⟩
  obtain ⟨Am, cm, rfl, _, _, rd2, _, _⟩ := o2.open_
  have R4 := Keep.mk ((R3.out.below b4).mono b4.size)
  have Q4 := Keep.mk rd2
  have B4 := Keep.mk (below_step B3.out b4 B3.out.size)
  clear K3 rd2 b4 o2 hv3 R3
  dsimp only [List.length_cons, List.length_nil]
  go_wp2_with fail
  refine (known_any _).mono ?_
  rintro e w5 ⟨A5, rfl, g5, b5⟩
  have K5 := Keep.mk (check_any knownG A5 4 w5 g5)
  rw [known_check] at K5
  have B5 := Keep.mk (below_step B4.out b5 B4.out.size)
  have R5 := Keep.mk ((R4.out.below b5).mono b5.size)
  have Q5 := Keep.mk ((Q4.out.below b5).mono b5.size)
  clear g5 b5 R4 Q4
  generalize hv5 : grV knownG A5 4 = v5 at *
  go_wp2_with fail
  refine K5.out.mono ?_
  rintro e w6 ⟨rfl, b6⟩
  have B6 := Keep.mk (below_step B5.out b6 B5.out.size)
  have R6 := Keep.mk ((R5.out.below b6).mono b6.size)
  have Q6 := Keep.mk ((Q5.out.below b6).mono b6.size)
  clear K5 b6 R5 Q5 hv5
  go_wp2_with fail
  have ha : Below w6.heap.size w6 (w6.alloc (.cells (ints .i64 [0, 3, 4]) 3)) := (Below.refl _ _).alloc (Nat.le_refl _) _
  refine (sameInts Al (some ⟨w6.heap.size, 0, none⟩) 3 3 cl 3 [0, 3, 4] [0, 3, 4] (w6.alloc (.cells (ints .i64 [0, 3, 4]) 3)) rfl rfl (by decide) ((R6.out.below ha).mono ha.size) (rd_ints (Blk.new _ _ _) (Blk.new _ _ _).lt)).mono ?_
  rintro e w7 ⟨rfl, n7, rfl⟩
  have h7 := below_drewN ha n7
  have B7 := Keep.mk (below_step B6.out h7 B6.out.size)
  have Q7 := Keep.mk ((Q6.out.below h7).mono h7.size)
  clear R6 Q6 ha h7
  generalize (w6.alloc (.cells (ints .i64 [0, 3, 4]) 3)).drewN n7 = w7 at *
  rw [show decide (([0, 3, 4] : List Int) = [0, 3, 4]) = true from by decide]
  go_wp2_with fail
  have ha : Below w7.heap.size w7 (w7.alloc (.cells (ints .i64 [1, 2]) 3)) := (Below.refl _ _).alloc (Nat.le_refl _) _
  refine (sameInts Am (some ⟨w7.heap.size, 0, none⟩) 2 2 cm 2 [1, 2] [1, 2] (w7.alloc (.cells (ints .i64 [1, 2]) 3)) rfl rfl (by decide) ((Q7.out.below ha).mono ha.size) (rd_ints (Blk.new _ _ _) (Blk.new _ _ _).lt)).mono ?_
  rintro e w8 ⟨rfl, n8, rfl⟩
  have h8 := below_drewN ha n8
  have B8 := Keep.mk (below_step B7.out h8 B7.out.size)
  clear Q7 ha h8
  generalize (w7.alloc (.cells (ints .i64 [1, 2]) 3)).drewN n8 = w8 at *
  rw [show decide (([1, 2] : List Int) = [1, 2]) = true from by decide]
  have K9 := Keep.mk (check_any noneG none 0 w8 (none_in w8))
  rw [none_check] at K9
  go_wp2_with fail
  refine K9.out.mono ?_
  rintro e w9 ⟨rfl, b9⟩
  have B9 := Keep.mk (below_step B8.out b9 B8.out.size)
  clear b9 K9
  go_wp2
  go_ret
  exact ⟨rfl, B9.out⟩
end Go.Proofs.Ytofidghilcbegaa.H
namespace Go.Proofs.Ytofidghilcbegaa.H
open Go.RowKit
set_option linter.unusedVariables false
set_option linter.unusedSimpArgs false
theorem own_slice {w : World} {B k n : Nat} {e : TypeId} {v : Value} {xs : List Value} (h : w.ownsRow B e k v n xs) : ∃ A c, v = .slice A n c := by
  rcases h.2 with ⟨rfl, rfl⟩ | ⟨g, cap, cur, rfl, _⟩
  · exact ⟨_, _, rfl⟩
  · exact ⟨_, _, rfl⟩
theorem cellsOne {W : World} {n c : Nat} {t : TypeId} {h : Int} {b : List Int} {r : Bool} {A : Option Addr} (hb : Blk W n t #[.int .i64 h, .slice A b.length c, .bool r]) :
    ∀ ad, some (Addr.mk n 0 none) = some ad → ∀ j u, (cellsPA [⟨⟨h, b, r⟩, A, c⟩])[j]? = some u → W.cell? (ad.add j) = some u := by
  intro ad e j u hu
  injection e with e
  subst e
  rw [addr_add0, hb.cell, ← hu]
  simp [cellsPA]
theorem grown_set (w : World) (g i : Nat) (v : Value) : w.grownBy (w.setCell ⟨g, i, none⟩ v) (some g) :=
  ⟨rfl, rfl, rfl, by simp [World.setCell], fun k hk hne => Below.heap_setCell _ _ _ _ (by intro e; exact hne (by rw [e]))⟩
end Go.Proofs.Ytofidghilcbegaa.H
namespace Go.Proofs.Ytofidghilcbegaa.H
open Go.RowKit
set_option linter.unusedVariables false
set_option linter.unusedSimpArgs false
theorem wpl_append_P {ops : Array Oper} {rest : List Oper} {o : Oper} {a : Act} {Q : Exit → Act → World → Prop} (w : World) (hgd : o.guard = none) (s x : Operand)
    (ho : o.op = .call { callee := .builtin .append, args := #[s, x], argTypes := #[22, 22] })
    (B : Nat) (v : Value) (m : List PA) (hs : a.eval s = v) (hown : w.ownsRow B 38 3 v m.length (cellsPA m)) (n : Nat) (y : PA) (hx : a.eval x = .slice (some ⟨n, 0, none⟩) 1 1)
    (hcell : ∀ ad, some (Addr.mk n 0 none) = some ad → ∀ j u, (cellsPA [y])[j]? = some u → w.cell? (ad.add j) = some u)
    (hl : m.length + 1 ≤ 1000000) (hbase : B ≤ w.heap.size)
    (h : ∀ v' w', w'.ownsRow B 38 3 v' (m ++ [y]).length (cellsPA (m ++ [y])) → w.grownBy w' v.ownBlock → wpList Try.prog ops Q rest (a.put o.dst v') w') : wpList Try.prog ops Q (o :: rest) a w := by
  obtain ⟨i0, hi0, hz0, hz1, hz2⟩ := info_parts info_prod
  refine wpList_append_own w hgd s x 22 ho B 38 i0 _ 3 40 Try.underlying22 hi0 hz0 hz1 hz2 rfl (by decide) v m.length (cellsPA m) hs hown ⟨n, 0, none⟩ 1 1 (cellsPA [y]) hx rfl
    (hcell _ rfl) (cellsPA_one [y]) (by simp only [maxLen]; omega) (by omega) hbase (fun v' w' h1 h2 _ => h v' w' ?_ h2)
  rw [List.length_append, cellsPA_append]
  exact h1
end Go.Proofs.Ytofidghilcbegaa.H
namespace Go.Proofs.Ytofidghilcbegaa.H
open Go.RowKit
set_option linter.unusedVariables false
set_option linter.unusedSimpArgs false
def mkP (j : Nat) : PA := ⟨⟨-7000 - (j : Int), [], false⟩, none, 0⟩
def mk3 : List PA := [mkP 0, mkP 1, mkP 2]
theorem own_types {w : World} {B1 B2 e1 e2 s1 s2 n1 n2 : Nat} {v1 v2 : Value} {xs1 xs2 : List Value} (h1 : w.ownsRow B1 e1 s1 v1 n1 xs1) (h2 : w.ownsRow B2 e2 s2 v2 n2 xs2) (hne : e1 ≠ e2) : v1.ownBlock = none ∨ v1.ownBlock ≠ v2.ownBlock := by
  rcases h1.2 with ⟨rfl, _⟩ | ⟨g1, _, cur1, rfl, _, hh1, _⟩
  · exact .inl rfl
  · rcases h2.2 with ⟨rfl, _⟩ | ⟨g2, _, cur2, rfl, _, hh2, _⟩
    · exact .inr (by simp [Value.ownBlock])
    · refine .inr fun e => ?_
      have e' : g1 = g2 := by simpa [Value.ownBlock] using e
      subst e'
      rw [hh1] at hh2
      injection hh2 with hh2
      injection hh2 with _ hh2
      exact hne hh2
theorem OwnI.lt {w : World} {B : Nat} {v : Value} {xs : List Int} (h : OwnI w B v xs) : ∀ k, v.ownBlock = some k → B ≤ k ∧ k < w.heap.size := World.ownsRow.lt h
def TwAll (w : World) (B : Nat) (m : List PA) : Prop := ∀ x ∈ m, TwI w B x.A x.c x.p.body
theorem tw_step {w wr w6 w7 : World} {h B : Nat} {v v' u : Value} {m : List PA} {x : PA} {gt : TypeId} {gc gm : Array Value} {o1 o2 : Obj} {k k' : Nat} {cs' : List Value}
    (hB : B = h + 2) (hh : h = w.heap.size) (hwr : B ≤ wr.heap.size)
    (B2 : Below h w wr) (BG : Blk wr h gt gc) (BM : Blk wr (h + 1) gt gm) (O : wr.ownsRow B 38 3 v k (cellsPA m)) (X : TwAll wr B m)
    (hb : Below (wr.alloc o1).heap.size (wr.alloc o1) w6) (T : TwI w6 (wr.alloc o1).heap.size x.A x.c x.p.body)
    (hg : ((w6.setCell ⟨wr.heap.size, 1, none⟩ u).alloc o2).grownBy w7 v.ownBlock) (ho : w7.ownsRow B 38 3 v' k' cs') :
    Below h w w7 ∧ Blk w7 h gt gc ∧ Blk w7 (h + 1) gt gm ∧ TwAll w7 B (m ++ [x]) := by
  have hs1 : (wr.alloc o1).heap.size = wr.heap.size + 1 := by simp
  have O1 : (wr.alloc o1).ownsRow B 38 3 v k (cellsPA m) := O.alloc _
  have kept6 : ∀ {B' e s n : Nat} {v1 : Value} {xs : List Value}, (wr.alloc o1).ownsRow B' e s v1 n xs → w6.ownsRow B' e s v1 n xs := fun {B' e s n v1 xs} ho1 => by
    refine ⟨ho1.1, ?_⟩
    rcases ho1.2 with h0 | ⟨g, cap, cur, hv, hB', hhg, hr⟩
    · exact .inl h0
    · refine .inr ⟨g, cap, cur, hv, hB', ?_, hr⟩
      have := ho1.lt g (by rw [hv]; rfl)
      exact (hb.block g this.2).trans hhg
  have ltv : ∀ g, v.ownBlock = some g → B ≤ g ∧ g < wr.heap.size := O.lt
  have O6 := kept6 O1
  have nev : v.ownBlock ≠ some wr.heap.size := fun e => by have := (ltv _ e).2; omega
  have O6a : ((w6.setCell ⟨wr.heap.size, 1, none⟩ u).alloc o2).ownsRow B 38 3 v k (cellsPA m) := (O6.kept (grown_set _ _ _ _) (.inr nev)).alloc _
  have s6 := hb.size
  rw [hs1] at s6
  have hbB : Below h w ((w6.setCell ⟨wr.heap.size, 1, none⟩ u).alloc o2) := by
    have b1 : Below h w (wr.alloc o1) := B2.alloc (by omega) _
    have b2 : Below h w w6 := b1.trans (hb.mono (by rw [hs1]; omega))
    exact (b2.setCell (by show h ≤ wr.heap.size; omega) _).alloc (by simp; omega) _
  refine ⟨hbB.grown hg (by simp; omega) (fun b hb' => by have := (ltv b hb').1; omega), ?_, ?_, ?_⟩
  · have b1 := (BG.alloc o1).below hb (by rw [hs1]; omega)
    have b2 := (b1.far (p := ⟨wr.heap.size, 1, none⟩) (by show h ≠ wr.heap.size; omega) u).alloc o2
    exact b2.grown hg (fun e => by have := (ltv h e.symm).1; omega)
  · have b1 := (BM.alloc o1).below hb (by rw [hs1]; omega)
    have b2 := (b1.far (p := ⟨wr.heap.size, 1, none⟩) (by show h + 1 ≠ wr.heap.size; omega) u).alloc o2
    exact b2.grown hg (fun e => by have := (ltv (h + 1) e.symm).1; omega)
  · intro y hy
    rcases List.mem_append.1 hy with hy | hy
    · have t0 := X y hy
      have t1 : (wr.alloc o1).ownsRow B 3 1 _ _ _ := World.ownsRow.alloc t0 o1
      have t6 := kept6 t1
      have t6a := (World.ownsRow.kept t6 (grown_set w6 wr.heap.size 1 u) (.inr fun e => by have := (t0.lt _ e).2; omega)).alloc o2
      exact World.ownsRow.kept t6a hg (own_types t6a O6a (by decide))
    · rw [List.mem_singleton] at hy
      subst hy
      have t6a := (World.ownsRow.kept T (grown_set w6 wr.heap.size 1 u) (.inr fun e => by have := (OwnI.lt T _ e).1; rw [hs1] at this; omega)).alloc o2
      exact OwnI.mono (World.ownsRow.kept t6a hg (own_types t6a O6a (by decide))) (by rw [hs1]; omega)
end Go.Proofs.Ytofidghilcbegaa.H
namespace Go.Proofs.Ytofidghilcbegaa.H
open Go.RowKit
set_option linter.unusedVariables false
set_option linter.unusedSimpArgs false
structure TwG (w : World) (B : Nat) (g : Gr) (A : Option Addr) (c : Nat) : Prop where
  ex : ∃ m : List PA, m.map (·.p) = g.ps ∧ w.ownsRow B 38 3 (.slice A (m.length + 3) c) (m.length + 3) (cellsPA (m ++ mk3)) ∧ TwAll w B m
theorem own_below {w w' : World} {B e s n : Nat} {v : Value} {xs : List Value} (h : w.ownsRow B e s v n xs) (hb : Below w.heap.size w w') : w'.ownsRow B e s v n xs := by
  refine ⟨h.1, ?_⟩
  rcases h.2 with h0 | ⟨g, cap, cur, hv, hB', hhg, hr⟩
  · exact .inl h0
  · refine .inr ⟨g, cap, cur, hv, hB', ?_, hr⟩
    have := h.lt g (by rw [hv]; rfl)
    exact (hb.block g this.2).trans hhg
set_option maxRecDepth 100000 in
set_option maxHeartbeats 8000000 in
theorem twinGrammar_any (g : Gr) (A : Option Addr) (c : Nat) (w : World) (h : GrIn w g A c) (hn : g.ps.length ≤ 100000) (hbl : ∀ p ∈ g.ps, p.body.length ≤ 100000) :
    Calls Try.prog 15 #[grV g A c] w fun e w' => ∃ A' c', e = .returned (grV g A' c') ∧ TwG w' (w.heap.size + 2) g A' c' ∧ Below w.heap.size w w' := by
  have HR := Keep.mk h.r
  have HB := Keep.mk hbl
  clear h hbl
  obtain ⟨T, S, st, ps⟩ := g
  unfold grV at *
  dsimp only at *
  have hN := Keep.mk hn
  go_enter Try.func15, Try.ntmps15
  go_wp2
  obtain ⟨w0, hw0⟩ : ∃ w0 : World, w0 = (w.alloc (.cells #[.int .i64 T, .int .i64 S, .int .i64 st, .slice A ps.length c] 24)).alloc (.cells #[.int .i64 0, .int .i64 0, .int .i64 0, .slice none 0 0] 24) := ⟨_, rfl⟩
  rw [← hw0]
  have B0 : Keep (Below w.heap.size w w0) := ⟨by rw [hw0]; exact ((Below.refl _ _).alloc (Nat.le_refl _) _).alloc (by simp) _⟩
  have BG0 : Keep (Blk w0 w.heap.size 24 #[.int .i64 T, .int .i64 S, .int .i64 st, .slice A ps.length c]) := ⟨by rw [hw0]; exact (Blk.new _ _ _).alloc _⟩
  have BM0 : Keep (Blk w0 (w.heap.size + 1) 24 #[.int .i64 0, .int .i64 0, .int .i64 0, .slice none 0 0]) := ⟨by rw [hw0]; exact Blk.newAt (by simp)⟩
  have Z0 : Keep (w.heap.size + 2 ≤ w0.heap.size) := ⟨by rw [hw0]; simp⟩
  clear hw0
  go_loopg [3, 4, 5] ps.length (fun gg v i x5 wr => ∃ (k : Nat) (m : List PA), k ≤ ps.length ∧ ps.length - k ≤ gg ∧ i = .int .i64 k ∧ Keep (m.length = k) ∧ Keep (m.map (·.p) = ps.take k) ∧ Keep (wr.ownsRow (w.heap.size + 2) 38 3 v k (cellsPA m)) ∧
    Keep (TwAll wr (w.heap.size + 2) m) ∧ Keep (Below w.heap.size w wr) ∧ Keep (Blk wr w.heap.size 24 #[.int .i64 T, .int .i64 S, .int .i64 st, .slice A ps.length c]) ∧ Keep (Blk wr (w.heap.size + 1) 24 #[.int .i64 0, .int .i64 0, .int .i64 0, .slice none 0 0]) ∧ Keep (w.heap.size + 2 ≤ wr.heap.size))
  case atStart => exact ⟨0, [], Nat.zero_le _, by omega, rfl, ⟨rfl⟩, ⟨by simp⟩, ⟨World.ownsRow_nil _ _ _ _⟩, ⟨fun x hx => by cases hx⟩, B0, BG0, BM0, Z0⟩
  case round =>
    clear B0 BG0 BM0 Z0
    obtain ⟨k, m, hk, hgk, rfl, ML, HM, O2, X2, B2, BG, BM, ZZ⟩ := hrel
    have q3 := BG.out.cell 3
    simp at q3
    have n0 : w.heap.size < wr.heap.size := BG.out.lt
    have n1 : w.heap.size + 2 ≤ wr.heap.size := ZZ.out
    by_cases hlt : k < ps.length
    · obtain ⟨ad, xA, xc, rfl, nb, c0, c1, c2, hl, hr⟩ := HR.out k hlt
      have nb' : (ad.add (k * 3)).block < w.heap.size := by rw [add_block]; exact nb
      have hbx := HB.out _ (List.getElem_mem hlt)
      have HTk : Keep (ps.take (k + 1) = ps.take k ++ [ps[k]]) := ⟨List.take_succ_eq_append_getElem hlt⟩
      replace c0 := cell_below c0 B2.out nb'
      replace c1 := cell_below c1 B2.out (by exact nb')
      replace c2 := cell_below c2 B2.out (by exact nb')
      have n3 : (ad.add (k * 3)).block < wr.heap.size := by omega
      generalize hX : ps[k] = X at *
      clear hX
      obtain ⟨xh, xb, xr⟩ := X
      dsimp only at *
      have i1 : (0 : Int) ≤ k := by omega
      have i2 : (k : Int) < ps.length := by omega
      go_wp2_with fail
      refine (twinInts_any xA xc xb _ ((hr.below (B2.out.alloc B2.out.size _)).mono (by simp; omega)) (by omega) hl).mono ?_
      rintro e w6 ⟨A6, c6, rfl, T6, hb⟩
      have BX : Keep (Blk w6 wr.heap.size 38 #[.int .i64 xh, .slice xA xb.length xc, .bool xr]) := ⟨(Blk.new _ _ _).below hb (by simp)⟩
      have x0 := BX.out.cell 0
      have x1 := BX.out.cell 1
      have x2 := BX.out.cell 2
      have xf := BX.out.frozen 1
      simp at x0 x1 x2
      have n6 : wr.heap.size < w6.heap.size := BX.out.lt
      have T6k := Keep.mk T6
      have hbk := Keep.mk hb
      have O6 : Keep (w6.ownsRow (w.heap.size + 2) 38 3 u3 m.length (cellsPA m)) := ⟨by rw [ML.out]; exact own_below (O2.out.alloc _) hb⟩
      have ne6 : Keep (u3.ownBlock ≠ some wr.heap.size) := ⟨fun e => by have := (O2.out.lt _ e).2; omega⟩
      clear T6 hb c0 c1 c2 BX
      go_wp2_with (at_builtin; refine wpl_append_P _ rfl (.tmp 23) (.tmp 25) rfl (w.heap.size + 2) u3 m rfl ((O6.out.kept (grown_set _ _ _ _) (.inr ne6.out)).alloc _) w6.heap.size ⟨⟨xh, xb, xr⟩, A6, c6⟩ rfl ?c2 ?c3 ?c4 ?_)
      case c2 => exact cellsOne (t := 38) (Blk.newAt (by simp))
      case c3 => have := ML.out; have := hN.out; omega
      case c4 => simp; omega
      intro v' w7 ho hg
      have e1 : (m ++ [(⟨⟨xh, xb, xr⟩, A6, c6⟩ : PA)]).length = k + 1 := by rw [List.length_append, ML.out]; rfl
      have e2 : m.length + 1 = k + 1 := by rw [ML.out]
      simp only [List.length_append, List.length_singleton, e2] at ho
      clear e2
      obtain ⟨f1, f2, f3, f4⟩ := tw_step (x := ⟨⟨xh, xb, xr⟩, A6, c6⟩) rfl rfl n1 B2.out BG.out BM.out O2.out X2.out hbk.out T6k.out hg ho
      have F1 := Keep.mk f1
      have F2 := Keep.mk f2
      have F3 := Keep.mk f3
      have F4 := Keep.mk f4
      have F5 := Keep.mk ho
      have F6 : Keep ((m ++ [(⟨⟨xh, xb, xr⟩, A6, c6⟩ : PA)]).map (·.p) = ps.take (k + 1)) := ⟨by rw [HTk.out, List.map_append, HM.out]; rfl⟩
      have F7 : Keep (w.heap.size + 2 ≤ w7.heap.size) := ⟨by have := hg.size; simp at this; omega⟩
      have E1 := Keep.mk e1
      clear f1 f2 f3 f4 ho hg e1 O6 ne6 T6k hbk x0 x1 x2 xf q3
      go_wp2
      go_roundg (ps.length - (k + 1))
      case measure => omega
      case rel => exact ⟨k + 1, _, by omega, by omega, by go_num, E1, F6, F5, F4, F1, F2, F3, F7⟩
    · have ek : k = ps.length := by omega
      subst ek
      have HMa : Keep (m.map (·.p) = ps) := ⟨by rw [HM.out, List.take_length]⟩
      clear HM
      obtain ⟨wo, rfl⟩ : ∃ wo : World, wo = wr := ⟨_, rfl⟩
      go_wp2
      go_loopg [3, 6] 3 (fun gg v i wr => ∃ (j : Nat), j ≤ 3 ∧ 3 - j ≤ gg ∧ i = .int .i64 j ∧ Keep (wr.ownsRow (w.heap.size + 2) 38 3 v (ps.length + j) (cellsPA (m ++ mk3.take j))) ∧
        Keep (TwAll wr (w.heap.size + 2) m) ∧ Keep (Below w.heap.size w wr) ∧ Keep (Blk wr w.heap.size 24 #[.int .i64 T, .int .i64 S, .int .i64 st, .slice A ps.length c]) ∧ Keep (Blk wr (w.heap.size + 1) 24 #[.int .i64 0, .int .i64 0, .int .i64 0, .slice none 0 0]) ∧ Keep (w.heap.size + 2 ≤ wr.heap.size))
      case atStart => exact ⟨0, by omega, by omega, rfl, ⟨by simpa using O2.out⟩, X2, B2, BG, BM, ZZ⟩
      case round =>
        clear O2 X2 B2 BG BM ZZ q3 n0 n1
        obtain ⟨j, hj, hgj, rfl, O2, X2, B2, BG, BM, ZZ⟩ := hrel
        have n0 : w.heap.size < wr.heap.size := BG.out.lt
        have n1 : w.heap.size + 2 ≤ wr.heap.size := ZZ.out
        by_cases hlt3 : j < 3
        · have hst : Keep (mk3.take (j + 1) = mk3.take j ++ [mkP j]) := ⟨by
            have : j = 0 ∨ j = 1 ∨ j = 2 := by omega
            rcases this with rfl | rfl | rfl <;> rfl⟩
          have hln : Keep ((m ++ mk3.take j).length = ps.length + j) := ⟨by
            rw [List.length_append, ML.out, List.length_take]
            have : mk3.length = 3 := rfl
            omega⟩
          go_wp2_with (at_builtin; refine wpl_append_P _ rfl (.tmp 31) (.tmp 35) rfl (w.heap.size + 2) u3 (m ++ mk3.take j) rfl ?c1 wr.heap.size (mkP j) rfl ?c2 ?c3 ?c4 ?_)
          case c1 => rw [hln.out]; exact O2.out.alloc _
          case c2 => exact cellsOne (t := 38) (h := -7000 - (j : Int)) (b := []) (r := false) (A := none) (c := 0) (Blk.newAt rfl)
          case c3 => rw [hln.out]; have := hN.out; omega
          case c4 => simp; omega
          intro v' w7 ho hg
          have e1 : m.length + (min j mk3.length + 1) = ps.length + (j + 1) := by
            have : mk3.length = 3 := rfl
            have := ML.out
            omega
          rw [e1] at ho
          have ltv : ∀ g, u3.ownBlock = some g → w.heap.size + 2 ≤ g ∧ g < wr.heap.size := O2.out.lt
          have O3 : Keep (w7.ownsRow (w.heap.size + 2) 38 3 v' (ps.length + (j + 1)) (cellsPA (m ++ mk3.take (j + 1)))) := ⟨by rw [hst.out]; exact ho⟩
          have O2a := O2.out.alloc (.cells #[.int .i64 (-7000 - (j : Int)), .slice none 0 0, .bool false] 38)
          have X3 : Keep (TwAll w7 (w.heap.size + 2) m) := ⟨fun y hy => World.ownsRow.kept (World.ownsRow.alloc (X2.out y hy) _) hg (own_types (World.ownsRow.alloc (X2.out y hy) _) O2a (by decide))⟩
          have B3 : Keep (Below w.heap.size w w7) := ⟨(B2.out.alloc B2.out.size _).grown hg (by simp; omega) (fun b hb' => by have := (ltv b hb').1; omega)⟩
          have BG3 := Keep.mk ((BG.out.alloc _).grown hg (fun e => by have := (ltv _ e.symm).1; omega))
          have BM3 := Keep.mk ((BM.out.alloc _).grown hg (fun e => by have := (ltv _ e.symm).1; omega))
          have Z3 : Keep (w.heap.size + 2 ≤ w7.heap.size) := ⟨by have := hg.size; simp at this; omega⟩
          clear ho hg O2a O2 X2 B2 BG BM ZZ e1 ltv
          go_wp2
          go_roundg (3 - (j + 1))
          case measure => omega
          case rel => exact ⟨j + 1, by omega, by omega, by go_num, O3, X3, B3, BG3, BM3, Z3⟩
        · have ej : j = 3 := by omega
          subst ej
          have e3 : mk3.take 3 = mk3 := rfl
          have O3 := O2.out
          rw [e3] at O3
          obtain ⟨A', c', rfl⟩ := own_slice O3
          have hcap : ps.length + 3 ≤ c' := by
            rcases O3.2 with ⟨h, _⟩ | ⟨g, cap, cur, h, _, _, hnc, _⟩
            · injection h with _ h; omega
            · injection h with _ _ h; omega
          have q0 := BG.out.cell 0
          have q1 := BG.out.cell 1
          have q2 := BG.out.cell 2
          have q3 := BG.out.cell 3
          have qf := BG.out.frozen 3
          have m0 := BM.out.cell 0
          have m1 := BM.out.cell 1
          have m2 := BM.out.cell 2
          have m3 := BM.out.cell 3
          have mf0 := BM.out.frozen 0
          have mf1 := BM.out.frozen 1
          have mf2 := BM.out.frozen 2
          have mf3 := BM.out.frozen 3
          simp at q0 q1 q2 q3 m0 m1 m2 m3
          have n2 : w.heap.size + 1 < wr.heap.size := BM.out.lt
          have O3k := Keep.mk O3
          have hcap' : ps.length ≤ c' := by omega
          have hN2 : ps.length ≤ 9223372036854775807 := by have := hN.out; omega
          clear O3 O2
          have SB := Keep.mk ((((((B2.out.setCell (p := ⟨w.heap.size, 3, none⟩) (Nat.le_refl _) (.slice A' ps.length c')).setCell (p := ⟨w.heap.size + 1, 0, none⟩) (Nat.le_succ _) (.int .i64 T)).setCell (p := ⟨w.heap.size + 1, 1, none⟩) (Nat.le_succ _) (.int .i64 S)).setCell (p := ⟨w.heap.size + 1, 2, none⟩) (Nat.le_succ _) (.int .i64 st)).setCell (p := ⟨w.heap.size + 1, 3, none⟩) (Nat.le_succ _) (.slice A' ps.length c')))
          have SM := Keep.mk (((((BM.out.far (p := ⟨w.heap.size, 3, none⟩) (Nat.succ_ne_self _) (.slice A' ps.length c')).set_ 0 (.int .i64 T)).set_ 1 (.int .i64 S)).set_ 2 (.int .i64 st)).set_ 3 (.slice A' ps.length c'))
          have hk : ∀ {e s n : Nat} {v1 : Value} {xs : List Value}, wr.ownsRow (w.heap.size + 2) e s v1 n xs → (((((wr.setCell ⟨w.heap.size, 3, none⟩ (.slice A' ps.length c')).setCell ⟨w.heap.size + 1, 0, none⟩ (.int .i64 T)).setCell ⟨w.heap.size + 1, 1, none⟩ (.int .i64 S)).setCell ⟨w.heap.size + 1, 2, none⟩ (.int .i64 st)).setCell ⟨w.heap.size + 1, 3, none⟩ (.slice A' ps.length c')).ownsRow (w.heap.size + 2) e s v1 n xs := fun {e s n v1 xs} ho => by
            have n0 : v1.ownBlock ≠ some w.heap.size := fun e' => by have := (ho.lt _ e').1; omega
            have n1 : v1.ownBlock ≠ some (w.heap.size + 1) := fun e' => by have := (ho.lt _ e').1; omega
            exact ((((ho.kept (grown_set _ _ _ _) (.inr n0)).kept (grown_set _ _ _ _) (.inr n1)).kept (grown_set _ _ _ _) (.inr n1)).kept (grown_set _ _ _ _) (.inr n1)).kept (grown_set _ _ _ _) (.inr n1)
          have ST : Keep (TwG (((((wr.setCell ⟨w.heap.size, 3, none⟩ (.slice A' ps.length c')).setCell ⟨w.heap.size + 1, 0, none⟩ (.int .i64 T)).setCell ⟨w.heap.size + 1, 1, none⟩ (.int .i64 S)).setCell ⟨w.heap.size + 1, 2, none⟩ (.int .i64 st)).setCell ⟨w.heap.size + 1, 3, none⟩ (.slice A' ps.length c')) (w.heap.size + 2) ⟨T, S, st, ps⟩ A' c') := ⟨⟨m, HMa.out, by
            rw [ML.out]
            exact hk O3k.out, fun x hx => hk (X2.out x hx)⟩⟩
          simp at SM
          clear hk
          go_wp2
          refine bodyPost_ret (results_cell_row rfl _ _ (w.heap.size + 1) 24 #[.int .i64 T, .int .i64 S, .int .i64 st, .slice A' ps.length c'] (0, 0) _ rfl SM.out Try.underlying24 rfl (by kernel_rfl)) rfl ?_
          exact ⟨A', c', rfl, ST.out, SB.out⟩
end Go.Proofs.Ytofidghilcbegaa.H
namespace Go.Proofs.Ytofidghilcbegaa.H
open Go.RowKit
set_option linter.unusedVariables false
set_option linter.unusedSimpArgs false
set_option maxRecDepth 100000 in
set_option maxHeartbeats 8000000 in
theorem sameGrammar_true (g : Gr) (A1 A2 : Option Addr) (c1 c2 : Nat) (w : World) (h1 : GrIn w g A1 c1) (h2 : GrIn w g A2 c2) :
    Calls Try.prog 40 #[grV g A1 c1, grV g A2 c2] w fun e w' => e = .returned (.bool true) ∧ Below w.heap.size w w' := by
  have R1 := Keep.mk h1.r
  have R2 := Keep.mk h2.r
  have HB := Keep.mk h1.b
  have hN := h1.l2
  clear h1 h2
  obtain ⟨T, S, st, ps⟩ := g
  unfold grV at *
  dsimp only at *
  have B0 : Keep (Below w.heap.size w ((w.alloc (.cells #[.int .i64 T, .int .i64 S, .int .i64 st, .slice A1 ps.length c1] 24)).alloc (.cells #[.int .i64 T, .int .i64 S, .int .i64 st, .slice A2 ps.length c2] 24))) := ⟨((Below.refl _ _).alloc (Nat.le_refl _) _).alloc (by simp) _⟩
  have t1 : ((T : Int) != T) = false := by simp
  have t2 : ((S : Int) != S) = false := by simp
  have t3 : ((st : Int) != st) = false := by simp
  have t4 : ((ps.length : Int) != ps.length) = false := by simp
  go_enter Try.func40, Try.ntmps40
  go_wp2
  go_loopg [5, 6, 7] ps.length (fun gg i x6 x7 wr => ∃ k : Nat, k ≤ ps.length ∧ ps.length - k ≤ gg ∧ i = .int .i64 k ∧ Keep (Below w.heap.size w wr) ∧ Keep (Blk wr w.heap.size 24 #[.int .i64 T, .int .i64 S, .int .i64 st, .slice A1 ps.length c1]) ∧ Keep (Blk wr (w.heap.size + 1) 24 #[.int .i64 T, .int .i64 S, .int .i64 st, .slice A2 ps.length c2]))
  case atStart => exact ⟨0, Nat.zero_le _, by omega, rfl, B0, ⟨(Blk.new _ _ _).alloc _⟩, ⟨Blk.newAt (by simp)⟩⟩
  case round =>
    clear B0
    obtain ⟨k, hk, hgk, rfl, B2, G1, G2⟩ := hrel
    have q1 := G1.out.cell 3
    have q2 := G2.out.cell 3
    simp at q1 q2
    have n1 := G1.out.lt
    have n2 := G2.out.lt
    by_cases hlt : k < ps.length
    · obtain ⟨a1, x1, y1, rfl, nb1, c0, c1', c2', hl1, hr1⟩ := R1.out k hlt
      obtain ⟨a2, x2, y2, rfl, nb2, d0, d1, d2, hl2, hr2⟩ := R2.out k hlt
      have nb1' : (a1.add (k * 3)).block < w.heap.size := by rw [add_block]; exact nb1
      have nb2' : (a2.add (k * 3)).block < w.heap.size := by rw [add_block]; exact nb2
      have hbx := HB.out _ (List.getElem_mem hlt)
      replace c0 := cell_below c0 B2.out nb1'
      replace c1' := cell_below c1' B2.out (by exact nb1')
      replace c2' := cell_below c2' B2.out (by exact nb1')
      replace d0 := cell_below d0 B2.out nb2'
      replace d1 := cell_below d1 B2.out (by exact nb2')
      replace d2 := cell_below d2 B2.out (by exact nb2')
      have n3 : (a1.add (k * 3)).block < wr.heap.size := by omega
      have n4 : (a2.add (k * 3)).block < wr.heap.size := by omega
      have KS := Keep.mk fun W (hW : Below w.heap.size w W) => sameInts x1 x2 ps[k].body.length ps[k].body.length y1 y2 ps[k].body ps[k].body W rfl rfl hbx ((hr1.below hW).mono hW.size) ((hr2.below hW).mono hW.size)
      generalize hX : ps[k] = X at *
      clear hX hr1 hr2
      obtain ⟨xh, xb, xr⟩ := X
      dsimp only at *
      rw [decide_eq_true rfl] at KS
      have i1 : (0 : Int) ≤ k := by omega
      have i2 : (k : Int) < ps.length := by omega
      have t5 : ((xh : Int) != xh) = false := by simp
      go_upto_region 6 with fail
      go_cut [6, 7] (fun s6 s7 wx => ∃ g6 g7 : Nat, s6 = .pointer (some ⟨g6, 0, none⟩) ∧ s7 = .pointer (some ⟨g7, 0, none⟩) ∧ Keep (Blk wx g6 38 #[.int .i64 xh, .slice x1 xb.length y1, .bool xr]) ∧ Keep (Blk wx g7 38 #[.int .i64 xh, .slice x2 xb.length y2, .bool xr]) ∧ Keep (Below w.heap.size w wx) ∧
        Keep (Blk wx w.heap.size 24 #[.int .i64 T, .int .i64 S, .int .i64 st, .slice (some a1) ps.length c1]) ∧ Keep (Blk wx (w.heap.size + 1) 24 #[.int .i64 T, .int .i64 S, .int .i64 st, .slice (some a2) ps.length c2]))
      case first =>
        go_region
        all_goals (go_wp2_with fail; go_meet)
        all_goals have bs := B2.out.size
        all_goals first
          | exact ⟨_, _, rfl, rfl, ⟨((Blk.new _ _ _).alloc _).drew⟩, ⟨(Blk.newAt (by simp)).drew⟩, ⟨below_drew1 ((B2.out.alloc bs _).alloc (by simp; omega) _)⟩, ⟨((G1.out.alloc _).alloc _).drew⟩, ⟨((G2.out.alloc _).alloc _).drew⟩⟩
          | exact ⟨_, _, rfl, rfl, ⟨(Blk.newAt (by simp)).drew⟩, ⟨((Blk.new _ _ _).alloc _).drew⟩, ⟨below_drew1 ((B2.out.alloc bs _).alloc (by simp; omega) _)⟩, ⟨((G1.out.alloc _).alloc _).drew⟩, ⟨((G2.out.alloc _).alloc _).drew⟩⟩
      case rest =>
        obtain ⟨g6, g7, rfl, rfl, X6, X7, B3, G3, G4⟩ := hcut
        clear B2 G1 G2 q1 q2 c0 c1' c2' d0 d1 d2 n1 n2 n3 n4
        have p0 := X6.out.cell 0
        have p1 := X6.out.cell 1
        have p2 := X6.out.cell 2
        have r0 := X7.out.cell 0
        have r1 := X7.out.cell 1
        have r2 := X7.out.cell 2
        simp at p0 p1 p2 r0 r1 r2
        have m6 := X6.out.lt
        have m7 := X7.out.lt
        have KS2 := KS.out _ B3.out
        clear KS
        cases xr with
        | true =>
          go_wp2_with (go_at_call 20; refine KS2.mono ?_; rintro e w9 ⟨rfl, nq, rfl⟩)
          go_roundg (ps.length - (k + 1))
          case measure => omega
          case rel => exact ⟨k + 1, by omega, by omega, by go_num, ⟨below_drewN B3.out _⟩, ⟨G3.out.drewN _⟩, ⟨G4.out.drewN _⟩⟩
        | false =>
          go_wp2_with (go_at_call 20; refine KS2.mono ?_; rintro e w9 ⟨rfl, nq, rfl⟩)
          go_roundg (ps.length - (k + 1))
          case measure => omega
          case rel => exact ⟨k + 1, by omega, by omega, by go_num, ⟨below_drewN B3.out _⟩, ⟨G3.out.drewN _⟩, ⟨G4.out.drewN _⟩⟩
    · go_wp2
      go_ret
      exact ⟨rfl, B2.out⟩
theorem marks_get (k : Nat) (h : k < 3) : (l : List Int) → (l ++ marks)[l.length + k]? = some (-7000 - (k : Int)) := fun l => by
  rw [List.getElem?_append_right (by omega)]
  have : k = 0 ∨ k = 1 ∨ k = 2 := by omega
  rcases this with rfl | rfl | rfl <;> simp [marks]
set_option maxRecDepth 100000 in
set_option maxHeartbeats 4000000 in
theorem leftInts_true (At Al : Option Addr) (ct cl : Nat) (xs : List Int) (w : World) (hl : xs.length + 3 ≤ ct) (hct : ct ≤ 9223372036854775807) (h1 : Rd eI 1 w w.heap.size At (xs ++ marks)) (h2 : Rd eI 1 w w.heap.size Al xs) :
    Calls Try.prog 41 #[.slice At xs.length ct, .slice Al xs.length cl] w fun e w' => e = .returned (.bool true) ∧ ∃ n, w' = w.drewN n := by
  have R1 := Keep.mk h1
  have K1 := Keep.mk (sameInts At Al xs.length xs.length ct cl xs xs w rfl rfl (by omega) (by have := h1.take xs.length; rwa [List.take_left'] at this; rfl) h2)
  rw [decide_eq_true rfl] at K1
  clear h1 h2
  go_enter Try.func41, Try.ntmps41
  have u1 : decide (ct < xs.length + 3) = false := decide_eq_false (by omega)
  have u2 : decide ((ct : Int) < (xs.length : Int) + 3) = false := decide_eq_false (by omega)
  go_wp2_with (go_at_call 20; refine K1.out.mono ?_; rintro e w9 ⟨rfl, nq, rfl⟩)
  go_loopg [6] 3 (fun gg i wr => ∃ k : Nat, k ≤ 3 ∧ 3 - k ≤ gg ∧ i = .int .i64 k ∧ Keep (∃ n, wr = w.drewN n))
  case atStart => exact ⟨0, by omega, by omega, rfl, ⟨nq, rfl⟩⟩
  case round =>
    obtain ⟨k, hk, hg, rfl, HW⟩ := hrel
    obtain ⟨n, rfl⟩ := HW.out
    by_cases hlt : k < 3
    · obtain ⟨ad, rfl, hb, hc⟩ := R1.out.int (xs.length + k) (by simp [marks]; omega)
      have e := marks_get k hlt xs
      rw [List.getElem?_eq_getElem (by simp [marks]; omega)] at e
      injection e with e
      rw [e] at hc
      have i1 : (0 : Int) ≤ (xs.length : Int) + k := by omega
      have i2 : (xs.length : Int) + k < (xs.length : Int) + 3 := by omega
      have t5 : ((-7000 - (k : Int)) != (-7000 - (k : Int))) = false := by simp
      clear e
      go_wp2
      go_roundg (3 - (k + 1))
      case measure => omega
      case rel => exact ⟨k + 1, by omega, by omega, by go_num, ⟨n, rfl⟩⟩
    · go_wp2
      go_ret
      exact ⟨rfl, n, rfl⟩
theorem twG_open {w : World} {B : Nat} {g : Gr} {A : Option Addr} {c : Nat} (h : TwG w B g A c) (hn : ∀ p ∈ g.ps, p.body.length ≤ 100000) : ∃ gb : Nat, A = some ⟨gb, 0, none⟩ ∧ gb < w.heap.size ∧ g.ps.length + 3 ≤ c ∧ c ≤ 9223372036854775807 ∧ GrIn w g A c ∧
    (∀ j, j < 3 → w.cell? ⟨gb, (g.ps.length + j) * 3, none⟩ = some (.int .i64 (-7000 - (j : Int)))) ∧
    ∀ i (hi : i < g.ps.length), ∃ Ab cb, w.cell? ⟨gb, i * 3 + 1, none⟩ = some (.slice Ab g.ps[i].body.length cb) ∧ g.ps[i].body.length + 3 ≤ cb ∧ cb ≤ 9223372036854775807 ∧ Rd eI 1 w w.heap.size Ab (g.ps[i].body ++ marks) := by
  obtain ⟨⟨m, hm, ho, hx⟩⟩ := h
  have hml : m.length = g.ps.length := by rw [← hm]; simp
  rcases ho.2 with ⟨h0, h0'⟩ | ⟨gb, cap, cur, he, hB, hh, hnc, hcm, hcs, ht⟩
  · omega
  simp only [Value.slice.injEq] at he
  obtain ⟨rfl, _, rfl⟩ := he
  have hlt : gb < w.heap.size := by
    rcases Nat.lt_or_ge gb w.heap.size with h | h
    · exact h
    · rw [Array.getElem?_eq_none h] at hh; cases hh
  have hlen : (m ++ mk3).length = m.length + 3 := by simp [mk3]
  have cell : ∀ j u, (cellsPA (m ++ mk3))[j]? = some u → w.cell? ⟨gb, j, none⟩ = some u := by
    intro j u hu
    have hj : j < (m.length + 3) * 3 := by
      have := (List.getElem?_eq_some_iff.1 hu).1
      rw [cellsPA_length, hlen] at this
      exact this
    rw [cell_of_row w gb j cur _ _ hh, ← hu, ← ht, List.getElem?_take, if_pos hj]
    simp
  have body : ∀ i (hi : i < m.length), m[i].p.body.length + 3 ≤ m[i].c ∧ m[i].c ≤ 9223372036854775807 ∧ Rd eI 1 w w.heap.size m[i].A (m[i].p.body ++ marks) := by
    intro i hi
    obtain ⟨A', c', e, h1, h2, h3, _⟩ := OwnI.open_ (hx m[i] (List.getElem_mem hi))
    simp only [Value.slice.injEq] at e
    obtain ⟨rfl, hl, rfl⟩ := e
    rw [← hl] at h1
    exact ⟨h1, h2, h3⟩
  have prod : ∀ i (hi : i < m.length), w.cell? ⟨gb, i * 3, none⟩ = some (.int .i64 m[i].p.head) ∧ w.cell? ⟨gb, i * 3 + 1, none⟩ = some (.slice m[i].A m[i].p.body.length m[i].c) ∧ w.cell? ⟨gb, i * 3 + 2, none⟩ = some (.bool m[i].p.right) := by
    intro i hi
    obtain ⟨a0, a1, a2⟩ := cellsPA_at (m ++ mk3) i (by rw [hlen]; omega)
    simp only [List.getElem_append_left hi] at a0 a1 a2
    exact ⟨cell _ _ a0, cell _ _ a1, cell _ _ a2⟩
  refine ⟨gb, rfl, hlt, by omega, hcm, ⟨by omega, ?_, fun p hp => by have := hn p hp; omega, ?_⟩, fun j hj => ?_, fun i hi => ?_⟩
  · have := hcm; unfold maxLen at this; omega
  · intro i hi
    have hi' : i < m.length := by omega
    have e : g.ps[i] = m[i].p := by simp only [← hm, List.getElem_map]
    obtain ⟨p0, p1, p2⟩ := prod i hi'
    obtain ⟨b1, b2, b3⟩ := body i hi'
    refine ⟨⟨gb, 0, none⟩, m[i].A, m[i].c, rfl, hlt, ?_, ?_, ?_, by rw [e]; omega, ?_⟩
    · rw [addr_add0, e]; exact p0
    · rw [addr_add0, e]; exact p1
    · rw [addr_add0, e]; exact p2
    · rw [e]
      have := b3.take m[i].p.body.length
      rwa [List.take_left'] at this
      rfl
  · obtain ⟨a0, _, _⟩ := cellsPA_at (m ++ mk3) (m.length + j) (by rw [hlen]; omega)
    rw [← hml]
    have e : (m ++ mk3)[m.length + j]'(by rw [hlen]; omega) = mkP j := by
      rw [List.getElem_append_right (by omega)]
      have : j = 0 ∨ j = 1 ∨ j = 2 := by omega
      rcases this with rfl | rfl | rfl <;> simp [mk3]
    rw [e] at a0
    exact cell _ _ a0
  · have hi' : i < m.length := by omega
    have e : g.ps[i] = m[i].p := by simp only [← hm, List.getElem_map]
    obtain ⟨p0, p1, p2⟩ := prod i hi'
    obtain ⟨b1, b2, b3⟩ := body i hi'
    exact ⟨m[i].A, m[i].c, by rw [e]; exact p1, by rw [e]; exact b1, b2, by rw [e]; exact b3⟩
theorem quiet_add {P : Program} {f : FuncId} {args : Array Value} {w : World} {a n : Nat} {v : Value}
    (h : Calls P f args (w.drewN (a + n)) fun e w' => e = .returned v ∧ ∃ m, w' = (w.drewN (a + n)).drewN m) :
    Calls P f args (w.drewN (a + n)) fun e w'' => e = .returned v ∧ ∃ m, w'' = w.drewN (a + m) :=
  h.mono fun _ _ ⟨he, m, hm⟩ => ⟨he, n + m, by rw [hm, World.drewN_drewN, Nat.add_assoc]⟩
set_option maxRecDepth 100000 in
set_option maxHeartbeats 8000000 in
theorem leftGrammar_true (g : Gr) (A1 A2 : Option Addr) (c1 c2 B : Nat) (w : World) (h1 : TwG w B g A1 c1) (h2 : GrIn w g A2 c2) (hn : ∀ p ∈ g.ps, p.body.length ≤ 100000) :
    Calls Try.prog 17 #[grV g A1 c1, grV g A2 c2] w fun e w' => e = .returned (.bool true) ∧ Below w.heap.size w w' := by
  obtain ⟨gb, rfl, hgb, hc, hcm, hin, hmk, hbd⟩ := twG_open h1 hn
  have K1 := Keep.mk fun W (hW : Below w.heap.size w W) => sameGrammar_true g (some ⟨gb, 0, none⟩) A2 c1 c2 W (hin.below hW) (h2.below hW)
  have HM := Keep.mk hmk
  have HD := Keep.mk hbd
  have R2 := Keep.mk h2.r
  have hN := h2.l2
  clear h1 h2 hin hmk hbd hn
  obtain ⟨T, S, st, ps⟩ := g
  unfold grV at *
  dsimp only at *
  have B0 : Keep (Below w.heap.size w ((w.alloc (.cells #[.int .i64 T, .int .i64 S, .int .i64 st, .slice (some ⟨gb, 0, none⟩) ps.length c1] 24)).alloc (.cells #[.int .i64 T, .int .i64 S, .int .i64 st, .slice A2 ps.length c2] 24))) := ⟨((Below.refl _ _).alloc (Nat.le_refl _) _).alloc (by simp) _⟩
  have G1 : Keep (Blk ((w.alloc (.cells #[.int .i64 T, .int .i64 S, .int .i64 st, .slice (some ⟨gb, 0, none⟩) ps.length c1] 24)).alloc (.cells #[.int .i64 T, .int .i64 S, .int .i64 st, .slice A2 ps.length c2] 24)) w.heap.size 24 #[.int .i64 T, .int .i64 S, .int .i64 st, .slice (some ⟨gb, 0, none⟩) ps.length c1]) := ⟨(Blk.new _ _ _).alloc _⟩
  have G2 : Keep (Blk ((w.alloc (.cells #[.int .i64 T, .int .i64 S, .int .i64 st, .slice (some ⟨gb, 0, none⟩) ps.length c1] 24)).alloc (.cells #[.int .i64 T, .int .i64 S, .int .i64 st, .slice A2 ps.length c2] 24)) (w.heap.size + 1) 24 #[.int .i64 T, .int .i64 S, .int .i64 st, .slice A2 ps.length c2]) := ⟨Blk.newAt (by simp)⟩
  have u1 : decide ((c1 : Int) < (ps.length : Int) + 3) = false := decide_eq_false (by omega)
  have u2 : decide (c1 < ps.length + 3) = false := decide_eq_false (by omega)
  go_enter Try.func17, Try.ntmps17
  go_wp2_with fail
  refine (K1.out _ B0.out).mono ?_
  rintro e w1 ⟨rfl, hb⟩
  have B1 : Keep (Below w.heap.size w w1) := ⟨B0.out.trans (hb.mono (by simp; omega))⟩
  have H1 := Keep.mk (G1.out.below hb G1.out.lt)
  have H2 := Keep.mk (G2.out.below hb G2.out.lt)
  clear hb B0 G1 G2 K1
  have q1 := H1.out.cell 3
  have q2 := H2.out.cell 3
  simp at q1 q2
  have n1 := H1.out.lt
  have n2 := H2.out.lt
  go_wp2
  go_loopg [6] 3 (fun gg i wr => ∃ k : Nat, k ≤ 3 ∧ 3 - k ≤ gg ∧ i = .int .i64 k ∧ wr = w1)
  case atStart => exact ⟨0, by omega, by omega, rfl, rfl⟩
  case round =>
    obtain ⟨k, hk, hgk, rfl, rfl⟩ := hrel
    by_cases hlt : k < 3
    · have hc0 := cell_below (HM.out k hlt) B1.out hgb
      have i1 : (0 : Int) ≤ (ps.length : Int) + k := by omega
      have i2 : (ps.length : Int) + k < (ps.length : Int) + 3 := by omega
      have t5 : ((-7000 - (k : Int)) != (-7000 - (k : Int))) = false := by simp
      go_wp2
      go_roundg (3 - (k + 1))
      case measure => omega
      case rel => exact ⟨k + 1, by omega, by omega, by go_num, rfl⟩
    · obtain ⟨wo, rfl⟩ : ∃ wo : World, wo = wr := ⟨_, rfl⟩
      have hk3 : k = 3 := by omega
      subst hk3
      go_wp2
      go_loopg [7] ps.length (fun gg i wr => ∃ k : Nat, k ≤ ps.length ∧ ps.length - k ≤ gg ∧ i = .int .i64 k ∧ Keep (∃ n, wr = wo.drewN n))
      case atStart => exact ⟨0, Nat.zero_le _, by omega, rfl, ⟨0, rfl⟩⟩
      case round =>
        obtain ⟨i, hi, hgi, rfl, HW⟩ := hrel
        obtain ⟨nd, rfl⟩ := HW.out
        by_cases hlt : i < ps.length
        · obtain ⟨Ab, cb, d1, hcb, hcb2, hrb⟩ := HD.out i hlt
          obtain ⟨a2, x2, y2, rfl, nb2, e0, e1, e2, hl2, hr2⟩ := R2.out i hlt
          have nb2' : (a2.add (i * 3)).block < w.heap.size := by rw [add_block]; exact nb2
          replace d1 := cell_below d1 B1.out hgb
          replace e1 := cell_below e1 B1.out (by exact nb2')
          have KL := Keep.mk fun W (hW : Below w.heap.size w W) => leftInts_true Ab x2 cb y2 ps[i].body W hcb hcb2 ((hrb.below hW).mono hW.size) ((hr2.below hW).mono hW.size)
          clear hrb hr2 e0 e2
          generalize hX : ps[i] = X at *
          clear hX
          obtain ⟨xh, xb, xr⟩ := X
          dsimp only at *
          have i1 : (0 : Int) ≤ i := by omega
          have i2 : (i : Int) < ps.length := by omega
          go_wp2
          go_quiet ((go_at_call 41; exact quiet_add (KL.out _ (below_drewN B1.out _))))
          go_wp2
          go_roundg (ps.length - (i + 1))
          case measure => omega
          case rel => exact ⟨i + 1, by omega, by omega, by go_num, ⟨_, rfl⟩⟩
        · go_wp2
          go_ret
          exact ⟨rfl, below_drewN B1.out _⟩
end Go.Proofs.Ytofidghilcbegaa.H
set_option linter.unusedVariables false
set_option linter.unusedSimpArgs false
namespace Go.Proofs.YtofidghilcbegaaW.PrintWords
open Go.RowKit
structure Aside0 (p : Prop) : Prop where mk :: (out : p)
def rd (xs : List Int) (i : Int) : Int := xs.getD i.toNat 0
theorem below_alloc {w W : World} (h : Below w.heap.size w W) (o : Obj) : Below w.heap.size w (W.alloc o) := h.alloc h.size o
theorem below_drew {B : Nat} {w W : World} (h : Below B w W) : Below B w W.drew := ⟨h.os, h.tape, h.output, h.size, h.block⟩
theorem pw_below_drewN {B : Nat} {w W : World} (h : Below B w W) (n : Nat) : Below B w (W.drewN n) := ⟨h.os, h.tape, h.output, h.size, h.block⟩
theorem below_then {B : Nat} {w w1 w2 : World} (h : Below B w w1) (hB : B ≤ w1.heap.size) (k : Below w1.heap.size w1 w2) : Below B w w2 :=
  h.trans ⟨k.os, k.tape, k.output, k.size, fun i hi => k.block i (Nat.lt_of_lt_of_le hi hB)⟩
theorem pw_cell_below {w w1 : World} (h : Below w.heap.size w w1) {a : Addr} {v : Value} (hc : w.cell? a = some v) : w1.cell? a = some v := (h.cell (World.block_lt_of_cell? w a hc)).trans hc
theorem add_plain (g j : Nat) : (⟨g, 0, none⟩ : Addr).add j = ⟨g, j, none⟩ := by unfold Addr.add; split <;> simp_all
theorem own_base {w : World} {base : Nat} {e : TypeId} {size n : Nat} {v : Value} {xs : List Value} (h : w.ownsRow base e size v n xs) (k : Nat) (hk : v.ownBlock = some k) : base ≤ k := by
  rcases h.2 with ⟨rfl, _⟩ | ⟨g, cap, cur, rfl, hb, _⟩
  · simp [Value.ownBlock] at hk
  · have : g = k := by simpa [Value.ownBlock] using hk
    omega
theorem own_lt {w : World} {base : Nat} {e : TypeId} {size n : Nat} {v : Value} {xs : List Value} (h : w.ownsRow base e size v n xs) (k : Nat) (hk : v.ownBlock = some k) : k < w.heap.size := by
  rcases h.2 with ⟨rfl, _⟩ | ⟨g, cap, cur, rfl, hb, hh, _⟩
  · simp [Value.ownBlock] at hk
  · have : g = k := by simpa [Value.ownBlock] using hk
    subst this
    exact (Array.getElem?_eq_some_iff.1 hh).1
def Reps {α : Type} (R : α → List Value → Prop) (size : Nat) (ps : List α) (cs : List Value) : Prop :=
  cs.length = ps.length * size ∧ ∀ j p, ps[j]? = some p → R p ((cs.drop (j * size)).take size)
theorem Reps.imp_ {α : Type} {R R' : α → List Value → Prop} {size : Nat} {ps : List α} {cs : List Value} (h : Reps R size ps cs) (hR : ∀ p c, R p c → R' p c) : Reps R' size ps cs := ⟨h.1, fun j p hj => hR _ _ (h.2 j p hj)⟩
def ReadsRow {α : Type} (R : α → List Value → Prop) (size : Nat) (w : World) (A : Option Addr) (n : Nat) (ps : List α) : Prop :=
  ps.length = n ∧ n ≤ 9223372036854775807 ∧ (0 < n → ∃ ad, A = some ad ∧ ∀ j p, ps[j]? = some p → ∃ c, c.length = size ∧ R p c ∧ ∀ i u, c[i]? = some u → w.cell? (ad.add (j * size + i)) = some u)
theorem ReadsRow.get_ {α : Type} {R : α → List Value → Prop} {size : Nat} {w : World} {A : Option Addr} {n : Nat} {ps : List α} (h : ReadsRow R size w A n ps) (d : α) (i : Int) (h0 : 0 ≤ i) (h1 : i < n) :
    ∃ ad c, A = some ad ∧ c.length = size ∧ R (ps.getD i.toNat d) c ∧ ∀ j u, c[j]? = some u → w.cell? (ad.add (i.toNat * size + j)) = some u := by
  obtain ⟨ad, e, hc⟩ := h.2.2 (by omega)
  have hl : i.toNat < ps.length := by have := h.1; omega
  obtain ⟨c, hs, hr, hcell⟩ := hc i.toNat _ (List.getElem?_eq_getElem hl)
  refine ⟨ad, c, e, hs, ?_, hcell⟩
  rw [List.getD_eq_getElem?_getD, List.getElem?_eq_getElem hl]
  exact hr
theorem ReadsRow.imp_ {α : Type} {R R' : α → List Value → Prop} {size : Nat} {w w1 : World} {A : Option Addr} {n : Nat} {ps : List α} (h : ReadsRow R size w A n ps) (hb : Below w.heap.size w w1) (hR : ∀ p c, R p c → R' p c) : ReadsRow R' size w1 A n ps :=
  ⟨h.1, h.2.1, fun hn => by
    obtain ⟨ad, e, hc⟩ := h.2.2 hn
    refine ⟨ad, e, fun j p hj => ?_⟩
    obtain ⟨c, hs, hr, hcell⟩ := hc j p hj
    exact ⟨c, hs, hR _ _ hr, fun i u hu => pw_cell_below hb (hcell i u hu)⟩⟩
theorem own_reads_row {α : Type} {R : α → List Value → Prop} {w : World} {base n size : Nat} {e : TypeId} {v : Value} {ps : List α} {cs : List Value} (h : w.ownsRow base e size v n cs) (hR : Reps R size ps cs) (hn : ps.length = n) :
    ∃ A c, v = .slice A n c ∧ ReadsRow R size w A n ps := by
  rcases Nat.eq_zero_or_pos n with h0 | h0
  · rcases h.2 with ⟨rfl, rfl⟩ | ⟨g, cap, cur, rfl, _⟩
    · exact ⟨none, 0, rfl, hn, by omega, fun hp => absurd hp (by omega)⟩
    · exact ⟨_, cap, rfl, hn, by omega, fun hp => absurd hp (by omega)⟩
  · obtain ⟨g, cap, rfl, _, _⟩ := h.form h0
    have hm : n ≤ 9223372036854775807 := by
      rcases h.2 with ⟨_, h1⟩ | ⟨g', cap', cur, he, _, _, h1, h2, _⟩
      · omega
      · simp only [maxLen] at h2
        omega
    refine ⟨_, cap, rfl, hn, hm, fun _ => ⟨_, rfl, fun j p hj => ⟨(cs.drop (j * size)).take size, ?_, hR.2 j p hj, fun i u hu => ?_⟩⟩⟩
    · have hjl := (List.getElem?_eq_some_iff.1 hj).1
      have h1 : j * size + size ≤ cs.length := by rw [hR.1, ← Nat.succ_mul]; exact Nat.mul_le_mul_right _ hjl
      rw [List.length_take, List.length_drop]
      omega
    · refine h.cells (g := g) rfl _ u ?_
      rw [List.getElem?_take] at hu
      split at hu
      · rw [List.getElem?_drop] at hu
        exact hu
      · cases hu
theorem add_field (ad : Addr) (m j : Nat) (hj : 0 < j) : ad.add (m + j) = ⟨(ad.add m).block, (ad.add m).off + j, none⟩ := by
  unfold Addr.add
  by_cases hm : m = 0
  · subst hm
    simp [Nat.ne_of_gt hj]
  · simp [hm, Nat.add_assoc]
theorem own_ne {w : World} {base : Nat} {e t : TypeId} {size n g : Nat} {v : Value} {xs : List Value} {cs : Array Value} (h : w.ownsRow base e size v n xs) (hg : w.heap[g]? = some (.cells cs t (0, 0))) (hne : e ≠ t) : some g ≠ v.ownBlock := by
  rcases h.2 with ⟨rfl, _⟩ | ⟨g', cap, cur, rfl, _, hh, _⟩
  · simp [Value.ownBlock]
  · intro he
    have : g = g' := by simpa [Value.ownBlock] using he
    subst this
    rw [hg] at hh
    injection hh with hh
    injection hh with _ ht
    exact hne ht.symm
theorem blk_far {w : World} {g : Nat} {t : TypeId} {cs : Array Value} (h : w.heap[g]? = some (.cells cs t (0, 0))) {p : Addr} (hp : g ≠ p.block) (u : Value) : (w.setCell p u).heap[g]? = some (.cells cs t (0, 0)) := (Below.heap_setCell w p u g hp).trans h
theorem blk_lt {w : World} {g : Nat} {o : Obj} (h : w.heap[g]? = some o) : g < w.heap.size := (Array.getElem?_eq_some_iff.1 h).1
theorem blk_cell {w : World} {g : Nat} {t : TypeId} {cs : Array Value} (h : w.heap[g]? = some (.cells cs t (0, 0))) (i : Nat) : w.cell? ⟨g, i, none⟩ = cs[i]? := cell_of_row w g i cs t (0, 0) h
theorem blk_frozen {w : World} {g : Nat} {t : TypeId} {cs : Array Value} (h : w.heap[g]? = some (.cells cs t (0, 0))) (i : Nat) : w.frozen? ⟨g, i, none⟩ = false := by simp [World.frozen?, h]
theorem blk_grown {w w1 : World} {g : Nat} {o : Obj} {row : Option Nat} (h : w.heap[g]? = some o) (hg : w.grownBy w1 row) (hne : some g ≠ row) : w1.heap[g]? = some o := (hg.block g (blk_lt h) hne).trans h
def Ev {α : Type} (g : Nat → Option α) (r : α) : Prop := ∃ K, ∀ k, K ≤ k → g k = some r
theorem Ev.now {α : Type} (r : α) : Ev (fun _ => some r) r := ⟨0, fun _ _ => rfl⟩
theorem Ev.rounds {α : Type} {g : Nat → Option α} {r : α} (h : Ev g r) : ∃ k, g k = some r := by
  obtain ⟨K, h⟩ := h
  exact ⟨K, h K (Nat.le_refl _)⟩
theorem Ev.bind {α β : Type} {g : Nat → Option α} {f : Nat → α → Option β} {a : α} {r : β} (h : Ev g a) (k : Ev (fun n => f n a) r) : Ev (fun n => (g n).bind (f n)) r := by
  obtain ⟨K, h⟩ := h
  obtain ⟨K', k⟩ := k
  refine ⟨max K K', fun n hn => ?_⟩
  have h1 := h n (by omega)
  have h2 := k n (by omega)
  simp only [h1, Option.bind_some]
  exact h2
theorem Ev.step {α : Type} {g f : Nat → Option α} {r : α} (h : ∀ k, g (k + 1) = f k) (k : Ev f r) : Ev g r := by
  obtain ⟨K, k⟩ := k
  refine ⟨K + 1, fun n hn => ?_⟩
  obtain ⟨m, rfl⟩ : ∃ m, n = m + 1 := ⟨n - 1, by omega⟩
  rw [h]
  exact k m (by omega)
theorem Ev.congr {α : Type} {g f : Nat → Option α} {r : α} (h : ∀ k, g k = f k) (k : Ev f r) : Ev g r := by
  obtain ⟨K, k⟩ := k
  exact ⟨K, fun n hn => (h n).trans (k n hn)⟩
theorem own_weaken {w : World} {base base' : Nat} {e : TypeId} {size n : Nat} {v : Value} {xs : List Value} (h : w.ownsRow base e size v n xs) (hb : base' ≤ base) : w.ownsRow base' e size v n xs := by
  obtain ⟨h1, h2⟩ := h
  refine ⟨h1, ?_⟩
  rcases h2 with h2 | ⟨g, cap, cur, rfl, hg, r⟩
  · exact .inl h2
  · exact .inr ⟨g, cap, cur, rfl, Nat.le_trans hb hg, r⟩
section
variable {α : Type} {enc : α → Value} {d : α}
def encs (enc : α → Value) (xs : List α) : List Value := xs.map enc
def rdOf (d : α) (xs : List α) (i : Int) : α := xs.getD i.toNat d
theorem encs_length (xs : List α) : (encs enc xs).length = xs.length := by simp [encs]
theorem encs_get (xs : List α) (j : Nat) (h : j < xs.length) : (encs enc xs)[j]? = some (enc (xs.getD j d)) := by
  simp [encs, List.getElem?_eq_getElem h, List.getD_eq_getElem?_getD]
def ReadsOf (enc : α → Value) (d : α) (w : World) (A : Option Addr) (n : Nat) (xs : List α) : Prop :=
  xs.length = n ∧ n ≤ 9223372036854775807 ∧ (0 < n → ∃ ad, A = some ad ∧ ∀ j, j < n → w.cell? (ad.add j) = some (enc (xs.getD j d)))
theorem ReadsOf.at_ {w : World} {A : Option Addr} {n : Nat} {xs : List α} (h : ReadsOf enc d w A n xs) (i : Int) (h0 : 0 ≤ i) (h1 : i < n) : ∃ ad, A = some ad ∧ w.cell? (ad.add i.toNat) = some (enc (rdOf d xs i)) := by
  obtain ⟨ad, e, hc⟩ := h.2.2 (by omega)
  exact ⟨ad, e, hc _ (by omega)⟩
theorem own_at_of {W : World} {base g n cap : Nat} {e : TypeId} {xs : List α} (h : W.ownsRow base e 1 (.slice (some ⟨g, 0, none⟩) n cap) n (encs enc xs)) (i : Int) (h0 : 0 ≤ i) (h1 : i < n) :
    W.cell? ⟨g, i.toNat, none⟩ = some (enc (rdOf d xs i)) ∧ W.frozen? ⟨g, i.toNat, none⟩ = false := by
  have hl : xs.length = n := by have := h.1; simp [encs] at this; exact this
  constructor
  · have hc := h.cells (g := g) rfl i.toNat _ (encs_get (d := d) xs i.toNat (by omega))
    rwa [add_plain] at hc
  · rcases h.2 with ⟨h', _⟩ | ⟨g', cap', cur, h', _, hh, _⟩
    · cases h'
    · have : g = g' := by injection h' with h'; injection h' with h'; injection h' with h'
      subst this
      simp [World.frozen?, hh]
theorem own_store_of {W : World} {base g n cap : Nat} {e : TypeId} {xs : List α} (h : W.ownsRow base e 1 (.slice (some ⟨g, 0, none⟩) n cap) n (encs enc xs)) (i : Int) (x : α) :
    (W.setCell ⟨g, i.toNat, none⟩ (enc x)).ownsRow base e 1 (.slice (some ⟨g, 0, none⟩) n cap) n (encs enc (xs.set i.toNat x)) ∧ W.grownBy (W.setCell ⟨g, i.toNat, none⟩ (enc x)) (some g) := by
  have hs := h.stored i.toNat (enc x)
  have he : (encs enc xs).set i.toNat (enc x) = encs enc (xs.set i.toNat x) := by simp [encs, List.map_set]
  rwa [he] at hs
end
theorem blk_drew {w : World} {g : Nat} {o : Obj} (h : w.heap[g]? = some o) : w.drew.heap[g]? = some o := h
theorem blk_drewN {w : World} {g : Nat} {o : Obj} (h : w.heap[g]? = some o) (n : Nat) : (w.drewN n).heap[g]? = some o := h
theorem blk_below {w w1 : World} {g : Nat} {o : Obj} (h : w.heap[g]? = some o) (hb : Below w.heap.size w w1) : w1.heap[g]? = some o := (hb.block g (blk_lt h)).trans h
theorem blk_new (w : World) (o : Obj) : (w.alloc o).heap[w.heap.size]? = some o := heap_alloc_new w o
theorem own_le {w : World} {base n m c size : Nat} {e : TypeId} {A : Option Addr} {xs : List Value} (h : w.ownsRow base e size (.slice A m c) n xs) : m ≤ c := by
  rcases h.2 with ⟨he, _⟩ | ⟨g, cap, cur, he, _, _, hnc, _⟩
  · injection he with _ h2 h3
    omega
  · injection he with _ h2 h3
    omega
def OwnRow {α : Type} (R : α → List Value → Prop) (e : TypeId) (size : Nat) (w : World) (base : Nat) (v : Value) (ps : List α) : Prop :=
  ∃ inner, w.ownsRow base e size v ps.length inner ∧ Reps R size ps inner
section
variable {α : Type} {R R' : α → List Value → Prop} {e : TypeId} {size : Nat} {w w1 : World} {base : Nat} {v : Value} {ps : List α}
theorem OwnRow.imp_ (h : OwnRow R e size w base v ps) (hR : ∀ p c, R p c → R' p c) : OwnRow R' e size w base v ps := by
  obtain ⟨inner, ho, hr⟩ := h
  exact ⟨inner, ho, hr.imp_ hR⟩
theorem OwnRow.reads (h : OwnRow R e size w base v ps) : ∃ A c, v = .slice A ps.length c ∧ ps.length ≤ c ∧ ReadsRow R size w A ps.length ps := by
  obtain ⟨inner, ho, hr⟩ := h
  obtain ⟨A, c, rfl, hrow⟩ := own_reads_row ho hr rfl
  exact ⟨A, c, rfl, own_le ho, hrow⟩
theorem OwnRow.ne_block (h : OwnRow R e size w base v ps) {g : Nat} {t : TypeId} {cells : Array Value} (hb : w.heap[g]? = some (.cells cells t (0, 0))) (ht : e ≠ t) : some g ≠ v.ownBlock := by
  obtain ⟨inner, ho, hr⟩ := h
  exact own_ne ho hb ht
end
structure Kd (α : Type) where
  sz : Nat
  E : List Nat
  K : World → α → List Value → Prop
  M : World → Nat → (Nat → Prop) → α → List Value → Prop
  K_len : ∀ {w x cs}, K w x cs → cs.length = sz
  K_one : ∀ {w x cs}, K w x cs → ∀ u ∈ cs, u.oneCell' = true
  K_below : ∀ {w w1 : World} {x cs}, Below w.heap.size w w1 → K w x cs → K w1 x cs
  K_of_M : ∀ {w base ok x cs}, M w base ok x cs → K w x cs
  M_mono : ∀ {w base ok ok' x cs}, (∀ k, ok k → ok' k) → M w base ok x cs → M w base ok' x cs
  M_bound : ∀ {w : World} {base ok x cs}, M w base ok x cs → M w base (fun k => ok k ∧ base ≤ k ∧ k < w.heap.size ∧ ∃ q, q ∈ E ∧ ∃ cells, w.heap[k]? = some (.cells cells q (0, 0))) x cs
  M_move : ∀ {w w1 : World} {base ok x cs}, (∀ k, ok k → w1.heap[k]? = w.heap[k]?) → M w base ok x cs → M w1 base ok x cs
  M_lower : ∀ {w base base' ok x cs}, base' ≤ base → M w base ok x cs → M w base' ok x cs
theorem own_move {w w1 : World} {base : Nat} {e : TypeId} {size n : Nat} {v : Value} {xs : List Value} (h : w.ownsRow base e size v n xs) (hm : ∀ k, v.ownBlock = some k → w1.heap[k]? = w.heap[k]?) : w1.ownsRow base e size v n xs := by
  obtain ⟨h1, h2⟩ := h
  refine ⟨h1, ?_⟩
  rcases h2 with h2 | ⟨g, cap, cur, rfl, hg, hh, r⟩
  · exact .inl h2
  · exact .inr ⟨g, cap, cur, rfl, hg, (hm g (by simp [Value.ownBlock])).trans hh, r⟩
theorem own_typed {w : World} {base : Nat} {e : TypeId} {size n : Nat} {v : Value} {xs : List Value} (h : w.ownsRow base e size v n xs) (k : Nat) (hk : v.ownBlock = some k) : ∃ cells, w.heap[k]? = some (.cells cells e (0, 0)) := by
  rcases h.2 with ⟨rfl, _⟩ | ⟨g, cap, cur, rfl, hg, hh, r⟩
  · simp [Value.ownBlock] at hk
  · have : g = k := by simpa [Value.ownBlock] using hk
    subst this
    exact ⟨cur, hh⟩
namespace Kd
def C {α : Type} (d : Kd α) (w : World) (A : Option Addr) (n : Nat) (xs : List α) : Prop := ReadsRow (d.K w) d.sz w A n xs
def R {α : Type} (d : Kd α) (e : Nat) (w : World) (base : Nat) (ok : Nat → Prop) (v : Value) (xs : List α) : Prop :=
  (∀ k, v.ownBlock = some k → ok k) ∧ OwnRow (d.M w base (fun k => ok k ∧ some k ≠ v.ownBlock)) e d.sz w base v xs
section
variable {α : Type} {d : Kd α} {e : Nat} {w w1 : World} {base : Nat} {ok ok' : Nat → Prop} {v : Value} {xs : List α}
theorem C_below {A : Option Addr} {n : Nat} (h : d.C w A n xs) (hb : Below w.heap.size w w1) : d.C w1 A n xs := ReadsRow.imp_ h hb (fun _ _ hp => d.K_below hb hp)
theorem R_mono (h : d.R e w base ok v xs) (hok : ∀ k, ok k → ok' k) : d.R e w base ok' v xs := ⟨fun k hk => hok k (h.1 k hk), h.2.imp_ (fun _ _ hp => d.M_mono (fun k hk => ⟨hok k hk.1, hk.2⟩) hp)⟩
theorem R_bound (h : d.R e w base ok v xs) : d.R e w base (fun k => ok k ∧ base ≤ k ∧ k < w.heap.size ∧ ∃ q, q ∈ e :: d.E ∧ ∃ cells, w.heap[k]? = some (.cells cells q (0, 0))) v xs := by
  obtain ⟨h0, inner, ho, hr⟩ := h
  refine ⟨fun k hk => ?_, inner, ho, hr.imp_ (fun _ _ hp => d.M_mono (fun k hk => ?_) (d.M_bound hp))⟩
  · obtain ⟨cells, hc⟩ := own_typed ho k hk
    exact ⟨h0 k hk, own_base ho k hk, own_lt ho k hk, e, List.mem_cons_self, cells, hc⟩
  · obtain ⟨⟨h1, h2⟩, h3, h4, q, hq, hc⟩ := hk
    exact ⟨⟨h1, h3, h4, q, List.mem_cons_of_mem _ hq, hc⟩, h2⟩
theorem R_move (h : d.R e w base ok v xs) (hm : ∀ k, ok k → w1.heap[k]? = w.heap[k]?) : d.R e w1 base ok v xs := by
  obtain ⟨h0, inner, ho, hr⟩ := h
  exact ⟨h0, inner, own_move ho (fun k hk => hm k (h0 k hk)), hr.imp_ (fun _ _ hp => d.M_move (fun k hk => hm k hk.1) hp)⟩
theorem R_lower {base' : Nat} (h : d.R e w base ok v xs) (hb : base' ≤ base) : d.R e w base' ok v xs := by
  obtain ⟨h0, inner, ho, hr⟩ := h
  exact ⟨h0, inner, own_weaken ho hb, hr.imp_ (fun _ _ hp => d.M_lower hb hp)⟩
theorem R_step (h : d.R e w base ok v xs) (hm : ∀ k, ok k → k < w.heap.size → w1.heap[k]? = w.heap[k]?) : d.R e w1 base ok v xs :=
  R_mono (R_move (R_bound h) (fun k hk => hm k hk.1 hk.2.2.1)) (fun _ hk => hk.1)
theorem M_step {x : α} {cs : List Value} (h : d.M w base ok x cs) (hm : ∀ k, ok k → k < w.heap.size → w1.heap[k]? = w.heap[k]?) : d.M w1 base ok x cs :=
  d.M_mono (fun _ hk => hk.1) (d.M_move (fun k hk => hm k hk.1 hk.2.2.1) (d.M_bound h))
theorem R_below (h : d.R e w base ok v xs) (hb : Below w.heap.size w w1) : d.R e w1 base ok v xs := R_step h (fun k _ hk => hb.block k hk)
theorem M_below {x : α} {cs : List Value} (h : d.M w base ok x cs) (hb : Below w.heap.size w w1) : d.M w1 base ok x cs := M_step h (fun k _ hk => hb.block k hk)
theorem R_reads (h : d.R e w base ok v xs) : ∃ A c, v = .slice A xs.length c ∧ xs.length ≤ c ∧ d.C w A xs.length xs := by
  obtain ⟨A, c, he, hl, hr⟩ := OwnRow.reads h.2
  exact ⟨A, c, he, hl, hr.imp_ (Below.refl _ _) (fun _ _ hp => d.K_of_M hp)⟩
theorem R_slice (h : d.R e w base ok v xs) : ∃ A c, v = .slice A xs.length c := by
  obtain ⟨A, c, he, _⟩ := R_reads h
  exact ⟨A, c, he⟩
theorem R_own (h : d.R e w base ok v xs) : ∃ inner, w.ownsRow base e d.sz v xs.length inner := by
  obtain ⟨_, inner, ho, _⟩ := h
  exact ⟨inner, ho⟩
theorem R_ne (h : d.R e w base ok v xs) {g t : Nat} {cells : Array Value} (hb : w.heap[g]? = some (.cells cells t (0, 0))) (ht : e ≠ t) : some g ≠ v.ownBlock := OwnRow.ne_block h.2 hb ht
end
def scalar {α : Type} (enc : α → Value) (h1 : ∀ x, (enc x).oneCell' = true) : Kd α where
  sz := 1
  E := []
  K := fun _ x cs => cs = [enc x]
  M := fun _ _ _ x cs => cs = [enc x]
  K_len := fun h => by rw [h]; rfl
  K_one := fun h u hu => by
    rw [h] at hu
    rw [List.mem_singleton.1 hu]
    exact h1 _
  K_below := fun _ h => h
  K_of_M := fun h => h
  M_mono := fun _ h => h
  M_bound := fun h => h
  M_move := fun _ h => h
  M_lower := fun _ h => h
def int (k : IntKind) : Kd Int := scalar (Value.int k) (fun _ => rfl)
def bool : Kd Bool := scalar Value.bool (fun _ => rfl)
def slice {α : Type} (e : Nat) (d : Kd α) : Kd (List α) where
  sz := 1
  E := e :: d.E
  K := fun w xs cs => ∃ A c, cs = [.slice A xs.length c] ∧ xs.length ≤ c ∧ d.C w A xs.length xs
  M := fun w base ok xs cs => ∃ v, cs = [v] ∧ d.R e w base ok v xs
  K_len := by
    rintro w x cs ⟨A, c, rfl, _⟩
    rfl
  K_one := by
    rintro w x cs ⟨A, c, rfl, _⟩ u hu
    rw [List.mem_singleton.1 hu]
    rfl
  K_below := by
    rintro w w1 x cs hb ⟨A, c, rfl, hl, hr⟩
    exact ⟨A, c, rfl, hl, C_below hr hb⟩
  K_of_M := by
    rintro w base ok x cs ⟨v, rfl, h⟩
    obtain ⟨A, c, rfl, hl, hr⟩ := R_reads h
    exact ⟨A, c, rfl, hl, hr⟩
  M_mono := by
    rintro w base ok ok' x cs hok ⟨v, rfl, h⟩
    exact ⟨v, rfl, R_mono h hok⟩
  M_bound := by
    rintro w base ok x cs ⟨v, rfl, h⟩
    exact ⟨v, rfl, R_bound h⟩
  M_move := by
    rintro w w1 base ok x cs hm ⟨v, rfl, h⟩
    exact ⟨v, rfl, R_move h hm⟩
  M_lower := by
    rintro w base base' ok x cs hb ⟨v, rfl, h⟩
    exact ⟨v, rfl, R_lower h hb⟩
def pair {α β : Type} (a : Kd α) (b : Kd β) : Kd (α × β) where
  sz := a.sz + b.sz
  E := a.E ++ b.E
  K := fun w x cs => ∃ c0 c1, cs = c0 ++ c1 ∧ a.K w x.1 c0 ∧ b.K w x.2 c1
  M := fun w base ok x cs => ∃ c0 c1, cs = c0 ++ c1 ∧ a.M w base ok x.1 c0 ∧ b.M w base ok x.2 c1
  K_len := by
    rintro w x cs ⟨c0, c1, rfl, h0, h1⟩
    rw [List.length_append, a.K_len h0, b.K_len h1]
  K_one := by
    rintro w x cs ⟨c0, c1, rfl, h0, h1⟩ u hu
    rcases List.mem_append.1 hu with hu | hu
    · exact a.K_one h0 u hu
    · exact b.K_one h1 u hu
  K_below := by
    rintro w w1 x cs hb ⟨c0, c1, rfl, h0, h1⟩
    exact ⟨c0, c1, rfl, a.K_below hb h0, b.K_below hb h1⟩
  K_of_M := by
    rintro w base ok x cs ⟨c0, c1, rfl, h0, h1⟩
    exact ⟨c0, c1, rfl, a.K_of_M h0, b.K_of_M h1⟩
  M_mono := by
    rintro w base ok ok' x cs hok ⟨c0, c1, rfl, h0, h1⟩
    exact ⟨c0, c1, rfl, a.M_mono hok h0, b.M_mono hok h1⟩
  M_bound := by
    rintro w base ok x cs ⟨c0, c1, rfl, h0, h1⟩
    refine ⟨c0, c1, rfl, a.M_mono ?_ (a.M_bound h0), b.M_mono ?_ (b.M_bound h1)⟩
    · rintro k ⟨h2, h3, h4, q, hq, hc⟩
      exact ⟨h2, h3, h4, q, List.mem_append_left _ hq, hc⟩
    · rintro k ⟨h2, h3, h4, q, hq, hc⟩
      exact ⟨h2, h3, h4, q, List.mem_append_right _ hq, hc⟩
  M_move := by
    rintro w w1 base ok x cs hm ⟨c0, c1, rfl, h0, h1⟩
    exact ⟨c0, c1, rfl, a.M_move hm h0, b.M_move hm h1⟩
  M_lower := by
    rintro w base base' ok x cs hb ⟨c0, c1, rfl, h0, h1⟩
    exact ⟨c0, c1, rfl, a.M_lower hb h0, b.M_lower hb h1⟩
def iso {α β : Type} (d : Kd α) (f : β → α) : Kd β where
  sz := d.sz
  E := d.E
  K := fun w x cs => d.K w (f x) cs
  M := fun w base ok x cs => d.M w base ok (f x) cs
  K_len := d.K_len
  K_one := d.K_one
  K_below := d.K_below
  K_of_M := d.K_of_M
  M_mono := d.M_mono
  M_bound := d.M_bound
  M_move := d.M_move
  M_lower := d.M_lower
theorem C_get {α : Type} {d : Kd α} {w : World} {A : Option Addr} {n : Nat} {xs : List α} (h : d.C w A n xs) (z : α) (i : Int) (h0 : 0 ≤ i) (h1 : i < n) :
    ∃ ad c, A = some ad ∧ c.length = d.sz ∧ d.K w (xs.getD i.toNat z) c ∧ ∀ j u, c[j]? = some u → w.cell? (ad.add (i.toNat * d.sz + j)) = some u := ReadsRow.get_ h z i h0 h1
theorem reps_scalar {α : Type} {enc : α → Value} (xs : List α) : Reps (fun (x : α) (cs : List Value) => cs = [enc x]) 1 xs (encs enc xs) := by
  refine ⟨by simp [encs], fun j p hj => ?_⟩
  obtain ⟨hl, hp⟩ := List.getElem?_eq_some_iff.1 hj
  have hl' : j < (encs enc xs).length := by rw [encs_length]; exact hl
  rw [Nat.mul_one, List.drop_eq_getElem_cons hl']
  simp [encs, hp]
theorem R_of_own {α : Type} {enc : α → Value} {h1 : ∀ x, (enc x).oneCell' = true} {e : Nat} {w : World} {base : Nat} {ok : Nat → Prop} {v : Value} {xs : List α} (ho : w.ownsRow base e 1 v xs.length (encs enc xs)) (hok : ∀ k, v.ownBlock = some k → ok k) : (scalar enc h1).R e w base ok v xs := ⟨hok, encs enc xs, ho, reps_scalar xs⟩
theorem own_of_R {α : Type} {enc : α → Value} {h1 : ∀ x, (enc x).oneCell' = true} {e : Nat} {w : World} {base : Nat} {ok : Nat → Prop} {v : Value} {xs : List α} (h : (scalar enc h1).R e w base ok v xs) : w.ownsRow base e 1 v xs.length (encs enc xs) := by
  obtain ⟨_, inner, ho, hr⟩ := h
  have : inner = encs enc xs := by
    apply List.ext_getElem?
    intro j
    rcases Nat.lt_or_ge j xs.length with hj | hj
    · have h2 := hr.2 j _ (List.getElem?_eq_getElem hj)
      have hl : j < inner.length := by have := hr.1; simp [scalar] at this; omega
      have h3 : (inner.drop (j * 1)).take 1 = [enc xs[j]] := h2
      rw [Nat.mul_one, List.drop_eq_getElem_cons hl] at h3
      have h4 : inner[j] = enc xs[j] := by
        have h5 := congrArg List.head? h3
        rw [List.take_succ_cons] at h5
        exact Option.some.inj h5
      rw [List.getElem?_eq_getElem hl, h4]
      simp [encs, List.getElem?_eq_getElem hj]
    · have h3 : inner.length = xs.length := by have := hr.1; simp [scalar] at this; omega
      rw [List.getElem?_eq_none (by omega), List.getElem?_eq_none (by rw [encs_length]; omega)]
  rw [← this]
  exact ho
theorem reads_of_C {α : Type} {enc : α → Value} {d : α} {h1 : ∀ x, (enc x).oneCell' = true} {w : World} {A : Option Addr} {n : Nat} {xs : List α} (h : (scalar enc h1).C w A n xs) : ReadsOf enc d w A n xs := by
  refine ⟨h.1, h.2.1, fun hn => ?_⟩
  obtain ⟨ad, e, hc⟩ := h.2.2 hn
  refine ⟨ad, e, fun j hj => ?_⟩
  have hl : j < xs.length := by have := h.1; omega
  obtain ⟨c, _, hK, hcell⟩ := hc j _ (List.getElem?_eq_getElem hl)
  have hK' : c = [enc xs[j]] := hK
  subst hK'
  have := hcell 0 _ rfl
  simpa [scalar, List.getD_eq_getElem?_getD, List.getElem?_eq_getElem hl] using this
end Kd
namespace Kd
section
variable {α β : Type} {d : Kd α} {d' : Kd β} {e e' : Nat} {w w1 W : World} {base b b' : Nat} {ok ok' okv oku : Nat → Prop} {v u : Value} {xs : List α} {ys : List β}
theorem R_drew (h : d.R e w base ok v xs) : d.R e w.drew base ok v xs := R_below h (below_drew (Below.refl _ _))
theorem R_reads' {A : Option Addr} {n c : Nat} (h : d.R e w base ok (.slice A n c) xs) : n = xs.length ∧ n ≤ c ∧ d.C w A xs.length xs := by
  obtain ⟨A', c', he, hl, hr⟩ := R_reads h
  injection he with h1 h2 h3
  subst h1
  exact ⟨h2, by omega, hr⟩
theorem R_lt (h : d.R e w base ok v xs) : ∀ k, v.ownBlock = some k → k < w.heap.size := by
  obtain ⟨inner, ho⟩ := R_own h
  exact own_lt ho
theorem R_base (h : d.R e w base ok v xs) : ∀ k, v.ownBlock = some k → base ≤ k := by
  obtain ⟨inner, ho⟩ := R_own h
  exact own_base ho
theorem R_form (h : d.R e w base ok v xs) (hp : 0 < xs.length) : ∃ g cap, v = .slice (some ⟨g, 0, none⟩) xs.length cap ∧ base ≤ g ∧ g < w.heap.size ∧ ∃ cells, w.heap[g]? = some (.cells cells e (0, 0)) := by
  obtain ⟨inner, ho⟩ := R_own h
  obtain ⟨g, cap, he, hb, hl⟩ := ho.form hp
  obtain ⟨cells, hc⟩ := own_typed ho g (by rw [he]; simp [Value.ownBlock])
  exact ⟨g, cap, he, hb, hl, cells, hc⟩
end
section
variable {w W : World} {A : Option Addr} {n : Nat}
theorem at_int {k : IntKind} {xs : List Int} (h : (Kd.int k).C w A n xs) (i : Int) (h0 : 0 ≤ i) (h1 : i < n) : ∃ ad, A = some ad ∧ w.cell? (ad.add i.toNat) = some (.int k (rd xs i)) :=
  ReadsOf.at_ (reads_of_C (enc := Value.int k) (d := (0 : Int)) (h1 := fun _ => rfl) h) i h0 h1
theorem at_bool {xs : List Bool} (h : Kd.bool.C w A n xs) (i : Int) (h0 : 0 ≤ i) (h1 : i < n) : ∃ ad, A = some ad ∧ w.cell? (ad.add i.toNat) = some (.bool (rdOf false xs i)) :=
  ReadsOf.at_ (reads_of_C (enc := Value.bool) (d := false) (h1 := fun _ => rfl) h) i h0 h1
variable {α : Type} {enc : α → Value} {h1 : ∀ x, (enc x).oneCell' = true} {e base g cap : Nat} {ok : Nat → Prop} {xs : List α}
theorem R_cell (d : α) (h : (scalar enc h1).R e W base ok (.slice (some ⟨g, 0, none⟩) xs.length cap) xs) (i : Int) (h0 : 0 ≤ i) (hi : i < xs.length) : W.cell? ⟨g, i.toNat, none⟩ = some (enc (rdOf d xs i)) ∧ W.frozen? ⟨g, i.toNat, none⟩ = false := own_at_of (own_of_R h) i h0 hi
theorem R_put (h : (scalar enc h1).R e W base ok (.slice (some ⟨g, 0, none⟩) xs.length cap) xs) (i : Int) (x : α) : (scalar enc h1).R e (W.setCell ⟨g, i.toNat, none⟩ (enc x)) base ok (.slice (some ⟨g, 0, none⟩) xs.length cap) (xs.set i.toNat x) ∧ W.grownBy (W.setCell ⟨g, i.toNat, none⟩ (enc x)) (some g) := by
  obtain ⟨ho, hg⟩ := own_store_of (own_of_R h) i x
  exact ⟨R_of_own (by rw [List.length_set]; exact ho) h.1, hg⟩
end
section
variable {P : Program} {ops : Array Oper} {rest : List Oper} {o : Oper} {a : Act} {Q : Exit → Act → World → Prop}
theorem event_run {W w1 : World} {v : Value} (hgd : o.guard = none) (hrun : (execOp a.eval o).run P W = .ok (.value v) w1) (h : wpList P ops Q rest (a.put o.dst v) w1) : wpList P ops Q (o :: rest) a W := by
  refine wpList_plain hgd fun K hK => ?_
  unfold Oper.wp
  rw [hrun]
  exact hK _ _ h
variable {α : Type}
theorem R_lit (d : Kd α) {w0 W : World} (base e : Nat) (hgd : o.guard = none) {N : Tmp} (_hd : o.dst = some N) {xs : List α} {inner : List Value} {ok okp : Nat → Prop}
    (hrun : (execOp a.eval o).run P W = .ok (.value (.slice (some ⟨W.heap.size, 0, none⟩) xs.length xs.length)) (W.alloc (.cells inner.toArray e)))
    (hrep : Reps (d.M W base okp) d.sz xs inner) (hok : ∀ k, okp k → ok k) (hfresh : ok W.heap.size) (HB : Below base w0 W) (hbase : base ≤ W.heap.size) (hm : xs.length ≤ 9223372036854775807)
    (h : ∀ v1 w1, d.R e w1 base ok v1 xs → Below base w0 w1 → W.grownBy w1 none → (∃ b, v1.ownBlock = some b ∧ W.heap.size ≤ b) → wpList P ops Q rest (a.put o.dst v1) w1) : wpList P ops Q (o :: rest) a W := by
  refine event_run hgd hrun (h _ _ ⟨fun k hk => ?_, inner, ?_, ?_⟩ (HB.alloc hbase _) (World.grownBy_alloc W _ none) ⟨W.heap.size, by simp [Value.ownBlock], Nat.le_refl _⟩)
  · have : W.heap.size = k := by simpa [Value.ownBlock] using hk
    subst this
    exact hfresh
  · have h2 := World.ownsRow_lit (base := base) (e := e) (size := d.sz) W inner.toArray xs.length hbase (by simpa [maxLen] using hm) (by simpa using hrep.1)
    simpa using h2
  · refine hrep.imp_ (fun p c hp => d.M_mono (fun k hk => ⟨hok k hk.1, fun he => ?_⟩) (M_below (d.M_bound hp) (below_alloc (Below.refl _ _) _)))
    have h3 : k = W.heap.size := by simpa [Value.ownBlock] using he
    have := hk.2.2.1
    omega
theorem reps_made {α : Type} {R : α → List Value → Prop} {z : Value} {size : Nat} {z0 : α} (hz : z.cells.size = size) (hs : 0 < size) (h0 : R z0 z.cells.toList) (m : Nat) : Reps R size (List.replicate m z0) (madeCells z.cells (m * size)).toList := by
  refine ⟨by simp [size_madeCells], fun j p hj => ?_⟩
  obtain ⟨hjl, hp⟩ := List.getElem?_eq_some_iff.1 hj
  have hjm : j < m := by simpa using hjl
  have hp' : z0 = p := by simpa using hp
  subst hp'
  have hle : j * size + size ≤ m * size := by rw [← Nat.succ_mul]; exact Nat.mul_le_mul_right _ hjm
  have : ((madeCells z.cells (m * size)).toList.drop (j * size)).take size = z.cells.toList := by
    apply List.ext_getElem
    · simp [size_madeCells, hz]
      omega
    · intro i h1 h2
      have hi : i < size := by rw [Array.length_toList, hz] at h2; exact h2
      have hmod : (j * size + i) % size = i := by
        rw [Nat.mul_comm, Nat.mul_add_mod]
        exact Nat.mod_eq_of_lt hi
      simp [madeCells, hz, hmod]
      rw [getElem!_pos z.cells i (by omega)]
  rw [this]
  exact h0
theorem R_make (d : Kd α) {w0 W : World} (base e : Nat) (hgd : o.guard = none) {N : Tmp} (hd : o.dst = some N) (t : TypeId) (x y : Operand) (ho : o.op = .makeSlice t x y) (n : Int) (hx : a.eval x = .int .i64 n) (hy : a.eval y = .int .i64 n)
    (ht : P.underlying t = some (.slice e)) (z : Value) (bytes : Nat) (hinfo : (P.info? e).map (fun i => (i.zero, i.size, i.bytes)) = some (some z, d.sz, bytes)) (hz : z.cells.size = d.sz) (hs0 : 0 < d.sz) (hb0 : 0 < bytes)
    (z0 : α) {ok okp : Nat → Prop} (hzero : d.M W base okp z0 z.cells.toList) (hok : ∀ k, okp k → ok k) (hfresh : ok W.heap.size) (h0 : 0 ≤ n) (hl : n.toNat * bytes ≤ 281474976710656) (HB : Below base w0 W) (hbase : base ≤ W.heap.size)
    (h : ∀ v1 w1, d.R e w1 base ok v1 (List.replicate n.toNat z0) → Below base w0 w1 → W.grownBy w1 none → (∃ b, v1.ownBlock = some b ∧ W.heap.size ≤ b) → wpList P ops Q rest (a.put o.dst v1) w1) : wpList P ops Q (o :: rest) a W := by
  obtain ⟨m, rfl⟩ := Int.eq_ofNat_of_zero_le h0
  simp only [Int.toNat_natCast] at hl h
  obtain ⟨i0, hi, hzz⟩ := Option.map_eq_some_iff.1 hinfo
  simp only [Prod.mk.injEq] at hzz
  obtain ⟨hz0, hz1, hz2⟩ := hzz
  have hm : m ≤ 281474976710656 := Nat.le_trans (Nat.le_mul_of_pos_right _ hb0) hl
  have hr := run_make (P := P) W t e i0 z ht hi hz0 .i64 .i64 (m : Int) (m : Int) (by omega) (by omega)
    (by
      have h3 : ((i0.bytes * m : Nat) : Int) ≤ 281474976710656 := by rw [hz2, Nat.mul_comm]; omega
      rwa [Int.natCast_mul] at h3) (by omega)
  simp only [Int.toNat_natCast] at hr
  rw [hz1] at hr
  refine R_lit d base e hgd hd (xs := List.replicate m z0) (inner := (madeCells z.cells (m * d.sz)).toList) (okp := okp) (ok := ok) ?_ (reps_made hz hs0 hzero m) hok hfresh HB hbase (by simp; omega) h
  simp [execOp, ho, hx, hy, hr]
end
end Kd
namespace Kd
section
variable {α : Type} {d : Kd α} {e e' : Nat} {w w1 W : World} {base : Nat} {ok : Nat → Prop} {u v : Value} {xs : List α}
theorem R_elder' (hu : d.R e W base ok u xs) (hbase : ∀ k, v.ownBlock = some k → W.heap.size ≤ k) (hb : Below W.heap.size W w1) : d.R e w1 base (fun k => ok k ∧ some k ≠ v.ownBlock) u xs :=
  R_mono (R_move (R_bound hu) (fun k hk => hb.block k hk.2.2.1)) (fun k hk => ⟨hk.1, fun he => by have := hbase k he.symm; have := hk.2.2.1; omega⟩)
theorem R_new' (h : d.R e w1 W.heap.size ok v xs) (hlt : ∀ k, u.ownBlock = some k → k < W.heap.size) : d.R e w1 W.heap.size (fun k => ok k ∧ some k ≠ u.ownBlock) v xs :=
  R_mono (R_bound h) (fun k hk => ⟨hk.1, fun he => by have := hlt k he.symm; have := hk.2.1; omega⟩)
end
end Kd
theorem below_size {w W : World} (h : Below w.heap.size w W) : w.heap.size ≤ W.heap.size := h.size
theorem below_step {w W w2 : World} (h : Below w.heap.size w W) (k : Below W.heap.size W w2) : Below w.heap.size w w2 := below_then h h.size k
theorem below_set {w W : World} {g j : Nat} {v : Value} (h : Below w.heap.size w W) (hg : w.heap.size ≤ g) : Below w.heap.size w (W.setCell ⟨g, j, none⟩ v) := h.setCell hg _
theorem below_drew1 {base : Nat} {w W : World} (h : Below base w W) : Below base w W.drew := h.drew
section
variable {P : Program} {ops : Array Oper} {rest : List Oper} {o : Oper} {a : Act} {Q : Exit → Act → World → Prop}
theorem box_event {W : World} (hgd : o.guard = none) {N : Tmp} (_hd : o.dst = some N) {cs : Array Value} {t : TypeId}
    (hrun : (execOp a.eval o).run P W = .ok (.value (.pointer (some ⟨W.heap.size, 0, none⟩))) (W.alloc (.cells cs t (0, 0))))
    (h : ∀ g, g = W.heap.size → ∀ w1, w1.heap[g]? = some (.cells cs t (0, 0)) → Below W.heap.size W w1 → wpList P ops Q rest (a.put o.dst (.pointer (some ⟨g, 0, none⟩))) w1) : wpList P ops Q (o :: rest) a W :=
  Kd.event_run hgd hrun (h _ rfl _ (blk_new W _) (below_alloc (Below.refl _ _) _))
end
namespace Kd
section
variable {α : Type} {enc : α → Value} {h1 : ∀ x, (enc x).oneCell' = true} {e base g n cap : Nat} {ok : Nat → Prop} {W : World} {xs : List α}
theorem R_celln (d : α) (h : (scalar enc h1).R e W base ok (.slice (some ⟨g, 0, none⟩) n cap) xs) (i : Int) (h0 : 0 ≤ i) (hi : i < n) : W.cell? ⟨g, i.toNat, none⟩ = some (enc (rdOf d xs i)) ∧ W.frozen? ⟨g, i.toNat, none⟩ = false := by
  obtain ⟨rfl, _⟩ := R_reads' h
  exact R_cell d h i h0 hi
theorem R_putn (h : (scalar enc h1).R e W base ok (.slice (some ⟨g, 0, none⟩) n cap) xs) (i : Int) (x : α) : (scalar enc h1).R e (W.setCell ⟨g, i.toNat, none⟩ (enc x)) base ok (.slice (some ⟨g, 0, none⟩) n cap) (xs.set i.toNat x) := by
  obtain ⟨rfl, _⟩ := R_reads' h
  exact (R_put h i x).1
end
end Kd
section
variable {P : Program} {ops : Array Oper} {rest : List Oper} {o : Oper} {a : Act} {Q : Exit → Act → World → Prop}
theorem store_event {W w1 : World} (hgd : o.guard = none) {t : TypeId} {p : Tmp} {v : Operand} (_ho : o.op = .store t (.tmp p) v) (hN : o.dst = none)
    (hrun : (execOp a.eval o).run P W = .ok .skip w1) (h : ∀ w', w' = w1 → wpList P ops Q rest a w') : wpList P ops Q (o :: rest) a W := by
  refine wpList_plain hgd fun K hK => ?_
  unfold Oper.wp
  rw [hrun]
  show K (a.put o.dst undef) w1
  rw [hN]
  exact hK _ _ (h _ rfl)
end
namespace Kd
section
variable {α : Type} {enc : α → Value} {h1 : ∀ x, (enc x).oneCell' = true} {e base g n cap : Nat} {ok : Nat → Prop} {W : World} {xs : List α}
theorem R_putg (h : (scalar enc h1).R e W base ok (.slice (some ⟨g, 0, none⟩) n cap) xs) (i : Int) (x : α) : (scalar enc h1).R e (W.setCell ⟨g, i.toNat, none⟩ (enc x)) base ok (.slice (some ⟨g, 0, none⟩) n cap) (xs.set i.toNat x) ∧ W.grownBy (W.setCell ⟨g, i.toNat, none⟩ (enc x)) (some g) := by
  obtain ⟨rfl, _⟩ := R_reads' h
  exact R_put h i x
end
end Kd
section
variable {P : Program} {ops : Array Oper} {rest : List Oper} {o : Oper} {a : Act} {Q : Exit → Act → World → Prop} {W : World}
theorem gate_dst {N : Tmp} (_hN : o.dst = some N) (h : wpList P ops Q (o :: rest) a W) : wpList P ops Q (o :: rest) a W := h
theorem gate_store {t : TypeId} {p : Tmp} {v : Operand} (_ho : o.op = .store t (.tmp p) v) (h : wpList P ops Q (o :: rest) a W) : wpList P ops Q (o :: rest) a W := h
end
end Go.Proofs.YtofidghilcbegaaW.PrintWords
