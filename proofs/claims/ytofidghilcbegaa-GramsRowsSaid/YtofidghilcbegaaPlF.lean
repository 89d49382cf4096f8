/-
  Plain laws: what First and Follow come to, as least relations over the productions. No program in sight.
-/
import Derived.Test.YtofidghilcbegaaFlA
namespace Go.Proofs.Ytofidghilcbegaa.H
open Go.RowKit
set_option linter.unusedVariables false
set_option linter.unusedSimpArgs false

/-- A loop that goes round while something was new. -/
def goes {α : Type} (more : α → Bool) (round : α → α) : Nat → α → α
  | 0, u => u
  | k + 1, u => if more u then goes more round k (round u) else u
theorem goes_end {α : Type} (more : α → Bool) (round : α → α) (μ : α → Nat) (I : α → Prop) (hI : ∀ u, I u → I (round u)) (hμ : ∀ u, I u → more (round u) = true → μ (round u) < μ u) :
    ∀ k u, I u → μ u < k → more u = true → ∃ v, I v ∧ goes more round k u = round v ∧ more (round v) = false := by
  intro k
  induction k with
  | zero => intro u _ h _; omega
  | succ k ih =>
    intro u hu hk hm
    unfold goes
    rw [if_pos hm]
    cases h : more (round u) with
    | false =>
      refine ⟨u, hu, ?_, h⟩
      cases k with
      | zero => rfl
      | succ k => unfold goes; rw [if_neg (by simp [h])]
    | true => exact ih (round u) (hI u hu) (by have := hμ u hu h; omega) h
theorem firstLoop_goes (ps : List Pr) (k : Nat) : ∀ u, firstLoop ps k u = goes Fi.more (firstRound ps) k u := by
  induction k with
  | zero => intro u; rfl
  | succ k ih => intro u; simp only [firstLoop, goes]; split <;> simp [ih]
theorem followLoop_goes (F : List Nat) (ps : List Pr) (k : Nat) : ∀ u, followLoop F ps k u = goes Fi.more (followRound F ps) k u := by
  induction k with
  | zero => intro u; rfl
  | succ k ih => intro u; simp only [followLoop, goes]; split <;> simp [ih]

/-! ### gn and set -/
theorem gn_set {m : List Nat} {i : Int} {x : Nat} (hi : 0 ≤ i) (h : i.toNat < m.length) (s : Int) (hs : 0 ≤ s) : gn (m.set i.toNat x) s = if s = i then x else gn m s := by
  unfold gn
  rw [List.getD_eq_getElem?_getD, List.getD_eq_getElem?_getD, List.getElem?_set]
  by_cases e : s = i
  · subst e; simp [h]
  · have : ¬ i.toNat = s.toNat := by omega
    simp [this, e]

/-! ### First -/
/-- A symbol's rows begin with a terminal. -/
inductive Beg (T : Nat) (ps : List Pr) : Int → Nat → Prop where
  | term {t : Nat} (h : t < T) : Beg T ps t t
  | head {p : Pr} {t : Nat} {y : Int} (hp : p ∈ ps) (hy : p.body[0]? = some y) (h : Beg T ps y t) : Beg T ps p.head t
theorem Beg.mono {T : Nat} {ps qs : List Pr} (h : ∀ p ∈ ps, p ∈ qs) {s : Int} {t : Nat} (hb : Beg T ps s t) : Beg T qs s t := by
  induction hb with
  | term h => exact .term h
  | head hp hy _ ih => exact .head (h _ hp) hy ih
theorem Beg.lt {T : Nat} {ps : List Pr} {s : Int} {t : Nat} (hb : Beg T ps s t) : t < T := by
  induction hb with
  | term h => exact h
  | head _ _ _ ih => exact ih

theorem firstX_some {m : List Nat} {p : Pr} {y : Int} (hy : p.body[0]? = some y) : firstX m p = (gn m p.head ||| gn m y) := by
  unfold firstX
  rw [List.getD_eq_getElem?_getD, hy]; rfl
/-- Where nothing was new, nothing has changed, and nothing would be. -/
theorem firstAll_still (l : List Pr) : ∀ u : Fi, (l.foldl firstIn u).more = false → u.more = false ∧ (l.foldl firstIn u).m = u.m ∧ ∀ p ∈ l, firstX u.m p = gn u.m p.head := by
  induction l with
  | nil => intro u h; exact ⟨h, rfl, by simp⟩
  | cons p l ih =>
    intro u h
    obtain ⟨h1, h2, h3⟩ := ih (firstIn u p) h
    have e : firstX u.m p = gn u.m p.head := by
      apply Classical.byContradiction
      intro hc
      unfold firstIn at h1
      rw [if_neg hc] at h1
      cases h1
    have e2 : firstIn u p = u := by unfold firstIn; rw [if_pos e]
    rw [e2] at h1 h2 h3
    refine ⟨h1, by rw [List.foldl_cons, e2]; exact h2, fun q hq => ?_⟩
    rcases List.mem_cons.1 hq with rfl | hq
    · exact e
    · exact h3 q hq
structure FirstI (T n : Nat) (ps : List Pr) (u : Fi) : Prop where
  l : u.m.length = n
  b : ∀ x ∈ u.m, x < 2 ^ 64
  t : ∀ t : Nat, t < T → (gn u.m t).testBit t = true
  s : ∀ s : Int, 0 ≤ s → s.toNat < n → ∀ t, (gn u.m s).testBit t = true → Beg T ps s t
theorem firstIn_I {T n : Nat} {ps : List Pr} {u : Fi} {p : Pr} (hp : p ∈ ps) (hin : PrIn n p) (hne : 0 < p.body.length) (h : FirstI T n ps u) : FirstI T n ps (firstIn u p) := by
  have hle := firstIn_le (p := p) h.l h.b hin.2.1
  obtain ⟨y, hy⟩ : ∃ y, p.body[0]? = some y := ⟨_, List.getElem?_eq_getElem hne⟩
  have hym : y ∈ p.body := List.mem_of_getElem? hy
  have hyn := hin.2.2 y hym
  by_cases e : firstX u.m p = gn u.m p.head
  · have e2 : firstIn u p = u := by unfold firstIn; rw [if_pos e]
    rw [e2]; exact h
  · have e2 : firstIn u p = ⟨u.m.set p.head.toNat (firstX u.m p), true⟩ := by unfold firstIn; rw [if_neg e]
    refine ⟨hle.c, hle.b, fun t ht => ?_, fun s hs hsn t ht => ?_⟩
    · rw [e2]
      dsimp only
      rw [gn_set hin.1 (by rw [h.l]; exact hin.2.1) _ (by omega)]
      split
      · rename_i e3
        rw [firstX_some hy, Nat.testBit_or, ← e3, h.t t ht, Bool.true_or]
      · exact h.t t ht
    · rw [e2] at ht
      dsimp only at ht
      rw [gn_set hin.1 (by rw [h.l]; exact hin.2.1) _ hs] at ht
      split at ht
      · rename_i e3
        rw [firstX_some hy, Nat.testBit_or, Bool.or_eq_true] at ht
        rcases ht with h1 | h1
        · rw [e3]; exact h.s p.head hin.1 hin.2.1 t h1
        · rw [e3]; exact .head hp hy (h.s y hyn.1 hyn.2 t h1)
      · exact h.s s hs hsn t ht
theorem firstAll_I {T n : Nat} {ps : List Pr} (l : List Pr) (hl : ∀ p ∈ l, p ∈ ps) (hin : ∀ p ∈ ps, PrIn n p) (hne : ∀ p ∈ ps, 0 < p.body.length) : ∀ u : Fi, FirstI T n ps u → FirstI T n ps (l.foldl firstIn u) := by
  induction l with
  | nil => intro u h; exact h
  | cons p l ih =>
    intro u h
    exact ih (fun q hq => hl q (by simp [hq])) _ (firstIn_I (hl p (by simp)) (hin p (hl p (by simp))) (hne p (hl p (by simp))) h)
theorem gn_first0 {T n : Nat} (s : Int) (hs : 0 ≤ s) : gn ((List.range T).map (fun s => 2 ^ s) ++ List.replicate (n - T) 0) s = if s.toNat < T then 2 ^ s.toNat else 0 := by
  unfold gn
  rw [List.getD_eq_getElem?_getD]
  by_cases h : s.toNat < T
  · rw [List.getElem?_append_left (by simpa using h)]
    simp [h]
  · rw [List.getElem?_append_right (by simpa using h)]
    simp only [List.length_map, List.length_range, h, if_false, List.getElem?_replicate]
    split <;> rfl

/-- What is asked of a grammar for First and Follow to be told. -/
structure GrFit (g : Gr) : Prop where
  ok : GrOk g
  ne : ∀ p ∈ g.ps, 0 < p.body.length
theorem GrFit.pin {g : Gr} (h : GrFit g) : ∀ p ∈ g.ps, PrIn g.S.toNat p := by
  intro p hp
  have h1 := h.ok.pr p hp
  have h2 := h.ok.t0
  have h3 := h.ok.s0
  exact ⟨by omega, by omega, fun s hs => by have := h1.2.2 s hs; omega⟩

theorem first_spec {g : Gr} (h : GrFit g) : (firstEnd g).length = g.S.toNat ∧ (∀ x ∈ firstEnd g, x < 2 ^ 64) ∧
    ∀ s : Int, 0 ≤ s → s < g.S → ∀ t, (gn (firstEnd g) s).testBit t = true ↔ Beg g.T.toNat g.ps s t := by
  have hT := h.ok.t1
  have hS := h.ok.s0
  have hT0 := h.ok.t0
  have hpin := h.pin
  have I0 : FirstI g.T.toNat g.S.toNat g.ps ⟨first0 g, true⟩ := by
    refine ⟨by simp [first0]; omega, first0_lt _ _ (by omega), fun t ht => ?_, fun s hs hsn t ht => ?_⟩
    · unfold first0
      dsimp only
      rw [gn_first0 _ (by omega), if_pos (by simpa using ht)]
      simp [Nat.testBit_two_pow]
    · unfold first0 at ht
      dsimp only at ht
      rw [gn_first0 _ hs] at ht
      split at ht
      · rename_i h1
        rw [Nat.testBit_two_pow] at ht
        simp at ht
        subst ht
        have := Beg.term (ps := g.ps) h1
        rwa [Int.toNat_of_nonneg hs] at this
      · simp at ht
  have hround : ∀ u, FirstI g.T.toNat g.S.toNat g.ps u → FirstI g.T.toNat g.S.toNat g.ps (firstRound g.ps u) :=
    fun u hu => firstAll_I g.ps (fun _ h => h) hpin h.ne _ ⟨hu.l, hu.b, hu.t, hu.s⟩
  obtain ⟨v, hv, e, hm⟩ := goes_end Fi.more (firstRound g.ps) (fun u => lack u.m) (FirstI g.T.toNat g.S.toNat g.ps) hround
    (fun u hu hm => (firstRound_le (n := g.S.toNat) hu.l hu.b (fun p hp => (hpin p hp).2.1)).2.2 hm) (64 * g.S.toNat + 1) ⟨first0 g, true⟩ I0
    (by have := lack_le (first0 g); have h1 := I0.l; dsimp only at h1 ⊢; rw [h1] at this; omega) rfl
  have hend : firstEnd g = (firstRound g.ps v).m := by unfold firstEnd; rw [firstLoop_goes, e]
  obtain ⟨_, h2, h3⟩ := firstAll_still g.ps ⟨v.m, false⟩ hm
  have hfin := hround v hv
  have hsame : firstEnd g = v.m := by rw [hend]; exact h2
  refine ⟨by rw [hend]; exact hfin.l, by rw [hend]; exact hfin.b, fun s hs hsS t => ⟨fun ht => ?_, fun ht => ?_⟩⟩
  · rw [hend] at ht
    exact hfin.s s hs (by omega) t ht
  · rw [hsame]
    have : ∀ s t, Beg g.T.toNat g.ps s t → (gn v.m s).testBit t = true := by
      intro s t hb
      induction hb with
      | term h => exact hv.t _ h
      | head hp hy _ ih =>
        have := h3 _ hp
        rw [firstX_some hy] at this
        dsimp only at this
        rw [← this, Nat.testBit_or, ih, Bool.or_true]
    exact this s t ht
end Go.Proofs.Ytofidghilcbegaa.H
