/-
  Plain laws: what Follow comes to.
-/
import Derived.Test.YtofidghilcbegaaPlF
namespace Go.Proofs.Ytofidghilcbegaa.H
open Go.RowKit
set_option linter.unusedVariables false
set_option linter.unusedSimpArgs false

/-- A terminal (or T, the end) follows a symbol. -/
inductive Fol (T : Nat) (st : Int) (ps : List Pr) : Int → Nat → Prop where
  | start : Fol T st ps st T
  | next {p : Pr} {k : Nat} {y z : Int} {t : Nat} (hp : p ∈ ps) (hy : p.body[k]? = some y) (hz : p.body[k + 1]? = some z) (h : Beg T ps z t) : Fol T st ps y t
  | last {p : Pr} {k : Nat} {y : Int} {t : Nat} (hp : p ∈ ps) (hy : p.body[k]? = some y) (hl : p.body.length ≤ k + 1) (h : Fol T st ps p.head t) : Fol T st ps y t
theorem Fol.mono {T : Nat} {st : Int} {ps qs : List Pr} (h : ∀ p ∈ ps, p ∈ qs) {s : Int} {t : Nat} (hb : Fol T st ps s t) : Fol T st qs s t := by
  induction hb with
  | start => exact .start
  | next hp hy hz hb => exact .next (h _ hp) hy hz (hb.mono h)
  | last hp hy hl _ ih => exact .last (h _ hp) hy hl ih
theorem Fol.le {T : Nat} {st : Int} {ps : List Pr} {s : Int} {t : Nat} (hb : Fol T st ps s t) : t ≤ T := by
  induction hb with
  | start => exact Nat.le_refl _
  | next hp hy hz hb => exact Nat.le_of_lt hb.lt
  | last hp hy hl _ ih => exact ih

theorem getD_of {l : List Int} {k : Nat} {y : Int} (h : l[k]? = some y) : l.getD k 0 = y := by rw [List.getD_eq_getElem?_getD, h]; rfl
theorem followX_next {F m : List Nat} {p : Pr} {k : Nat} {z : Int} (hz : p.body[k + 1]? = some z) : followX F p m k = gn F z := by
  have hlt : k + 1 < p.body.length := (List.getElem?_eq_some_iff.1 hz).1
  unfold followX
  rw [if_pos hlt, getD_of hz]
theorem followX_last {F m : List Nat} {p : Pr} {k : Nat} (hl : p.body.length ≤ k + 1) : followX F p m k = gn m p.head := by
  unfold followX
  rw [if_neg (by omega)]
def FolStill (F m : List Nat) (p : Pr) (k : Nat) : Prop := (followX F p m k ||| gn m (p.body.getD k 0)) = gn m (p.body.getD k 0)
theorem followBody_still {F : List Nat} {p : Pr} (l : List Nat) : ∀ u : Fi, (l.foldl (followIn F p) u).more = false → u.more = false ∧ (l.foldl (followIn F p) u).m = u.m ∧ ∀ k ∈ l, FolStill F u.m p k := by
  induction l with
  | nil => intro u h; exact ⟨h, rfl, by simp⟩
  | cons k l ih =>
    intro u h
    obtain ⟨h1, h2, h3⟩ := ih (followIn F p u k) h
    have e : FolStill F u.m p k := by
      apply Classical.byContradiction
      intro hc
      unfold followIn at h1
      unfold FolStill at hc
      rw [if_neg hc] at h1
      cases h1
    have e2 : followIn F p u k = u := by unfold followIn; unfold FolStill at e; rw [if_pos e]
    rw [e2] at h1 h2 h3
    refine ⟨h1, by rw [List.foldl_cons, e2]; exact h2, fun q hq => ?_⟩
    rcases List.mem_cons.1 hq with rfl | hq
    · exact e
    · exact h3 q hq
theorem followAll_still {F : List Nat} (l : List Pr) : ∀ u : Fi, (l.foldl (followBody F) u).more = false → u.more = false ∧ (l.foldl (followBody F) u).m = u.m ∧ ∀ p ∈ l, ∀ k, k < p.body.length → FolStill F u.m p k := by
  induction l with
  | nil => intro u h; exact ⟨h, rfl, by simp⟩
  | cons p l ih =>
    intro u h
    obtain ⟨h1, h2, h3⟩ := ih (followBody F u p) h
    obtain ⟨k1, k2, k3⟩ := followBody_still (List.range p.body.length) u h1
    have em : (followBody F u p).m = u.m := k2
    refine ⟨k1, by rw [List.foldl_cons, h2, em], fun q hq => ?_⟩
    rcases List.mem_cons.1 hq with rfl | hq
    · exact fun k hk => k3 k (List.mem_range.2 hk)
    · rw [em] at h3; exact h3 q hq
structure FolI (T n : Nat) (st : Int) (ps : List Pr) (u : Fi) : Prop where
  l : u.m.length = n
  b : ∀ x ∈ u.m, x < 2 ^ 64
  t : (gn u.m st).testBit T = true
  s : ∀ s : Int, 0 ≤ s → s.toNat < n → ∀ t, (gn u.m s).testBit t = true → Fol T st ps s t
def FirstOf (T n : Nat) (ps : List Pr) (F : List Nat) : Prop := (∀ x ∈ F, x < 2 ^ 64) ∧ ∀ s : Int, 0 ≤ s → s.toNat < n → ∀ t, (gn F s).testBit t = true ↔ Beg T ps s t
theorem followIn_I {T n : Nat} {st : Int} {ps : List Pr} {F : List Nat} {u : Fi} {p : Pr} {k : Nat} (hF : FirstOf T n ps F) (hst : 0 ≤ st) (hp : p ∈ ps) (hin : PrIn n p) (hk : k < p.body.length) (h : FolI T n st ps u) : FolI T n st ps (followIn F p u k) := by
  have hy : p.body[k]? = some p.body[k] := List.getElem?_eq_getElem hk
  have hyn := hin.2.2 _ (List.getElem_mem hk)
  have hg := getD_of hy
  have hle := followIn_le (p := p) (k := k) hF.1 h.l h.b (by rw [hg]; exact hyn.2)
  generalize p.body[k] = y at *
  by_cases e : (followX F p u.m k ||| gn u.m (p.body.getD k 0)) = gn u.m (p.body.getD k 0)
  · have e2 : followIn F p u k = u := by unfold followIn; rw [if_pos e]
    rw [e2]; exact h
  · have e2 : followIn F p u k = ⟨u.m.set y.toNat (gn u.m y ||| followX F p u.m k), true⟩ := by unfold followIn; rw [if_neg e, hg]
    have hX : ∀ t, (followX F p u.m k).testBit t = true → Fol T st ps y t := by
      intro t ht
      by_cases hl : k + 1 < p.body.length
      · have hz : p.body[k + 1]? = some p.body[k + 1] := List.getElem?_eq_getElem hl
        have hzn := hin.2.2 _ (List.getElem_mem hl)
        rw [followX_next hz] at ht
        exact .next hp hy hz ((hF.2 _ hzn.1 hzn.2 t).1 ht)
      · rw [followX_last (by omega)] at ht
        exact .last hp hy (by omega) (h.s p.head hin.1 hin.2.1 t ht)
    refine ⟨hle.c, hle.b, ?_, fun s hs hsn t ht => ?_⟩
    · rw [e2]
      dsimp only
      rw [gn_set hyn.1 (by rw [h.l]; exact hyn.2) _ hst]
      split
      · rename_i e3
        rw [Nat.testBit_or, ← e3, h.t, Bool.true_or]
      · exact h.t
    · rw [e2] at ht
      dsimp only at ht
      rw [gn_set hyn.1 (by rw [h.l]; exact hyn.2) _ hs] at ht
      split at ht
      · rename_i e3
        rw [Nat.testBit_or, Bool.or_eq_true] at ht
        rcases ht with h1 | h1
        · rw [e3]; exact h.s y hyn.1 hyn.2 t h1
        · rw [e3]; exact hX t h1
      · exact h.s s hs hsn t ht
theorem followBody_I {T n : Nat} {st : Int} {ps : List Pr} {F : List Nat} {p : Pr} (hF : FirstOf T n ps F) (hst : 0 ≤ st) (hp : p ∈ ps) (hin : PrIn n p) (l : List Nat) (hl : ∀ k ∈ l, k < p.body.length) : ∀ u : Fi, FolI T n st ps u → FolI T n st ps (l.foldl (followIn F p) u) := by
  induction l with
  | nil => intro u h; exact h
  | cons k l ih => intro u h; exact ih (fun q hq => hl q (by simp [hq])) _ (followIn_I hF hst hp hin (hl k (by simp)) h)
theorem followAll_I {T n : Nat} {st : Int} {ps : List Pr} {F : List Nat} (hF : FirstOf T n ps F) (hst : 0 ≤ st) (l : List Pr) (hl : ∀ p ∈ l, p ∈ ps) (hin : ∀ p ∈ ps, PrIn n p) : ∀ u : Fi, FolI T n st ps u → FolI T n st ps (l.foldl (followBody F) u) := by
  induction l with
  | nil => intro u h; exact h
  | cons p l ih =>
    intro u h
    exact ih (fun q hq => hl q (by simp [hq])) _ (followBody_I hF hst (hl p (by simp)) (hin p (hl p (by simp))) (List.range p.body.length) (fun k hk => List.mem_range.1 hk) u h)
theorem gn_replicate (n : Nat) (s : Int) : gn (List.replicate n 0) s = 0 := by
  unfold gn
  rw [List.getD_eq_getElem?_getD, List.getElem?_replicate]
  split <;> rfl

theorem follow_spec {g : Gr} (h : GrFit g) : (followEnd g).length = g.S.toNat ∧ (∀ x ∈ followEnd g, x < 2 ^ 64) ∧
    ∀ s : Int, 0 ≤ s → s < g.S → ∀ t, (gn (followEnd g) s).testBit t = true ↔ Fol g.T.toNat g.st g.ps s t := by
  obtain ⟨f1, f2, f3⟩ := first_spec h
  have hT := h.ok.t1
  have hS := h.ok.s0
  have hT0 := h.ok.t0
  have hst0 := h.ok.st0
  have hst1 := h.ok.st1
  have hpin := h.pin
  have hF : FirstOf g.T.toNat g.S.toNat g.ps (firstEnd g) := ⟨f2, fun s hs hsn t => f3 s hs (by omega) t⟩
  have hst : 0 ≤ g.st := by omega
  have I0 : FolI g.T.toNat g.S.toNat g.st g.ps ⟨follow0 g, true⟩ := by
    refine ⟨by simp [follow0], set_lt (fun x hx => by have := (List.mem_replicate.1 hx).2; omega) _ _ (Nat.pow_lt_pow_right (by decide) (by omega)), ?_, fun s hs hsn t ht => ?_⟩
    · unfold follow0
      dsimp only
      rw [gn_set hst (by simp; omega) _ hst, if_pos rfl]
      simp [Nat.testBit_two_pow]
    · unfold follow0 at ht
      dsimp only at ht
      rw [gn_set hst (by simp; omega) _ hs] at ht
      split at ht
      · rename_i e
        rw [Nat.testBit_two_pow] at ht
        simp at ht
        subst ht
        rw [e]
        exact .start
      · rw [gn_replicate] at ht
        simp at ht
  have hround : ∀ u, FolI g.T.toNat g.S.toNat g.st g.ps u → FolI g.T.toNat g.S.toNat g.st g.ps (followRound (firstEnd g) g.ps u) :=
    fun u hu => followAll_I hF hst g.ps (fun _ h => h) hpin _ ⟨hu.l, hu.b, hu.t, hu.s⟩
  obtain ⟨v, hv, e, hm⟩ := goes_end Fi.more (followRound (firstEnd g) g.ps) (fun u => lack u.m) (FolI g.T.toNat g.S.toNat g.st g.ps) hround
    (fun u hu hm => (followRound_le (n := g.S.toNat) f2 hu.l hu.b hpin).2.2 hm) (64 * g.S.toNat + 1) ⟨follow0 g, true⟩ I0
    (by have := lack_le (follow0 g); have h1 := I0.l; dsimp only at h1 ⊢; rw [h1] at this; omega) rfl
  have hend : followEnd g = (followRound (firstEnd g) g.ps v).m := by unfold followEnd; rw [followLoop_goes, e]
  obtain ⟨_, h2, h3⟩ := followAll_still g.ps ⟨v.m, false⟩ hm
  have hfin := hround v hv
  have hsame : followEnd g = v.m := by rw [hend]; exact h2
  refine ⟨by rw [hend]; exact hfin.l, by rw [hend]; exact hfin.b, fun s hs hsS t => ⟨fun ht => ?_, fun ht => ?_⟩⟩
  · rw [hend] at ht
    exact hfin.s s hs (by omega) t ht
  · rw [hsame]
    have : ∀ s t, Fol g.T.toNat g.st g.ps s t → (gn v.m s).testBit t = true := by
      intro s t hb
      induction hb with
      | start => exact hv.t
      | @next p k y z t hp hy hz hb =>
        have hk : k < p.body.length := (List.getElem?_eq_some_iff.1 hy).1
        have hzm := (hpin p hp).2.2 z (List.mem_of_getElem? hz)
        have := h3 p hp k hk
        unfold FolStill at this
        rw [followX_next hz, getD_of hy] at this
        dsimp only at this
        rw [← this, Nat.testBit_or, (hF.2 z hzm.1 hzm.2 t).2 hb, Bool.true_or]
      | @last p k y t hp hy hl _ ih =>
        have hk : k < p.body.length := (List.getElem?_eq_some_iff.1 hy).1
        have := h3 p hp k hk
        unfold FolStill at this
        rw [followX_last hl, getD_of hy] at this
        dsimp only at this
        rw [← this, Nat.testBit_or, ih, Bool.true_or]
    exact this s t ht
end Go.Proofs.Ytofidghilcbegaa.H
