import Derived.Test.YtadabkkkalgehaaDv
/-
  derive: what a symbol becomes is parted by a body; of a piece of a row.
-/
namespace Go.Proofs.Ytadabkkkalgehaa.H
set_option linter.unusedVariables false
set_option linter.unusedSimpArgs false

/-- A piece of a row. -/
def sub (row : List Int) (f t : Nat) : List Int := (row.take t).drop f
theorem sub_len {row : List Int} {f t : Nat} (ht : t ≤ row.length) : (sub row f t).length = t - f := by simp [sub]; omega
theorem sub_get {row : List Int} {f t i : Nat} (hi : i < t - f) : (sub row f t)[i]? = row[i + f]? := by
  unfold sub
  rw [List.getElem?_drop, List.getElem?_take, if_pos (by omega), Nat.add_comm]
theorem sub_take {row : List Int} {f t c : Nat} (hc : f + c ≤ t) : (sub row f t).take c = sub row f (f + c) := by
  unfold sub
  rw [List.take_drop, List.take_take]
  congr 2
  omega
theorem sub_drop {row : List Int} {f t c : Nat} : (sub row f t).drop c = sub row (f + c) t := by
  unfold sub
  rw [List.drop_drop]
theorem sub_all (row : List Int) : sub row 0 row.length = row := by simp [sub]
/-- Of a piece the counts are the row's. -/
theorem cnt_shift {g : Gr} {row row' : List Int} {o : Nat} (h : ∀ i, i < row'.length → row'[i]? = row[i + o]?) : ∀ n, (∀ s f t, t ≤ row'.length → (cnt g row' n).1 s f t = (cnt g row n).1 s (f + o) (t + o)) ∧ (∀ p d f t, t ≤ row'.length → (cnt g row' n).2 p d f t = (cnt g row n).2 p d (f + o) (t + o)) := by
  intro n
  induction n with
  | zero => exact ⟨fun _ _ _ _ => rfl, fun _ _ _ _ _ => rfl⟩
  | succ n ih =>
    obtain ⟨ih1, ih2⟩ := ih
    constructor
    · intro s f t ht
      show symEq g row' (cnt g row' n).2 s f t = symEq g row (cnt g row n).2 s (f + o) (t + o)
      unfold symEq
      by_cases hs : s < g.T
      · rw [if_pos hs, if_pos hs]
        by_cases he : t = f + 1
        · rw [h f (by omega)]
          subst he
          have : f + 1 + o = f + o + 1 := by omega
          simp only [this, true_and]
        · rw [if_neg (fun h => he h.1), if_neg (fun h => he (by omega))]
      · rw [if_neg hs, if_neg hs]
        congr 1
        apply List.map_congr_left
        intro p _
        rw [ih2 p 0 f t ht]
    · intro p d f t ht
      show bodyEq g (cnt g row' n).1 (cnt g row' n).2 p d f t = bodyEq g (cnt g row n).1 (cnt g row n).2 p d (f + o) (t + o)
      unfold bodyEq
      have e1 : t + o - (f + o) = t - f := by omega
      rw [e1]
      by_cases h1 : t - f < (bodyAt g p).length - d
      · rw [if_pos h1, if_pos h1]
      rw [if_neg h1, if_neg h1]
      by_cases h2 : (bodyAt g p).length - d = 0
      · rw [if_pos h2, if_pos h2]
        by_cases e : f = t
        · rw [if_pos e, if_pos (by omega)]
        · rw [if_neg e, if_neg (by omega)]
      rw [if_neg h2, if_neg h2]
      by_cases h3 : (bodyAt g p).length - d = 1
      · rw [if_pos h3, if_pos h3, ih1 _ f t ht]
      rw [if_neg h3, if_neg h3]
      have e2 : t + o + 1 - ((bodyAt g p).length - d) - (f + o) = t + 1 - ((bodyAt g p).length - d) - f := by omega
      rw [e2]
      congr 1
      apply List.map_congr_left
      intro i hi
      have hi' := List.mem_range.1 hi
      rw [ih1 _ f (f + 1 + i) (by omega), ih2 p (d + 1) (f + 1 + i) t ht, show f + 1 + i + o = f + o + 1 + i from by omega]
theorem numS_sub {g : Gr} {row : List Int} {s : Int} {f t : Nat} (hg : GrD g (rankOf g)) (h0 : 0 ≤ s) (h1 : s < g.S) (hft : f ≤ t) (ht : t ≤ row.length) : numS g (sub row f t) s 0 (t - f) = numS g row s f t := by
  have hl := sub_len (row := row) (f := f) ht
  have hm : depN (rankOf g) (t - f) ≤ depN (rankOf g) row.length := by
    unfold depN
    have := Nat.mul_le_mul_right (2 * rankOf g + 4) (show t - f ≤ row.length by omega)
    omega
  rw [num_eval (n := depN (rankOf g) row.length) hg (by rw [hl]; exact hm) h0 h1 (Nat.zero_le _) (by rw [hl]; exact Nat.le_refl _), num_eval hg (Nat.le_refl _) h0 h1 hft ht]
  have := (cnt_shift (g := g) (row := row) (row' := sub row f t) (o := f) (fun i hi => sub_get (by rw [hl] at hi; exact hi)) (depN (rankOf g) row.length)).1 s 0 (t - f) (by rw [hl]; exact Nat.le_refl _)
  rw [this, Nat.zero_add, Nat.sub_add_cancel hft]
/-- Whether a symbol becomes a piece. -/
theorem derR_sub {g : Gr} {row : List Int} {s : Int} {f t : Nat} (h : checkI g = 0) (hrow : row.all (termB g) = true) (hl : row.length ≤ 64) (h0 : 0 ≤ s) (h1 : s < g.S) (hft : f ≤ t) (ht : t ≤ row.length) : derR g s (sub row f t) = (decide (f < t) && decide (0 < numS g row s f t), 0) := by
  have hsl := sub_len (row := row) (f := f) ht
  have hst : startE g s (sub row f t) = 0 := by
    unfold startE
    rw [if_neg (by simp [h]), if_neg (by simp [h0, h1]), if_neg, if_neg (by omega)]
    rw [Bool.not_eq_false, List.all_eq_true]
    intro y hy
    exact List.all_eq_true.1 hrow y (List.mem_of_mem_take (List.mem_of_mem_drop hy))
  unfold derR
  rw [if_pos hst, hsl, numS_sub (GrD.of_check h) h0 h1 hft ht]
  congr 2
  rw [decide_eq_decide]
  omega

/-- A body's symbols become pieces, one behind the other. -/
def PtS (g : Gr) (row : List Int) : List Int → Nat → Nat → Prop
  | [], f, t => f = t
  | y :: ys, f, t => ∃ c, f < c ∧ c ≤ t ∧ 0 < numS g row y f c ∧ PtS g row ys c t
theorem PtS.len {g : Gr} {row : List Int} : ∀ {b : List Int} {f t : Nat}, PtS g row b f t → f + b.length ≤ t := by
  intro b
  induction b with
  | nil => intro f t h; have : f = t := h; simp; omega
  | cons y ys ih =>
    rintro f t ⟨c, h1, h2, _, h4⟩
    have := ih h4
    simp
    omega
theorem sum_pos {l : List Nat} : 0 < l.sum ↔ ∃ x ∈ l, 0 < x := by
  induction l with
  | nil => simp
  | cons y l ih =>
    simp only [List.sum_cons, List.mem_cons, exists_eq_or_imp]
    rw [← ih]
    omega
theorem numB_pos {g : Gr} {row : List Int} (hg : GrD g (rankOf g)) {p : Nat} (hp : p < g.ps.length) : ∀ (m d f t : Nat), (bodyAt g p).length - d = m → d ≤ (bodyAt g p).length → f ≤ t → t ≤ row.length → (0 < numB g row p d f t ↔ PtS g row ((bodyAt g p).drop d) f t) := by
  intro m
  induction m with
  | zero =>
    intro d f t hm hd hft ht
    rw [numB_eq hg hp hd hft ht]
    unfold bodyEq
    rw [if_neg (by omega), if_pos hm, List.drop_eq_nil_of_le (by omega)]
    show _ ↔ f = t
    by_cases e : f = t <;> simp [e]
  | succ m ih =>
    intro d f t hm hd hft ht
    have hlt : d < (bodyAt g p).length := by omega
    have hdr : (bodyAt g p).drop d = (bodyAt g p).getD d 0 :: (bodyAt g p).drop (d + 1) := by
      rw [List.drop_eq_getElem_cons hlt, List.getD_eq_getElem?_getD, List.getElem?_eq_getElem hlt]
      rfl
    rw [numB_eq hg hp hd hft ht, hdr]
    by_cases h1 : t - f < (bodyAt g p).length - d
    · have : bodyEq g (numS g row) (numB g row) p d f t = 0 := by unfold bodyEq; rw [if_pos h1]
      rw [this]
      constructor
      · intro h; omega
      · intro h
        have := PtS.len h
        simp at this
        omega
    by_cases h3 : (bodyAt g p).length - d = 1
    · rw [bodyEq_one h1 h3, List.drop_eq_nil_of_le (by omega)]
      constructor
      · intro h
        exact ⟨t, by omega, Nat.le_refl _, h, rfl⟩
      · rintro ⟨c, _, _, h, hc⟩
        have : c = t := hc
        subst this
        exact h
    · unfold bodyEq
      rw [if_neg h1, if_neg (by omega), if_neg h3, sum_pos]
      constructor
      · rintro ⟨x, hx, hx0⟩
        obtain ⟨i, hi, rfl⟩ := List.mem_map.1 hx
        have hi' := List.mem_range.1 hi
        have := Nat.pos_of_mul_pos_left hx0
        have h5 : 0 < numB g row p (d + 1) (f + 1 + i) t := Nat.pos_of_ne_zero (fun e => by rw [e, Nat.mul_zero] at hx0; omega)
        have h6 : 0 < numS g row ((bodyAt g p).getD d 0) f (f + 1 + i) := Nat.pos_of_ne_zero (fun e => by rw [e, Nat.zero_mul] at hx0; omega)
        exact ⟨f + 1 + i, by omega, by omega, h6, (ih (d + 1) (f + 1 + i) t (by omega) (by omega) (by omega) ht).1 h5⟩
      · rintro ⟨c, h4, h5, h6, h7⟩
        have hl := PtS.len h7
        rw [List.length_drop] at hl
        refine ⟨_, List.mem_map.2 ⟨c - (f + 1), List.mem_range.2 (by omega), rfl⟩, ?_⟩
        rw [show f + 1 + (c - (f + 1)) = c from by omega]
        exact Nat.mul_pos h6 ((ih (d + 1) c t (by omega) (by omega) h5 ht).2 h7)
/-- A symbol that is no terminal becomes a stretch just if some body does. -/
theorem numS_pos {g : Gr} {row : List Int} (hg : GrD g (rankOf g)) {s : Int} {f t : Nat} (h0 : g.T ≤ s) (h1 : s < g.S) (hft : f ≤ t) (ht : t ≤ row.length) : 0 < numS g row s f t ↔ ∃ p, p < g.ps.length ∧ headAt g p = s ∧ PtS g row (bodyAt g p) f t := by
  have hT := hg.ok.t0
  rw [numS_eq hg (by omega) h1 hft ht]
  unfold symEq
  rw [if_neg (by omega), sum_pos]
  constructor
  · rintro ⟨x, hx, hx0⟩
    obtain ⟨p, hp, rfl⟩ := List.mem_map.1 hx
    have hp' := List.mem_range.1 hp
    by_cases hh : headAt g p = s
    · rw [if_pos hh] at hx0
      exact ⟨p, hp', hh, by simpa using (numB_pos hg hp' _ 0 f t rfl (Nat.zero_le _) hft ht).1 hx0⟩
    · rw [if_neg hh] at hx0
      omega
  · rintro ⟨p, hp, hh, hb⟩
    refine ⟨_, List.mem_map.2 ⟨p, List.mem_range.2 hp, rfl⟩, ?_⟩
    rw [if_pos hh]
    exact (numB_pos hg hp _ 0 f t rfl (Nat.zero_le _) hft ht).2 (by simpa using hb)
end Go.Proofs.Ytadabkkkalgehaa.H
