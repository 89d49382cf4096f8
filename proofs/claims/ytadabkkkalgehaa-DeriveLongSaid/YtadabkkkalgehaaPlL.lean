import Derived.Test.YtadabkkkalgehaaLvZ
/-
  The chapter's sums, of any length: as many trees as ways to put brackets.
-/
namespace Go.Proofs.Ytadabkkkalgehaa.H
set_option linter.unusedVariables false
set_option linter.unusedSimpArgs false
/-- Ways to put brackets: the first n + 1 numbers. -/
def catL : Nat → List Nat
  | 0 => [1]
  | n + 1 => catL n ++ [((List.range (n + 1)).map fun j => (catL n).getD j 0 * (catL n).getD (n - j) 0).sum]
def cat (n : Nat) : Nat := (catL n).getD n 0
theorem catL_len (n : Nat) : (catL n).length = n + 1 := by
  induction n with
  | zero => rfl
  | succ n ih => simp [catL, ih]
theorem catL_get (n : Nat) : ∀ j, j ≤ n → (catL n).getD j 0 = cat j := by
  induction n with
  | zero =>
    intro j hj
    have : j = 0 := by omega
    subst this
    rfl
  | succ n ih =>
    intro j hj
    by_cases h : j = n + 1
    · subst h; rfl
    · rw [← ih j (by omega)]
      have e : catL (n + 1) = catL n ++ [((List.range (n + 1)).map fun j => (catL n).getD j 0 * (catL n).getD (n - j) 0).sum] := rfl
      rw [e, List.getD_eq_getElem?_getD, List.getD_eq_getElem?_getD, List.getElem?_append_left (by rw [catL_len]; omega)]
theorem cat_succ (n : Nat) : cat (n + 1) = ((List.range (n + 1)).map fun j => cat j * cat (n - j)).sum := by
  have e : cat (n + 1) = ((List.range (n + 1)).map fun j => (catL n).getD j 0 * (catL n).getD (n - j) 0).sum := by
    unfold cat
    show (catL n ++ [_]).getD (n + 1) 0 = _
    rw [List.getD_eq_getElem?_getD, List.getElem?_append_right (by rw [catL_len]; omega), catL_len]
    simp
  rw [e]
  refine map_sum_congr fun j hj => ?_
  have := List.mem_range.1 hj
  rw [catL_get n j (by omega), catL_get n (n - j) (by omega)]
theorem cat9 : cat 9 = 4862 := by decide +kernel
theorem cat31 : 1073741824 < cat 31 := by decide +kernel
/-- A row of sums: m symbols. -/
def sumRow (m : Nat) : List Int := (List.range m).map fun i => if i % 2 = 0 then 0 else 1
theorem sumRow_len (m : Nat) : (sumRow m).length = m := by simp [sumRow]
theorem sumRow_get (m i : Nat) (h : i < m) : (sumRow m)[i]? = some (if i % 2 = 0 then 0 else 1) := by simp [sumRow, h]
/-- Only each second one counts. -/
theorem sum_second (h : Nat → Nat) (h0 : ∀ j, h (2 * j + 1) = 0) : ∀ k, ((List.range (2 * k + 1)).map h).sum = ((List.range (k + 1)).map fun j => h (2 * j)).sum := by
  intro k
  induction k with
  | zero => rfl
  | succ k ih =>
    have e : 2 * (k + 1) + 1 = (2 * k + 1) + 1 + 1 := by omega
    rw [e, List.range_succ, List.range_succ, List.map_append, List.map_append, List.sum_append, List.sum_append, ih, List.range_succ (n := k + 1), List.map_append, List.sum_append]
    simp only [List.map_cons, List.map_nil, List.sum_cons, List.sum_nil, Nat.add_zero]
    rw [h0 k, show 2 * k + 1 + 1 = 2 * (k + 1) from by omega]
    omega
theorem sum_none {l : List Nat} {h : Nat → Nat} (h0 : ∀ j ∈ l, h j = 0) : (l.map h).sum = 0 := by
  induction l with
  | nil => rfl
  | cons x l ih => rw [List.map_cons, List.sum_cons, h0 x (by simp), ih (fun j hj => h0 j (by simp [hj]))]
theorem rk1 : GrD sumsG (rankOf sumsG) := GrD.of_check sums_check
theorem num_term {row : List Int} {s : Int} {f t : Nat} (h0 : 0 ≤ s) (h1 : s < 2) (hft : f ≤ t) (ht : t ≤ row.length) : numS sumsG row s f t = if t = f + 1 ∧ row[f]? = some s then 1 else 0 := by
  rw [numS_eq rk1 h0 (by show s < 3; omega) hft ht]
  unfold symEq
  rw [if_pos (show s < sumsG.T from h1)]
/-- The equation of sums. -/
theorem num_sum {row : List Int} {f t : Nat} (hft : f ≤ t) (ht : t ≤ row.length) : numS sumsG row 2 f t =
    (if t - f < 3 then 0 else ((List.range (t - 2 - f)).map fun i => numS sumsG row 2 f (f + 1 + i) * (if row[f + 1 + i]? = some 1 then numS sumsG row 2 (f + 2 + i) t else 0)).sum) + (if t = f + 1 ∧ row[f]? = some 0 then 1 else 0) := by
  have b1 : numB sumsG row 1 0 f t = if t = f + 1 ∧ row[f]? = some 0 then 1 else 0 := by
    rw [numB_eq rk1 (p := 1) (by decide) (by decide) hft ht]
    unfold bodyEq
    rw [show (bodyAt sumsG 1).length - 0 = 1 from rfl, show (bodyAt sumsG 1).getD 0 0 = 0 from rfl, num_term (by decide) (by decide) hft ht, if_neg (show ¬ (1 = 0) by decide), if_pos (show 1 = 1 from rfl)]
    by_cases h : t - f < 1
    · rw [if_pos h, if_neg (fun h' => by have := h'.1; omega)]
    · rw [if_neg h]
  have b0 : numB sumsG row 0 0 f t = if t - f < 3 then 0 else ((List.range (t - 2 - f)).map fun i => numS sumsG row 2 f (f + 1 + i) * (if row[f + 1 + i]? = some 1 then numS sumsG row 2 (f + 2 + i) t else 0)).sum := by
    rw [numB_eq rk1 (p := 0) (by decide) (by decide) hft ht]
    unfold bodyEq
    rw [show bodyAt sumsG 0 = [2, 1, 2] from rfl]
    simp only [List.length_cons, List.length_nil]
    by_cases h : t - f < 3
    · rw [if_pos (by omega), if_pos h]
    · rw [if_neg (by omega), if_neg (by omega), if_neg (by omega), if_neg h, show t + 1 - (0 + 1 + 1 + 1 - 0) - f = t - 2 - f from by omega]
      refine map_sum_congr fun i hi => ?_
      have hi' := List.mem_range.1 hi
      rw [show ([2, 1, 2] : List Int).getD 0 0 = 2 from rfl]
      congr 1
      rw [numB_eq rk1 (p := 0) (d := 0 + 1) (by decide) (by decide) (by omega) ht]
      unfold bodyEq
      rw [show bodyAt sumsG 0 = [2, 1, 2] from rfl]
      simp only [List.length_cons, List.length_nil]
      rw [if_neg (by omega), if_neg (by omega), if_neg (by omega)]
      rw [show ([2, 1, 2] : List Int).getD (0 + 1) 0 = 1 from rfl]
      have hr : t + 1 - (0 + 1 + 1 + 1 - (0 + 1)) - (f + 1 + i) = (t - 2 - f - i - 1) + 1 := by omega
      rw [hr, List.range_succ_eq_map, List.map_cons, List.sum_cons, List.map_map]
      rw [sum_none (fun j hj => ?_), Nat.add_zero, Nat.add_zero]
      · rw [num_term (by decide) (by decide) (by omega) (by omega)]
        have b2 : numB sumsG row 0 (0 + 1 + 1) (f + 1 + i + 1) t = numS sumsG row 2 (f + 1 + i + 1) t := by
          rw [numB_eq rk1 (p := 0) (by decide) (by decide) (by omega) ht]
          unfold bodyEq
          rw [show (bodyAt sumsG 0).length - (0 + 1 + 1) = 1 from rfl, if_neg (show ¬ (1 = 0) by decide), if_pos (show 1 = 1 from rfl), if_neg (by omega)]
          rfl
        rw [b2, show f + 1 + i + 1 = f + 2 + i from by omega]
        by_cases e : row[f + 1 + i]? = some 1
        · rw [if_pos ⟨by omega, e⟩, if_pos e, Nat.one_mul]
        · rw [if_neg (fun h => e h.2), if_neg e, Nat.zero_mul]
      · have hj' := List.mem_range.1 hj
        show numS sumsG row 1 (f + 1 + i) (f + 1 + i + 1 + (j + 1)) * _ = 0
        rw [num_term (by decide) (by decide) (by omega) (by omega), if_neg (fun h' => by have := h'.1; omega), Nat.zero_mul]
  rw [numS_eq rk1 (by decide) (by decide) hft ht]
  unfold symEq
  rw [if_neg (by decide)]
  show ((List.range 2).map _).sum = _
  rw [show List.range 2 = [0, 1] from rfl]
  simp only [List.map_cons, List.map_nil, List.sum_cons, List.sum_nil, Nat.add_zero]
  rw [if_pos (show headAt sumsG 0 = 2 from rfl), if_pos (show headAt sumsG 1 = 2 from rfl), b0, b1]
theorem num_cat (m : Nat) : ∀ (D f t : Nat), t - f ≤ D → f ≤ t → t ≤ m → numS sumsG (sumRow m) 2 f t = if f % 2 = 0 ∧ t % 2 = 1 then cat ((t - f - 1) / 2) else 0 := by
  intro D
  induction D with
  | zero =>
    intro f t hD hft ht
    obtain rfl : t = f := by omega
    rw [num_sum (Nat.le_refl _) (by rw [sumRow_len]; exact ht), if_pos (by omega), if_neg (by omega), if_neg (by omega)]
  | succ D ih =>
    intro f t hD hft ht
    rw [num_sum hft (by rw [sumRow_len]; exact ht)]
    by_cases h3 : t - f < 3
    · rw [if_pos h3, Nat.zero_add]
      by_cases h1 : t = f + 1
      · subst h1
        rw [sumRow_get m f (by omega)]
        by_cases h2 : f % 2 = 0
        · rw [if_pos h2, if_pos ⟨rfl, rfl⟩, if_pos ⟨h2, by omega⟩, show (f + 1 - f - 1) / 2 = 0 from by omega]
          rfl
        · rw [if_neg h2, if_neg (fun h => by have := h.2; cases this), if_neg (fun h => h2 h.1)]
      · rw [if_neg (fun h => h1 h.1), if_neg (by omega)]
    · rw [if_neg h3, if_neg (show ¬ (t = f + 1 ∧ _) from fun h => by have := h.1; omega), Nat.add_zero]
      have hterm : ∀ i, i < t - 2 - f → numS sumsG (sumRow m) 2 f (f + 1 + i) * (if (sumRow m)[f + 1 + i]? = some 1 then numS sumsG (sumRow m) 2 (f + 2 + i) t else 0) =
          if f % 2 = 0 ∧ t % 2 = 1 ∧ i % 2 = 0 then cat (i / 2) * cat ((t - f - 1) / 2 - 1 - i / 2) else 0 := by
        intro i hi
        rw [ih f (f + 1 + i) (by omega) (by omega) (by omega), ih (f + 2 + i) t (by omega) (by omega) ht, sumRow_get m (f + 1 + i) (by omega)]
        by_cases hf : f % 2 = 0
        · by_cases hi2 : i % 2 = 0
          · have e1 : ¬ ((f + 1 + i) % 2 = 0) := by omega
            have e1' : ¬ ((if (f + 1 + i) % 2 = 0 then (0 : Int) else 1) = 0) := by rw [if_neg e1]; decide
            rw [if_pos ⟨hf, by omega⟩, if_neg e1, if_pos rfl]
            by_cases ht2 : t % 2 = 1
            · rw [if_pos ⟨by omega, ht2⟩, if_pos ⟨hf, ht2, hi2⟩, show (f + 1 + i - f - 1) / 2 = i / 2 from by omega, show (t - (f + 2 + i) - 1) / 2 = (t - f - 1) / 2 - 1 - i / 2 from by omega]
            · rw [if_neg (fun h => ht2 h.2), if_neg (fun h => ht2 h.2.1), Nat.mul_zero]
          · rw [if_neg (by omega), Nat.zero_mul, if_neg (fun h => hi2 h.2.2)]
        · rw [if_neg (fun h => hf h.1), Nat.zero_mul, if_neg (fun h => hf h.1)]
      rw [map_sum_congr (fun i hi => hterm i (List.mem_range.1 hi))]
      by_cases hc : f % 2 = 0 ∧ t % 2 = 1
      · rw [if_pos hc]
        obtain ⟨k, hk⟩ : ∃ k, t - 2 - f = 2 * k + 1 := ⟨(t - 2 - f) / 2, by omega⟩
        rw [hk, sum_second (fun i => if f % 2 = 0 ∧ t % 2 = 1 ∧ i % 2 = 0 then cat (i / 2) * cat ((t - f - 1) / 2 - 1 - i / 2) else 0) (fun j => by rw [if_neg (by omega)]) k]
        have e : (t - f - 1) / 2 = k + 1 := by omega
        rw [e, cat_succ]
        refine map_sum_congr fun j hj => ?_
        rw [if_pos ⟨hc.1, hc.2, by omega⟩, show 2 * j / 2 = j from by omega, show k + 1 - 1 - j = k - j from by omega]
      · rw [if_neg hc]
        exact sum_none fun i _ => by rw [if_neg (fun h => hc ⟨h.1, h.2.1⟩)]
theorem num_row (n : Nat) : numS sumsG (sumRow (2 * n + 1)) 2 0 (sumRow (2 * n + 1)).length = cat n := by
  rw [sumRow_len, num_cat (2 * n + 1) (2 * n + 1) 0 (2 * n + 1) (by omega) (by omega) (Nat.le_refl _), if_pos (by omega)]
  congr 1
  omega
theorem all_terms (m n : Nat) : (sumRow m ++ List.replicate n (0 : Int)).all (termB sumsG) = true := by
  rw [List.all_eq_true]
  intro y hy
  rcases List.mem_append.1 hy with h | h
  · obtain ⟨i, _, rfl⟩ := List.mem_map.1 h
    by_cases e : i % 2 = 0
    · rw [if_pos e]; decide
    · rw [if_neg e]; decide
  · rw [List.eq_of_mem_replicate h]; decide
theorem start_row {m : Nat} (h : m ≤ 64) : startE sumsG 2 (sumRow m) = 0 := by
  rw [sums_start, if_neg (by decide), if_neg, if_neg (by rw [sumRow_len]; omega)]
  have := all_terms m 0
  simp at this ⊢
  exact this
theorem start_long {n : Nat} (h : 1 < n) : startE sumsG 2 (sumRow 63 ++ List.replicate n 0) = 3 := by
  rw [sums_start, if_neg (by decide), if_neg (by rw [all_terms]; decide), if_pos (by rw [List.length_append, sumRow_len, List.length_replicate]; omega)]
theorem lo1 : derR sumsG 2 (sumRow 63) = (true, 0) := by
  have h := num_row 31
  have h1 : 0 < numS sumsG (sumRow 63) 2 0 (sumRow 63).length := by
    have e : numS sumsG (sumRow 63) 2 0 (sumRow 63).length = cat 31 := h
    have := cat31
    omega
  unfold derR
  rw [if_pos (start_row (by decide)), decide_eq_true h1, decide_eq_true (by rw [sumRow_len]; decide)]
  rfl
theorem lo2 {n : Nat} (h : 1 < n) : derR sumsG 2 (sumRow 63 ++ List.replicate n 0) = (false, 3) := by
  unfold derR
  rw [start_long h, if_neg (by decide)]
theorem lo3 {n : Nat} (h : 1 < n) : viaR sumsG (sumRow 63 ++ List.replicate n 0) = (false, 3) := by
  unfold viaR
  rw [show sumsG.st = 2 from rfl, start_long h, if_neg (by decide)]
theorem lo4 {n : Nat} (h : 1 < n) : countR sumsG 2 (sumRow 63 ++ List.replicate n 0) = (0, 3) := by
  unfold countR
  rw [start_long h, if_neg (by decide)]
theorem lo5 : countR sumsG 2 (sumRow 63) = (0, 140) := by
  have h1 : 1073741824 < numS sumsG (sumRow 63) 2 0 (sumRow 63).length := by
    have e : numS sumsG (sumRow 63) 2 0 (sumRow 63).length = cat 31 := num_row 31
    have := cat31
    omega
  unfold countR
  rw [if_pos (start_row (by decide)), if_neg (by rw [sumRow_len]; decide), if_pos h1]
theorem lo6 : countR sumsG 2 (sumRow 19) = (4862, 0) := by
  have e : numS sumsG (sumRow 19) 2 0 (sumRow 19).length = 4862 := (num_row 9).trans cat9
  unfold countR
  rw [if_pos (start_row (by decide)), if_neg (by rw [sumRow_len]; decide), e, if_neg (by decide)]
  rfl
end Go.Proofs.Ytadabkkkalgehaa.H
