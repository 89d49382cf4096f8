import Derived.Test.YtadabkkkalgehaaDv
import Derived.Test.YtadabkkkalgehaaPPax3
import Derived.Test.YtadabkkkalgehaaEv
import Derived.Test.YtadabkkkalgehaaPPax4
/-
  derive: what a symbol becomes is parted by a body; of a piece of a row.
-/
namespace Go.Proofs.Ytadabkkkalgehaa.H
set_option linter.unusedVariables false
set_option linter.unusedSimpArgs false

/-- A piece of a row. -/
def sub (row : List Int) (f t : Nat) : List Int := (row.take t).drop f
theorem sub_len {row : List Int} {f t : Nat} (ht : t ≤ row.length) : (sub row f t).length = t - f := by simp [sub]; omega
theorem sub_get {row : List Int} {f t i : Nat} (hi : i < t - f) : (sub row f t)[i]? = row[i + f]? := by
  unfold sub
  rw [List.getElem?_drop, List.getElem?_take, if_pos (by omega), Nat.add_comm]
theorem sub_take {row : List Int} {f t c : Nat} (hc : f + c ≤ t) : (sub row f t).take c = sub row f (f + c) := by
  unfold sub
  rw [List.take_drop, List.take_take]
  congr 2
  omega
theorem sub_drop {row : List Int} {f t c : Nat} : (sub row f t).drop c = sub row (f + c) t := by
  unfold sub
  rw [List.drop_drop]
theorem sub_all (row : List Int) : sub row 0 row.length = row := by simp [sub]
/-- Of a piece the counts are the row's. -/
theorem cnt_shift {g : Gr} {row row' : List Int} {o : Nat} (h : ∀ i, i < row'.length → row'[i]? = row[i + o]?) : ∀ n, (∀ s f t, t ≤ row'.length → (cnt g row' n).1 s f t = (cnt g row n).1 s (f + o) (t + o)) ∧ (∀ p d f t, t ≤ row'.length → (cnt g row' n).2 p d f t = (cnt g row n).2 p d (f + o) (t + o)) := by
  intro n
  induction n with
  | zero => exact ⟨fun _ _ _ _ => rfl, fun _ _ _ _ _ => rfl⟩
  | succ n ih =>
    obtain ⟨ih1, ih2⟩ := ih
    constructor
    · intro s f t ht
      show symEq g row' (cnt g row' n).2 s f t = symEq g row (cnt g row n).2 s (f + o) (t + o)
      unfold symEq
      by_cases hs : s < g.T
      · rw [if_pos hs, if_pos hs]
        by_cases he : t = f + 1
        · rw [h f (by omega)]
          subst he
          have : f + 1 + o = f + o + 1 := by omega
          simp only [this, true_and]
        · rw [if_neg (fun h => he h.1), if_neg (fun h => he (by omega))]
      · rw [if_neg hs, if_neg hs]
        congr 1
        apply List.map_congr_left
        intro p _
        rw [ih2 p 0 f t ht]
    · intro p d f t ht
      show bodyEq g (cnt g row' n).1 (cnt g row' n).2 p d f t = bodyEq g (cnt g row n).1 (cnt g row n).2 p d (f + o) (t + o)
      unfold bodyEq
      have e1 : t + o - (f + o) = t - f := by omega
      rw [e1]
      by_cases h1 : t - f < (bodyAt g p).length - d
      · rw [if_pos h1, if_pos h1]
      rw [if_neg h1, if_neg h1]
      by_cases h2 : (bodyAt g p).length - d = 0
      · rw [if_pos h2, if_pos h2]
        by_cases e : f = t
        · rw [if_pos e, if_pos (by omega)]
        · rw [if_neg e, if_neg (by omega)]
      rw [if_neg h2, if_neg h2]
      by_cases h3 : (bodyAt g p).length - d = 1
      · rw [if_pos h3, if_pos h3, ih1 _ f t ht]
      rw [if_neg h3, if_neg h3]
      have e2 : t + o + 1 - ((bodyAt g p).length - d) - (f + o) = t + 1 - ((bodyAt g p).length - d) - f := by omega
      rw [e2]
      congr 1
      apply List.map_congr_left
      intro i hi
      have hi' := List.mem_range.1 hi
      rw [ih1 _ f (f + 1 + i) (by omega), ih2 p (d + 1) (f + 1 + i) t ht, show f + 1 + i + o = f + o + 1 + i from by omega]
theorem numS_sub {g : Gr} {row : List Int} {s : Int} {f t : Nat} (hg : GrD g (rankOf g)) (h0 : 0 ≤ s) (h1 : s < g.S) (hft : f ≤ t) (ht : t ≤ row.length) : numS g (sub row f t) s 0 (t - f) = numS g row s f t := by
  have hl := sub_len (row := row) (f := f) ht
  have hm : depN (rankOf g) (t - f) ≤ depN (rankOf g) row.length := by
    unfold depN
    have := Nat.mul_le_mul_right (2 * rankOf g + 4) (show t - f ≤ row.length by omega)
    omega
  rw [num_eval (n := depN (rankOf g) row.length) hg (by rw [hl]; exact hm) h0 h1 (Nat.zero_le _) (by rw [hl]; exact Nat.le_refl _), num_eval hg (Nat.le_refl _) h0 h1 hft ht]
  have := (cnt_shift (g := g) (row := row) (row' := sub row f t) (o := f) (fun i hi => sub_get (by rw [hl] at hi; exact hi)) (depN (rankOf g) row.length)).1 s 0 (t - f) (by rw [hl]; exact Nat.le_refl _)
  rw [this, Nat.zero_add, Nat.sub_add_cancel hft]
/-- Whether a symbol becomes a piece. -/
theorem derR_sub {g : Gr} {row : List Int} {s : Int} {f t : Nat} (h : checkI g = 0) (hrow : row.all (termB g) = true) (hl : row.length ≤ 64) (h0 : 0 ≤ s) (h1 : s < g.S) (hft : f ≤ t) (ht : t ≤ row.length) : derR g s (sub row f t) = (decide (f < t) && decide (0 < numS g row s f t), 0) := by
  have hsl := sub_len (row := row) (f := f) ht
  have hst : startE g s (sub row f t) = 0 := by
    unfold startE
    rw [if_neg (by simp [h]), if_neg (by simp [h0, h1]), if_neg, if_neg (by omega)]
    rw [Bool.not_eq_false, List.all_eq_true]
    intro y hy
    exact List.all_eq_true.1 hrow y (List.mem_of_mem_take (List.mem_of_mem_drop hy))
  unfold derR
  rw [if_pos hst, hsl, numS_sub (GrD.of_check h) h0 h1 hft ht]
  congr 2
  rw [decide_eq_decide]
  omega

/-- A body's symbols become pieces, one behind the other. -/
def PtS (g : Gr) (row : List Int) : List Int → Nat → Nat → Prop
  | [], f, t => f = t
  | y :: ys, f, t => ∃ c, f < c ∧ c ≤ t ∧ 0 < numS g row y f c ∧ PtS g row ys c t
theorem PtS.len {g : Gr} {row : List Int} : ∀ {b : List Int} {f t : Nat}, PtS g row b f t → f + b.length ≤ t := by
  intro b
  induction b with
  | nil => intro f t h; have : f = t := h; simp; omega
  | cons y ys ih =>
    rintro f t ⟨c, h1, h2, _, h4⟩
    have := ih h4
    simp
    omega
theorem sum_pos {l : List Nat} : 0 < l.sum ↔ ∃ x ∈ l, 0 < x := by
  induction l with
  | nil => simp
  | cons y l ih =>
    simp only [List.sum_cons, List.mem_cons, exists_eq_or_imp]
    rw [← ih]
    omega
theorem numB_pos {g : Gr} {row : List Int} (hg : GrD g (rankOf g)) {p : Nat} (hp : p < g.ps.length) : ∀ (m d f t : Nat), (bodyAt g p).length - d = m → d ≤ (bodyAt g p).length → f ≤ t → t ≤ row.length → (0 < numB g row p d f t ↔ PtS g row ((bodyAt g p).drop d) f t) := by
  intro m
  induction m with
  | zero =>
    intro d f t hm hd hft ht
    rw [numB_eq hg hp hd hft ht]
    unfold bodyEq
    rw [if_neg (by omega), if_pos hm, List.drop_eq_nil_of_le (by omega)]
    show _ ↔ f = t
    by_cases e : f = t <;> simp [e]
  | succ m ih =>
    intro d f t hm hd hft ht
    have hlt : d < (bodyAt g p).length := by omega
    have hdr : (bodyAt g p).drop d = (bodyAt g p).getD d 0 :: (bodyAt g p).drop (d + 1) := by
      rw [List.drop_eq_getElem_cons hlt, List.getD_eq_getElem?_getD, List.getElem?_eq_getElem hlt]
      rfl
    rw [numB_eq hg hp hd hft ht, hdr]
    by_cases h1 : t - f < (bodyAt g p).length - d
    · have : bodyEq g (numS g row) (numB g row) p d f t = 0 := by unfold bodyEq; rw [if_pos h1]
      rw [this]
      constructor
      · intro h; omega
      · intro h
        have := PtS.len h
        simp at this
        omega
    by_cases h3 : (bodyAt g p).length - d = 1
    · rw [bodyEq_one h1 h3, List.drop_eq_nil_of_le (by omega)]
      constructor
      · intro h
        exact ⟨t, by omega, Nat.le_refl _, h, rfl⟩
      · rintro ⟨c, _, _, h, hc⟩
        have : c = t := hc
        subst this
        exact h
    · unfold bodyEq
      rw [if_neg h1, if_neg (by omega), if_neg h3, sum_pos]
      constructor
      · rintro ⟨x, hx, hx0⟩
        obtain ⟨i, hi, rfl⟩ := List.mem_map.1 hx
        have hi' := List.mem_range.1 hi
        have := Nat.pos_of_mul_pos_left hx0
        have h5 : 0 < numB g row p (d + 1) (f + 1 + i) t := Nat.pos_of_ne_zero (fun e => by rw [e, Nat.mul_zero] at hx0; omega)
        have h6 : 0 < numS g row ((bodyAt g p).getD d 0) f (f + 1 + i) := Nat.pos_of_ne_zero (fun e => by rw [e, Nat.zero_mul] at hx0; omega)
        exact ⟨f + 1 + i, by omega, by omega, h6, (ih (d + 1) (f + 1 + i) t (by omega) (by omega) (by omega) ht).1 h5⟩
      · rintro ⟨c, h4, h5, h6, h7⟩
        have hl := PtS.len h7
        rw [List.length_drop] at hl
        refine ⟨_, List.mem_map.2 ⟨c - (f + 1), List.mem_range.2 (by omega), rfl⟩, ?_⟩
        rw [show f + 1 + (c - (f + 1)) = c from by omega]
        exact Nat.mul_pos h6 ((ih (d + 1) c t (by omega) (by omega) h5 ht).2 h7)
/-- A symbol that is no terminal becomes a stretch just if some body does. -/
theorem numS_pos {g : Gr} {row : List Int} (hg : GrD g (rankOf g)) {s : Int} {f t : Nat} (h0 : g.T ≤ s) (h1 : s < g.S) (hft : f ≤ t) (ht : t ≤ row.length) : 0 < numS g row s f t ↔ ∃ p, p < g.ps.length ∧ headAt g p = s ∧ PtS g row (bodyAt g p) f t := by
  have hT := hg.ok.t0
  rw [numS_eq hg (by omega) h1 hft ht]
  unfold symEq
  rw [if_neg (by omega), sum_pos]
  constructor
  · rintro ⟨x, hx, hx0⟩
    obtain ⟨p, hp, rfl⟩ := List.mem_map.1 hx
    have hp' := List.mem_range.1 hp
    by_cases hh : headAt g p = s
    · rw [if_pos hh] at hx0
      exact ⟨p, hp', hh, by simpa using (numB_pos hg hp' _ 0 f t rfl (Nat.zero_le _) hft ht).1 hx0⟩
    · rw [if_neg hh] at hx0
      omega
  · rintro ⟨p, hp, hh, hb⟩
    refine ⟨_, List.mem_map.2 ⟨p, List.mem_range.2 hp, rfl⟩, ?_⟩
    rw [if_pos hh]
    exact (numB_pos hg hp _ 0 f t rfl (Nat.zero_le _) hft ht).2 (by simpa using hb)
end Go.Proofs.Ytadabkkkalgehaa.H
/-
  DeriveParts: what the print left to prove.
-/
namespace Go.Proofs.Ytadabkkkalgehaa.PPa
open Go.RowKit Go.Proofs.YtadabkkkalgehaaW.PrintWords Go.Proofs.Ytadabkkkalgehaa.H
set_option linter.unusedVariables false

theorem great_l0 (a b c : Int) (l : List S55) (hl : l.length ≤ 200) : ∀ (n j : Nat) (x : Int), l.length - j ≤ n → j ≤ l.length → ∃ r, Ev (fun k => rootstocklaw14_Great.l0 k x (j : Int) a b c l) r := by
  intro n
  induction n with
  | zero =>
    intro j x hn hj
    refine ⟨false, 1, fun k hk => ?_⟩
    obtain ⟨k, rfl⟩ : ∃ m, k = m + 1 := ⟨k - 1, by omega⟩
    show rootstocklaw14_Great.l0 (k + 1) x (j : Int) a b c l = some false
    rw [rootstocklaw14_Great.l0, if_neg (by omega)]
  | succ n ih =>
    intro j x hn hj
    have hw : Keep (wrap64 ((j : Int) + 1) = ((j + 1 : Nat) : Int)) := ⟨by rw [wrap_nat _ (by omega) (by omega)]; rfl⟩
    by_cases hlt : j < l.length
    · by_cases hb : (((rd_T55 l j).f1).length : Int) > wrap64 (2000 - x)
      · refine ⟨true, 1, fun k hk => ?_⟩
        obtain ⟨k, rfl⟩ : ∃ m, k = m + 1 := ⟨k - 1, by omega⟩
        show rootstocklaw14_Great.l0 (k + 1) x (j : Int) a b c l = some true
        rw [rootstocklaw14_Great.l0, if_pos (by omega), if_pos (by omega), if_pos hb]
      · obtain ⟨r, K, hK⟩ := ih (j + 1) (wrap64 (x + (((rd_T55 l j).f1).length : Int))) (by omega) (by omega)
        refine ⟨r, K + 1, fun k hk => ?_⟩
        obtain ⟨k, rfl⟩ : ∃ m, k = m + 1 := ⟨k - 1, by omega⟩
        show rootstocklaw14_Great.l0 (k + 1) x (j : Int) a b c l = some r
        rw [rootstocklaw14_Great.l0, if_pos (by omega), if_pos (by omega), if_neg hb, hw.out]
        exact hK k (by omega)
    · refine ⟨false, 1, fun k hk => ?_⟩
      obtain ⟨k, rfl⟩ : ∃ m, k = m + 1 := ⟨k - 1, by omega⟩
      show rootstocklaw14_Great.l0 (k + 1) x (j : Int) a b c l = some false
      rw [rootstocklaw14_Great.l0, if_neg (by omega)]
theorem great_any (a b c : Int) (l : List S55) : ∃ r, Ev (fun k => rootstocklaw14_Great.f k a b c l) r ∧ (r = false → l.length ≤ 200) := by
  by_cases hl : (l.length : Int) > 200
  · refine ⟨true, ⟨0, fun k _ => ?_⟩, fun h => by cases h⟩
    show rootstocklaw14_Great.f k a b c l = some true
    rw [rootstocklaw14_Great.f, if_pos hl]
  · obtain ⟨r, K, hK⟩ := great_l0 a b c l (by omega) l.length 0 0 (by omega) (Nat.zero_le _)
    refine ⟨r, ⟨K, fun k hk => ?_⟩, fun _ => by omega⟩
    show rootstocklaw14_Great.f k a b c l = some r
    rw [rootstocklaw14_Great.f, if_neg hl]
    exact hK k hk

theorem der_to (a b c : Int) (l : List S55) (s : Int) (w : List Int) : derive_Derives.f a b c l s w = some (H.derR (toGr a b c l) s w) := rfl
/-- parted, of a piece of a row. -/
theorem parted_any {a b c : Int} {l : List S55} {row : List Int} (hc : H.checkI (toGr a b c l) = 0) (hrow : row.all (termB (toGr a b c l)) = true) (hl : row.length ≤ 64) : ∀ (body : List Int) (f t : Nat), body.length ≤ 64 → (∀ y ∈ body, 0 ≤ y ∧ y < b) → f ≤ t → t ≤ row.length →
    ∃ r, Ev (fun k => rootstocklaw14_parted.f k a b c l body (sub row f t)) r ∧ (r = true ↔ PtS (toGr a b c l) row body f t) := by
  intro body
  induction body with
  | nil =>
    intro f t _ _ hft ht
    have hsl := sub_len (row := row) (f := f) ht
    refine ⟨decide (f = t), ⟨2, fun k hk => ?_⟩, by simp [PtS]⟩
    obtain ⟨k, rfl⟩ : ∃ m, k = m + 1 + 1 := ⟨k - 2, by omega⟩
    show rootstocklaw14_parted.f (k + 1 + 1) a b c l [] (sub row f t) = some _
    rw [rootstocklaw14_parted.f, if_pos (by rfl), rootstocklaw14_parted.j0, if_pos rfl, if_pos (by rfl), hsl]
    congr 1
    rw [Bool.eq_iff_iff, decide_eq_true_iff, beq_iff_eq]
    omega
  | cons y ys ih =>
    intro f t hbl hys hft ht
    have hsl := sub_len (row := row) (f := f) ht
    have hy := hys y (by simp)
    have hder := fun c' (h1 : f ≤ c') (h2 : c' ≤ row.length) => derR_sub (g := toGr a b c l) (s := y) hc hrow hl hy.1 hy.2 h1 h2
    have hc0 : ¬ (((y :: ys).length : Int) = 0) := by simp; omega
    by_cases h1 : t - f < (y :: ys).length
    · refine ⟨false, ⟨2, fun k hk => ?_⟩, ?_⟩
      · obtain ⟨k, rfl⟩ : ∃ m, k = m + 1 + 1 := ⟨k - 2, by omega⟩
        show rootstocklaw14_parted.f (k + 1 + 1) a b c l (y :: ys) (sub row f t) = some _
        rw [rootstocklaw14_parted.f, if_neg hc0, hsl, decide_eq_true (by omega), rootstocklaw14_parted.j0, if_pos rfl, if_neg hc0]
      · constructor
        · intro h; cases h
        · intro h
          have := h.len
          omega
    · by_cases h2 : ys = []
      · subst h2
        refine ⟨decide (f < t) && decide (0 < numS (toGr a b c l) row y f t), ⟨2, fun k hk => ?_⟩, ?_⟩
        · obtain ⟨k, rfl⟩ : ∃ m, k = m + 1 + 1 := ⟨k - 2, by omega⟩
          show rootstocklaw14_parted.f (k + 1 + 1) a b c l [y] (sub row f t) = some _
          rw [rootstocklaw14_parted.f, if_neg hc0, hsl, decide_eq_false (by omega), rootstocklaw14_parted.j0, if_neg (by decide), if_pos (by rfl), if_pos (by simp), show rd [y] 0 = y from rfl, der_to, hder t hft ht]
          rfl
        · simp only [Bool.and_eq_true, decide_eq_true_iff, PtS]
          constructor
          · rintro ⟨h3, h4⟩
            exact ⟨t, h3, Nat.le_refl _, h4, rfl⟩
          · rintro ⟨c', h3, h4, h5, rfl⟩
            exact ⟨h3, h5⟩
      · have hyl : 1 ≤ ys.length := by cases ys with | nil => exact absurd rfl h2 | cons => simp
        have hlen : ((y :: ys).length : Int) = ys.length + 1 := by simp
        have hlen' : (y :: ys).length = ys.length + 1 := by simp
        have hws : Keep (wrap64 (wrap64 ((t - f : Nat) - ((y :: ys).length : Int)) + 1) = ((t - f - ys.length : Nat) : Int)) := ⟨by rw [wrap_nat (((t - f : Nat) : Int) - _) (by omega) (by omega), wrap_nat _ (by omega) (by omega)]; omega⟩
        have loop : ∀ (n cut : Nat), t - f - ys.length + 1 - cut ≤ n → 1 ≤ cut → cut ≤ t - f - ys.length + 1 → (∀ c', f < c' → c' < f + cut → ¬ (0 < numS (toGr a b c l) row y f c' ∧ PtS (toGr a b c l) row ys c' t)) →
            ∃ r, Ev (fun k => rootstocklaw14_parted.l0 k (y :: ys) (sub row f t) (cut : Int) a b c l) r ∧ (r = true ↔ PtS (toGr a b c l) row (y :: ys) f t) := by
          intro n
          induction n with
          | zero =>
            intro cut hn hc1 hc2 hno
            refine ⟨false, ⟨1, fun k hk => ?_⟩, ?_⟩
            · obtain ⟨k, rfl⟩ : ∃ m, k = m + 1 := ⟨k - 1, by omega⟩
              show rootstocklaw14_parted.l0 (k + 1) (y :: ys) (sub row f t) (cut : Int) a b c l = some _
              rw [rootstocklaw14_parted.l0, hsl, hws.out, if_neg (by omega)]
            · constructor
              · intro h; cases h
              · rintro ⟨c', h3, h4, h5, h6⟩
                have := h6.len
                exact absurd ⟨h5, h6⟩ (hno c' h3 (by omega))
          | succ n ihn =>
            intro cut hn hc1 hc2 hno
            by_cases hcut : cut ≤ t - f - ys.length
            · have hw1 : Keep (wrap64 ((cut : Int) + 1) = ((cut + 1 : Nat) : Int)) := ⟨by rw [wrap_nat _ (by omega) (by omega)]; rfl⟩
              have hd := hder (f + cut) (by omega) (by omega)
              rw [decide_eq_true (show f < f + cut by omega), Bool.true_and] at hd
              by_cases hp : 0 < numS (toGr a b c l) row y f (f + cut)
              · rw [decide_eq_true hp] at hd
                obtain ⟨r, ⟨K, hK⟩, hr⟩ := ih (f + cut) t (by omega) (fun z hz => hys z (by simp [hz])) (by omega) ht
                cases r with
                | true =>
                  refine ⟨true, ⟨K + 1, fun k hk => ?_⟩, ?_⟩
                  · obtain ⟨k, rfl⟩ : ∃ m, k = m + 1 := ⟨k - 1, by omega⟩
                    show rootstocklaw14_parted.l0 (k + 1) (y :: ys) (sub row f t) (cut : Int) a b c l = some _
                    rw [rootstocklaw14_parted.l0, hsl, hws.out, if_pos (by omega), if_pos (by omega), if_pos (by omega), if_pos (by omega), show rd (y :: ys) 0 = y from rfl, Int.toNat_natCast, sub_take (by omega), der_to, hd, Option.bind_some, if_pos rfl, if_pos (by omega), sub_drop, show (y :: ys).drop 1 = ys from rfl]
                    have := hK k (by omega)
                    dsimp only at this
                    rw [this]
                    rfl
                  · exact ⟨fun _ => ⟨f + cut, by omega, by omega, hp, hr.1 rfl⟩, fun _ => rfl⟩
                | false =>
                  obtain ⟨r2, ⟨K2, hK2⟩, hr2⟩ := ihn (cut + 1) (by omega) (by omega) (by omega) (fun c' h3 h4 h5 => by
                    by_cases e : c' = f + cut
                    · subst e
                      have := hr.2 h5.2
                      cases this
                    · exact hno c' h3 (by omega) h5)
                  refine ⟨r2, ⟨K + K2 + 1, fun k hk => ?_⟩, hr2⟩
                  obtain ⟨k, rfl⟩ : ∃ m, k = m + 1 := ⟨k - 1, by omega⟩
                  show rootstocklaw14_parted.l0 (k + 1) (y :: ys) (sub row f t) (cut : Int) a b c l = some _
                  rw [rootstocklaw14_parted.l0, hsl, hws.out, if_pos (by omega), if_pos (by omega), if_pos (by omega), if_pos (by omega), show rd (y :: ys) 0 = y from rfl, Int.toNat_natCast, sub_take (by omega), der_to, hd, Option.bind_some, if_pos rfl, if_pos (by omega), sub_drop, show (y :: ys).drop 1 = ys from rfl]
                  have := hK k (by omega)
                  dsimp only at this
                  rw [this, Option.bind_some, if_neg (by decide), hw1.out]
                  exact hK2 k (by omega)
              · rw [decide_eq_false hp] at hd
                obtain ⟨r2, ⟨K2, hK2⟩, hr2⟩ := ihn (cut + 1) (by omega) (by omega) (by omega) (fun c' h3 h4 h5 => by
                  by_cases e : c' = f + cut
                  · subst e
                    exact hp h5.1
                  · exact hno c' h3 (by omega) h5)
                refine ⟨r2, ⟨K2 + 1, fun k hk => ?_⟩, hr2⟩
                obtain ⟨k, rfl⟩ : ∃ m, k = m + 1 := ⟨k - 1, by omega⟩
                show rootstocklaw14_parted.l0 (k + 1) (y :: ys) (sub row f t) (cut : Int) a b c l = some _
                rw [rootstocklaw14_parted.l0, hsl, hws.out, if_pos (by omega), if_pos (by omega), if_pos (by omega), if_pos (by omega), show rd (y :: ys) 0 = y from rfl, Int.toNat_natCast, sub_take (by omega), der_to, hd, Option.bind_some, if_neg (by decide), hw1.out]
                exact hK2 k (by omega)
            · refine ⟨false, ⟨1, fun k hk => ?_⟩, ?_⟩
              · obtain ⟨k, rfl⟩ : ∃ m, k = m + 1 := ⟨k - 1, by omega⟩
                show rootstocklaw14_parted.l0 (k + 1) (y :: ys) (sub row f t) (cut : Int) a b c l = some _
                rw [rootstocklaw14_parted.l0, hsl, hws.out, if_neg (by omega)]
              · constructor
                · intro h; cases h
                · rintro ⟨c', h3, h4, h5, h6⟩
                  have := h6.len
                  exact absurd ⟨h5, h6⟩ (hno c' h3 (by omega))
        obtain ⟨r, ⟨K, hK⟩, hr⟩ := loop (t - f - ys.length + 1) 1 (by omega) (by omega) (by omega) (fun c' h3 h4 => by omega)
        refine ⟨r, ⟨K + 2, fun k hk => ?_⟩, hr⟩
        obtain ⟨k, rfl⟩ : ∃ m, k = m + 1 + 1 := ⟨k - 2, by omega⟩
        show rootstocklaw14_parted.f (k + 1 + 1) a b c l (y :: ys) (sub row f t) = some _
        rw [rootstocklaw14_parted.f, if_neg hc0, hsl, decide_eq_false (by omega), rootstocklaw14_parted.j0, if_neg (by decide), if_neg (by omega)]
        exact hK k (by omega)
theorem ps_at {a b c : Int} {l : List S55} {i : Nat} (h : i < l.length) : (rd_T55 l (i : Int)).f0 = headAt (toGr a b c l) i ∧ (rd_T55 l (i : Int)).f1 = bodyAt (toGr a b c l) i := by
  simp [rd_T55, headAt, bodyAt, toGr, toPr, h]
theorem parts_l0 {a b c : Int} {l : List S55} {row : List Int} {s : Int} {A : Bool} (hc : H.checkI (toGr a b c l) = 0) (hrow : row.all (termB (toGr a b c l)) = true) (hl : row.length ≤ 64) (hT : a ≤ s) (hS : s < b) (hA : A = true ↔ 0 < numS (toGr a b c l) row s 0 row.length) :
    ∀ (n i : Nat) (F : Bool), l.length - i ≤ n → i ≤ l.length → (F = true ↔ ∃ p, p < i ∧ headAt (toGr a b c l) p = s ∧ PtS (toGr a b c l) row (bodyAt (toGr a b c l) p) 0 row.length) →
      Ev (fun k => rootstocklaw14_DeriveParts.l0 k s row A F (i : Int) a b c l) true := by
  have hg := GrD.of_check hc
  have hps : (toGr a b c l).ps.length = l.length := by simp [toGr]
  have hn64 : l.length ≤ 64 := by rw [← hps]; exact hg.ok.n1
  have hend : ∀ F : Bool, (F = true ↔ ∃ p, p < l.length ∧ headAt (toGr a b c l) p = s ∧ PtS (toGr a b c l) row (bodyAt (toGr a b c l) p) 0 row.length) → A = F := fun F hF => by
    rw [Bool.eq_iff_iff, hA, hF, numS_pos hg hT hS (Nat.zero_le _) (Nat.le_refl _), hps]
  intro n
  induction n with
  | zero =>
    intro i F hn hi hF
    obtain rfl : i = l.length := by omega
    refine ⟨1, fun k hk => ?_⟩
    obtain ⟨k, rfl⟩ : ∃ m, k = m + 1 := ⟨k - 1, by omega⟩
    show rootstocklaw14_DeriveParts.l0 (k + 1) s row A F _ a b c l = some true
    rw [rootstocklaw14_DeriveParts.l0, if_neg (by omega), hend F hF, if_pos (beq_self_eq_true F)]
    rfl
  | succ n ih =>
    intro i F hn hi hF
    by_cases hlt : i < l.length
    · have hw : Keep (wrap64 ((i : Int) + 1) = ((i + 1 : Nat) : Int)) := ⟨by rw [wrap_nat _ (by omega) (by omega)]; rfl⟩
      obtain ⟨p0, p1⟩ := ps_at (a := a) (b := b) (c := c) hlt
      have n1 : l.length - (i + 1) ≤ n := by clear hF hend hA p0 p1 ih; omega
      have n2 : i + 1 ≤ l.length := hlt
      cases F with
      | true =>
        obtain ⟨p, h1, h2, h3⟩ := hF.1 rfl
        obtain ⟨K, hK⟩ := ih (i + 1) true n1 n2 ⟨fun _ => ⟨p, by omega, h2, h3⟩, fun _ => rfl⟩
        refine ⟨K + 1, fun k hk => ?_⟩
        obtain ⟨k, rfl⟩ : ∃ m, k = m + 1 := ⟨k - 1, by omega⟩
        show rootstocklaw14_DeriveParts.l0 (k + 1) s row A true _ a b c l = some true
        rw [rootstocklaw14_DeriveParts.l0, if_pos (by omega), if_pos rfl, hw.out]
        exact hK k (by omega)
      | false =>
        have hF0 : ∀ p, p < i → headAt (toGr a b c l) p = s → ¬ PtS (toGr a b c l) row (bodyAt (toGr a b c l) p) 0 row.length := fun p h1 h2 h3 => by
          have := hF.2 ⟨p, h1, h2, h3⟩
          cases this
        by_cases hh : headAt (toGr a b c l) i = s
        · have hbody : ∀ y ∈ bodyAt (toGr a b c l) i, 0 ≤ y ∧ y < b := fun y hy => by
            obtain ⟨d, hd, rfl⟩ := List.getElem_of_mem hy
            have := hg.body (p := i) (d := d) (by omega) hd
            rw [List.getD_eq_getElem?_getD, List.getElem?_eq_getElem hd] at this
            exact this
          have hb8 : (bodyAt (toGr a b c l) i).length ≤ 64 := by
            rw [bodyAt_get (by omega)]
            have := body8 hc _ (List.getElem_mem (show i < (toGr a b c l).ps.length by omega))
            omega
          obtain ⟨r, ⟨K1, hK1⟩, hr⟩ := parted_any hc hrow hl (bodyAt (toGr a b c l) i) 0 row.length hb8 hbody (Nat.zero_le _) (Nat.le_refl _)
          rw [sub_all] at hK1
          obtain ⟨K, hK⟩ := ih (i + 1) r n1 n2 ⟨fun h => ⟨i, by omega, hh, hr.1 h⟩, fun hex => by
            obtain ⟨p, h1, h2, h3⟩ := hex
            by_cases e : p = i
            · subst e; exact hr.2 h3
            · exact absurd h3 (hF0 p (by omega) h2)⟩
          refine ⟨K1 + K + 1, fun k hk => ?_⟩
          obtain ⟨k, rfl⟩ : ∃ m, k = m + 1 := ⟨k - 1, by omega⟩
          show rootstocklaw14_DeriveParts.l0 (k + 1) s row A false _ a b c l = some true
          rw [rootstocklaw14_DeriveParts.l0, if_pos (by omega), if_neg (by decide), if_pos (by omega), p0, if_pos hh, p1, hw.out]
          have := hK1 k (by omega)
          dsimp only at this
          rw [this]
          exact hK k (by omega)
        · have hF1 : false = true ↔ ∃ p, p < i + 1 ∧ headAt (toGr a b c l) p = s ∧ PtS (toGr a b c l) row (bodyAt (toGr a b c l) p) 0 row.length := by
            constructor
            · intro h; cases h
            · rintro ⟨p, h1, h2, h3⟩
              by_cases e : p = i
              · subst e; exact absurd h2 hh
              · exact absurd h3 (hF0 p (Nat.lt_of_le_of_ne (Nat.le_of_lt_succ h1) e) h2)
          obtain ⟨K, hK⟩ := ih (i + 1) false n1 n2 hF1
          refine ⟨K + 1, fun k hk => ?_⟩
          obtain ⟨k, rfl⟩ : ∃ m, k = m + 1 := ⟨k - 1, by omega⟩
          show rootstocklaw14_DeriveParts.l0 (k + 1) s row A false _ a b c l = some true
          rw [rootstocklaw14_DeriveParts.l0, if_pos (by omega), if_neg (by decide), if_pos (by omega), p0, if_neg hh, hw.out]
          exact hK k (by omega)
    · obtain rfl : i = l.length := by omega
      refine ⟨1, fun k hk => ?_⟩
      obtain ⟨k, rfl⟩ : ∃ m, k = m + 1 := ⟨k - 1, by omega⟩
      show rootstocklaw14_DeriveParts.l0 (k + 1) s row A F _ a b c l = some true
      rw [rootstocklaw14_DeriveParts.l0, if_neg (by omega), hend F hF, if_pos (beq_self_eq_true F)]
      rfl
theorem parts_pure (a b c : Int) (l : List S55) (s : Int) (row : List Int) : ∃ k, rootstocklaw14_DeriveParts.f k a b c l s row = some true := by
  obtain ⟨r, ⟨K0, hK0⟩, hr⟩ := great_any a b c l
  by_cases hbig : r = true ∨ row.length > 8
  · refine ⟨K0 + 1, ?_⟩
    have h0 := hK0 (K0 + 1) (by omega)
    dsimp only at h0
    rw [rootstocklaw14_DeriveParts.f, h0, Option.bind_some]
    by_cases h : r = true
    · rw [if_pos h, rootstocklaw14_DeriveParts.j0, if_pos rfl]
      rfl
    · rw [if_neg h, decide_eq_true (by have := hbig.resolve_left h; omega), rootstocklaw14_DeriveParts.j0, if_pos rfl]
      rfl
  have hrf : r = false := by cases r with | true => exact absurd (.inl rfl) hbig | false => rfl
  have hl8 : row.length ≤ 8 := by
    have : ¬ row.length > 8 := fun h => hbig (.inr h)
    omega
  subst hrf
  have main : Ev (fun k => rootstocklaw14_DeriveParts.j0 k s row false a b c l) true := by
    by_cases hE : startE (toGr a b c l) s row = 0
    · obtain ⟨h1, h2, h3, h4⟩ := startE_zero hE
      have hg := GrD.of_check h1
      have hd : derR (toGr a b c l) s row = (decide (0 < row.length) && decide (0 < numS (toGr a b c l) row s 0 row.length), 0) := by unfold derR; rw [if_pos hE]
      by_cases hT : s < a
      · have hn := numS_eq (row := row) hg h2.1 h2.2 (Nat.zero_le _) (Nat.le_refl row.length)
        unfold symEq at hn
        rw [if_pos (show s < (toGr a b c l).T from hT)] at hn
        refine ⟨1, fun k hk => ?_⟩
        obtain ⟨k, rfl⟩ : ∃ m, k = m + 1 := ⟨k - 1, by omega⟩
        show rootstocklaw14_DeriveParts.j0 (k + 1) s row false a b c l = some true
        rw [rootstocklaw14_DeriveParts.j0, if_neg (by decide), der_to, hd, Option.bind_some, if_pos rfl, if_pos hT, hn]
        by_cases hl1 : row.length = 1
        · have hr0 : rd row 0 = row[0] := rd_get row 0 (by omega)
          have hx : row[0]? = some row[0] := List.getElem?_eq_getElem (by omega)
          rw [if_pos (by omega), if_pos (by omega), if_pos]
          · rfl
          · rw [hr0, hx]
            by_cases e : row[0] = s
            · simp [e, hl1]
            · simp [e, hl1]
        · rw [if_neg (by omega), if_pos]
          · rfl
          · rw [if_neg (by omega)]
            simp
      · have hps := hg.ok
        obtain ⟨K, hK⟩ := parts_l0 (A := decide (0 < row.length) && decide (0 < numS (toGr a b c l) row s 0 row.length)) h1 h3 (by omega) (by omega) h2.2 (by
          rw [Bool.and_eq_true, decide_eq_true_iff, decide_eq_true_iff]
          constructor
          · exact fun h => h.2
          · intro h
            refine ⟨?_, h⟩
            obtain ⟨p, hp, _, hb⟩ := (numS_pos hg (show (toGr a b c l).T ≤ s by show a ≤ s; omega) h2.2 (Nat.zero_le _) (Nat.le_refl _)).1 h
            have := hb.len
            have hne := hg.ne _ (List.getElem_mem hp)
            rw [bodyAt_get hp] at this
            omega) l.length 0 false (by omega) (Nat.zero_le _) ⟨fun h => by (cases h), fun ⟨p, h, _⟩ => absurd h (Nat.not_lt_zero _)⟩
        refine ⟨K + 1, fun k hk => ?_⟩
        obtain ⟨k, rfl⟩ : ∃ m, k = m + 1 := ⟨k - 1, by omega⟩
        show rootstocklaw14_DeriveParts.j0 (k + 1) s row false a b c l = some true
        rw [rootstocklaw14_DeriveParts.j0, if_neg (by decide), der_to, hd, Option.bind_some, if_pos rfl, if_neg hT]
        exact hK k (by omega)
    · have hd : derR (toGr a b c l) s row = (false, startE (toGr a b c l) s row) := by unfold derR; rw [if_neg hE]
      refine ⟨1, fun k hk => ?_⟩
      obtain ⟨k, rfl⟩ : ∃ m, k = m + 1 := ⟨k - 1, by omega⟩
      show rootstocklaw14_DeriveParts.j0 (k + 1) s row false a b c l = some true
      rw [rootstocklaw14_DeriveParts.j0, if_neg (by decide), der_to, hd, Option.bind_some, if_neg hE, if_neg (by simp)]
      rfl
  obtain ⟨K, hK⟩ := main
  refine ⟨K0 + K, ?_⟩
  have h0 := hK0 (K0 + K) (by omega)
  dsimp only at h0
  rw [rootstocklaw14_DeriveParts.f, h0, Option.bind_some, if_neg (by decide), decide_eq_false (by omega)]
  exact hK (K0 + K) (by omega)
end Go.Proofs.Ytadabkkkalgehaa.PPa
/-
  DeriveParts returns true.
-/
namespace Go.Proofs.Ytadabkkkalgehaa.PPa
open Go.RowKit Go.Proofs.YtadabkkkalgehaaW.PrintWords
theorem parts_walk (g : H.Gr) (s : Int) (l2 : List Int) (A A2 : Option Addr) (c c2 : Nat) (w : World) (h : H.GrIn w g A c) (hl : l2.length ≤ c2 ∧ c2 ≤ 9223372036854775807) (hr : H.Rd H.eI 1 w w.heap.size A2 l2) :
    Calls Try.prog 8 #[H.grV g A c, .int .i64 s, .slice A2 l2.length c2] w fun e w' => e = .returned (.bool true) ∧ Below w.heap.size w w' := by
  have hm : l2.length ≤ 9223372036854775807 := by omega
  obtain ⟨k, hk⟩ := parts_pure g.T g.S g.st (g.ps.map unPr) s l2
  have := rootstocklaw14_DeriveParts.calls k g.T g.S g.st A c (g.ps.map unPr) s A2 c2 l2 true w (rdP_to h.r h.l2 h.b) (by simpa using h.l) (rdI_to hr hm) hl.1 rfl hk
  rw [← grV_of, toGr_un] at this
  exact this
end Go.Proofs.Ytadabkkkalgehaa.PPa
