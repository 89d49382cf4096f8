/-
  derive: how many trees a symbol has of a stretch, as a plain function; that the equations have one solution.
-/
import Derived.Test.YtadabkkkalgehaaCy
namespace Go.Proofs.Ytadabkkkalgehaa.H
set_option linter.unusedVariables false
set_option linter.unusedSimpArgs false

def bodyAt (g : Gr) (p : Nat) : List Int := (g.ps.getD p ⟨0, [], false⟩).body
def headAt (g : Gr) (p : Nat) : Int := (g.ps.getD p ⟨0, [], false⟩).head
theorem bodyAt_get {g : Gr} {p : Nat} (h : p < g.ps.length) : bodyAt g p = g.ps[p].body := by simp [bodyAt, h]
theorem headAt_get {g : Gr} {p : Nat} (h : p < g.ps.length) : headAt g p = g.ps[p].head := by simp [headAt, h]

def symEq (g : Gr) (row : List Int) (B : Nat → Nat → Nat → Nat → Nat) (s : Int) (f t : Nat) : Nat :=
  if s < g.T then (if t = f + 1 ∧ row[f]? = some s then 1 else 0)
  else ((List.range g.ps.length).map fun p => if headAt g p = s then B p 0 f t else 0).sum
def bodyEq (g : Gr) (S : Int → Nat → Nat → Nat) (B : Nat → Nat → Nat → Nat → Nat) (p d f t : Nat) : Nat :=
  if t - f < (bodyAt g p).length - d then 0
  else if (bodyAt g p).length - d = 0 then (if f = t then 1 else 0)
  else if (bodyAt g p).length - d = 1 then S ((bodyAt g p).getD d 0) f t
  else ((List.range (t + 1 - ((bodyAt g p).length - d) - f)).map fun i => S ((bodyAt g p).getD d 0) f (f + 1 + i) * B p (d + 1) (f + 1 + i) t).sum
def cnt (g : Gr) (row : List Int) : Nat → (Int → Nat → Nat → Nat) × (Nat → Nat → Nat → Nat → Nat)
  | 0 => (fun _ _ _ => 0, fun _ _ _ _ => 0)
  | n + 1 => (symEq g row (cnt g row n).2, bodyEq g (cnt g row n).1 (cnt g row n).2)
/-- What a unit production leads to has a lower rank. -/
def Rk (g : Gr) : Nat → Int → Prop
  | 0, s => s < g.T
  | n + 1, s => ∀ p ∈ g.ps, p.head = s → p.body.length = 1 → Rk g n (p.body.getD 0 0)
theorem Rk.up {g : Gr} (ok : GrOk g) : ∀ (n : Nat) (s : Int), Rk g n s → Rk g (n + 1) s := by
  intro n
  induction n with
  | zero =>
    intro s h p hp hh hl
    have := (ok.pr p hp).1
    have h' : s < g.T := h
    omega
  | succ n ih => intro s h p hp hh hl; exact ih _ (h p hp hh hl)
theorem Rk.le {g : Gr} (ok : GrOk g) {n m : Nat} {s : Int} (h : Rk g n s) (hm : n ≤ m) : Rk g m s := by
  obtain ⟨k, rfl⟩ := Nat.le.dest hm
  clear hm
  induction k with
  | zero => exact h
  | succ k ih => exact Rk.up ok _ _ ih
theorem all_le {n : Nat} {P : Nat → Nat → Prop} (hP : ∀ i a b, a ≤ b → P i a → P i b) (h : ∀ i, i < n → ∃ a, P i a) : ∃ a, ∀ i, i < n → P i a := by
  induction n with
  | zero => exact ⟨0, fun i hi => absurd hi (Nat.not_lt_zero _)⟩
  | succ n ih =>
    obtain ⟨a, ha⟩ := ih (fun i hi => h i (by omega))
    obtain ⟨b, hb⟩ := h n (by omega)
    refine ⟨max a b, fun i hi => ?_⟩
    by_cases e : i = n
    · subst e; exact hP _ _ _ (Nat.le_max_right _ _) hb
    · exact hP _ _ _ (Nat.le_max_left _ _) (ha i (by omega))
theorem ranked {g : Gr} (ok : GrOk g) (hr : roundB g = false) (hp : ∀ p ∈ g.ps, 0 < p.body.length) : ∃ R, ∀ s, 0 ≤ s → s < g.S → Rk g R s := by
  have each : ∀ s, g.T ≤ s → s < g.S → ∃ n, Rk g n s := by
    intro s h0 h1
    apply Classical.byContradiction
    intro hne
    have : roundB g = true := by
      rw [round_spec ok]
      refine ⟨fun s => g.T ≤ s ∧ s < g.S ∧ ¬ ∃ n, Rk g n s, ⟨s, h0, h1, hne⟩, fun s hs => ⟨hs.1, hs.2.1⟩, fun s hs => ?_⟩
      apply Classical.byContradiction
      intro hno
      refine hs.2.2 ?_
      have hall : ∀ i, i < g.ps.length → ∃ n, g.ps[i]?.all (fun p => decide (p.head = s ∧ p.body.length = 1)) = true → ∀ p, g.ps[i]? = some p → Rk g n (p.body.getD 0 0) := by
        intro i hi
        by_cases hc : g.ps[i].head = s ∧ g.ps[i].body.length = 1
        · have hb : ∃ n, Rk g n (g.ps[i].body.getD 0 0) := by
            apply Classical.byContradiction
            intro hb
            refine hno ⟨g.ps[i], List.getElem_mem hi, hc.1, hc.2, ?_⟩
            have hm : g.ps[i].body.getD 0 0 ∈ g.ps[i].body := by
              rw [List.getD_eq_getElem?_getD, List.getElem?_eq_getElem (by omega)]
              exact List.getElem_mem _
            have hr := (ok.pr _ (List.getElem_mem hi)).2.2 _ hm
            refine ⟨?_, hr.2, hb⟩
            apply Classical.byContradiction
            intro hT
            exact hb ⟨0, by show g.ps[i].body.getD 0 0 < g.T; omega⟩
          obtain ⟨n, hn⟩ := hb
          exact ⟨n, fun _ p hp => by rw [List.getElem?_eq_getElem hi] at hp; injection hp with hp; subst hp; exact hn⟩
        · refine ⟨0, fun h => ?_⟩
          rw [List.getElem?_eq_getElem hi] at h
          simp [hc] at h
      obtain ⟨N, hN⟩ := all_le (P := fun i n => g.ps[i]?.all (fun p => decide (p.head = s ∧ p.body.length = 1)) = true → ∀ p, g.ps[i]? = some p → Rk g n (p.body.getD 0 0))
        (fun i a b hab h hc p hp => (h hc p hp).le ok hab) hall
      refine ⟨N + 1, fun p hp hh hl => ?_⟩
      obtain ⟨i, hi, rfl⟩ := List.getElem_of_mem hp
      exact hN i hi (by rw [List.getElem?_eq_getElem hi]; simp [hh, hl]) _ (List.getElem?_eq_getElem hi)
    rw [hr] at this
    cases this
  obtain ⟨R, hR⟩ := all_le (n := g.S.toNat) (P := fun i a => Rk g a (i : Int)) (fun i a b hab h => h.le ok hab) (fun i hi => by
    by_cases hT : (i : Int) < g.T
    · exact ⟨0, hT⟩
    · exact each i (by omega) (by omega))
  refine ⟨R, fun s h0 h1 => ?_⟩
  have := hR s.toNat (by omega)
  rwa [show ((s.toNat : Nat) : Int) = s from by omega] at this

/-- What is asked of the grammar here. -/
structure GrD (g : Gr) (R : Nat) : Prop where
  ok : GrOk g
  ne : ∀ p ∈ g.ps, 0 < p.body.length
  rk : ∀ s, 0 ≤ s → s < g.S → Rk g R s
theorem GrD.body {g : Gr} {R : Nat} (h : GrD g R) {p d : Nat} (hp : p < g.ps.length) (hd : d < (bodyAt g p).length) : 0 ≤ (bodyAt g p).getD d 0 ∧ (bodyAt g p).getD d 0 < g.S := by
  rw [bodyAt_get hp] at *
  have hm : g.ps[p].body.getD d 0 ∈ g.ps[p].body := by rw [List.getD_eq_getElem?_getD, List.getElem?_eq_getElem hd]; exact List.getElem_mem _
  exact (h.ok.pr _ (List.getElem_mem hp)).2.2 _ hm
theorem GrD.head {g : Gr} {R : Nat} (h : GrD g R) {p : Nat} (hp : p < g.ps.length) : g.T ≤ headAt g p ∧ headAt g p < g.S := by
  rw [headAt_get hp]
  exact ⟨(h.ok.pr _ (List.getElem_mem hp)).1, (h.ok.pr _ (List.getElem_mem hp)).2.1⟩
theorem GrD.unit {g : Gr} {R : Nat} (h : GrD g R) {r p : Nat} (hp : p < g.ps.length) (hr : Rk g r (headAt g p)) (hl : (bodyAt g p).length = 1) : ∃ r', r = r' + 1 ∧ Rk g r' ((bodyAt g p).getD 0 0) := by
  cases r with
  | zero => have h1 : headAt g p < g.T := hr; have := (h.head hp).1; omega
  | succ r =>
    refine ⟨r, rfl, ?_⟩
    rw [headAt_get hp] at hr
    rw [bodyAt_get hp] at *
    exact hr _ (List.getElem_mem hp) rfl hl

/-- How deep a stretch is. -/
def depS (R r f t : Nat) : Nat := (t - f) * (2 * R + 4) + 2 * r + 1
def depB (R r d f t : Nat) : Nat := (t - f) * (2 * R + 4) + (if d = 0 then 2 * r else 2 * R + 2)
theorem dep_short {R r d f t f' t' : Nat} (h : t' - f' < t - f) (hr : r ≤ R) : depS R r f' t' < depB R 0 d f t ∧ depB R r d f' t' < depB R 0 d f t := by
  have h1 : (t' - f') * (2 * R + 4) + (2 * R + 4) ≤ (t - f) * (2 * R + 4) := by
    have := Nat.mul_le_mul_right (2 * R + 4) (show t' - f' + 1 ≤ t - f by omega)
    rw [Nat.add_mul] at this
    omega
  unfold depS depB
  constructor
  · split <;> omega
  · split <;> omega

theorem map_sum_congr {α : Type} {l : List α} {f h : α → Nat} (e : ∀ x ∈ l, f x = h x) : (l.map f).sum = (l.map h).sum := by rw [List.map_congr_left e]

/-- The stable part: two functions that each satisfy the equations above some depth. -/
theorem cnt_stable {g : Gr} {R : Nat} {row : List Int} (hg : GrD g R) : ∀ (D : Nat),
    (∀ r s f t n m, Rk g r s → r ≤ R → 0 ≤ s → s < g.S → f ≤ t → t ≤ row.length → depS R r f t ≤ D → D < n → D < m → (cnt g row n).1 s f t = (cnt g row m).1 s f t) ∧
    (∀ r p d f t n m, (d = 0 → Rk g r (headAt g p)) → r ≤ R → p < g.ps.length → d ≤ (bodyAt g p).length → f ≤ t → t ≤ row.length → depB R r d f t ≤ D → D < n → D < m → (cnt g row n).2 p d f t = (cnt g row m).2 p d f t) := by
  intro D
  induction D using Nat.strongRecOn with
  | _ D ih =>
    constructor
    · intro r s f t n m hr hrR h0 h1 hft ht hD hn hm
      obtain ⟨n, rfl⟩ : ∃ k, n = k + 1 := ⟨n - 1, by omega⟩
      obtain ⟨m, rfl⟩ : ∃ k, m = k + 1 := ⟨m - 1, by omega⟩
      show symEq g row (cnt g row n).2 s f t = symEq g row (cnt g row m).2 s f t
      unfold symEq
      split
      · rfl
      · refine map_sum_congr fun p hp => ?_
        have hp' := List.mem_range.1 hp
        split
        · rename_i hh
          have hlt : depB R r 0 f t < D := by unfold depS at hD; unfold depB; simp only [if_true]; omega
          exact (ih (depB R r 0 f t) hlt).2 r p 0 f t n m (fun _ => by rw [hh]; exact hr) hrR hp' (by omega) hft ht (Nat.le_refl _) (by omega) (by omega)
        · rfl
    · intro r p d f t n m hr hrR hp hd hft ht hD hn hm
      obtain ⟨n, rfl⟩ : ∃ k, n = k + 1 := ⟨n - 1, by omega⟩
      obtain ⟨m, rfl⟩ : ∃ k, m = k + 1 := ⟨m - 1, by omega⟩
      show bodyEq g (cnt g row n).1 (cnt g row n).2 p d f t = bodyEq g (cnt g row m).1 (cnt g row m).2 p d f t
      unfold bodyEq
      split
      · rfl
      split
      · rfl
      split
      · rename_i h1 h2 h3
        have hb := hg.body hp (show d < (bodyAt g p).length by omega)
        by_cases hd0 : d = 0
        · subst hd0
          obtain ⟨r', rfl, hr'⟩ := hg.unit hp (hr rfl) (by omega)
          have hlt : depS R r' f t < D := by unfold depB at hD; simp only [if_true] at hD; unfold depS; omega
          exact (ih _ hlt).1 r' _ f t n m hr' (by omega) hb.1 hb.2 hft ht (Nat.le_refl _) (by omega) (by omega)
        · have hlt : depS R R f t < D := by unfold depB at hD; rw [if_neg hd0] at hD; unfold depS; omega
          exact (ih _ hlt).1 R _ f t n m (hg.rk _ hb.1 hb.2) (Nat.le_refl _) hb.1 hb.2 hft ht (Nat.le_refl _) (by omega) (by omega)
      · rename_i h1 h2 h3
        refine map_sum_congr fun i hi => ?_
        have hi' := List.mem_range.1 hi
        have hb := hg.body hp (show d < (bodyAt g p).length by omega)
        have hbase : depB R 0 d f t ≤ D := by unfold depB at hD ⊢; split at hD <;> rename_i hd0 <;> simp only [hd0, if_true, if_false] <;> omega
        have hbase1 : ∀ q, q < depB R 0 d f t → q < D := fun q hq => by omega
        have e1 := hbase1 _ (dep_short (R := R) (r := R) (d := d) (f := f) (t := t) (f' := f) (t' := f + 1 + i) (by omega) (Nat.le_refl _)).1
        have e2 : depB R 0 (d + 1) (f + 1 + i) t < D := by
          have h5 := (dep_short (R := R) (r := R) (d := d) (f := f) (t := t) (f' := f + 1 + i) (t' := t) (by omega) (Nat.le_refl _)).1
          have h6 : depB R 0 (d + 1) (f + 1 + i) t ≤ depS R R (f + 1 + i) t + 1 := by unfold depB depS; rw [if_neg (by omega)]; omega
          have h7 : depS R R (f + 1 + i) t + 1 < depB R 0 d f t := by
            have h1 : (t - (f + 1 + i)) * (2 * R + 4) + (2 * R + 4) ≤ (t - f) * (2 * R + 4) := by
              have := Nat.mul_le_mul_right (2 * R + 4) (show t - (f + 1 + i) + 1 ≤ t - f by omega)
              rw [Nat.add_mul] at this
              omega
            unfold depS depB
            split <;> omega
          omega
        rw [(ih _ e1).1 R _ f (f + 1 + i) n m (hg.rk _ hb.1 hb.2) (Nat.le_refl _) hb.1 hb.2 (by omega) (by omega) (Nat.le_refl _) (by omega) (by omega),
          (ih _ e2).2 0 p (d + 1) (f + 1 + i) t n m (fun h => by omega) (Nat.zero_le _) hp (by omega) (by omega) ht (Nat.le_refl _) (by omega) (by omega)]

def depN (R len : Nat) : Nat := len * (2 * R + 4) + 2 * R + 3
theorem depS_le {R r f t len : Nat} (hr : r ≤ R) (ht : t ≤ len) : depS R r f t < depN R len := by
  unfold depS depN
  have := Nat.mul_le_mul_right (2 * R + 4) (show t - f ≤ len by omega)
  omega
theorem depB_le {R r d f t len : Nat} (hr : r ≤ R) (ht : t ≤ len) : depB R r d f t < depN R len := by
  unfold depB depN
  have := Nat.mul_le_mul_right (2 * R + 4) (show t - f ≤ len by omega)
  split <;> omega
noncomputable def rankOf (g : Gr) : Nat := @dite _ (∃ R, ∀ s, 0 ≤ s → s < g.S → Rk g R s) (Classical.propDecidable _) (fun h => Classical.choose h) (fun _ => 0)
theorem rankOf_spec {g : Gr} (h : ∃ R, ∀ s, 0 ≤ s → s < g.S → Rk g R s) : ∀ s, 0 ≤ s → s < g.S → Rk g (rankOf g) s := by
  unfold rankOf
  rw [dif_pos h]
  exact Classical.choose_spec h
/-- How many trees there are: of a symbol, of what stands behind a dot. -/
noncomputable def numS (g : Gr) (row : List Int) : Int → Nat → Nat → Nat := (cnt g row (depN (rankOf g) row.length)).1
noncomputable def numB (g : Gr) (row : List Int) : Nat → Nat → Nat → Nat → Nat := (cnt g row (depN (rankOf g) row.length)).2
theorem GrD.of_check {g : Gr} (h : checkI g = 0) : GrD g (rankOf g) := by
  obtain ⟨h1, h2, h3, h4⟩ := checkI_zero h
  exact ⟨GrIn.ok h, fun p hp => (h2 p hp).1, rankOf_spec (ranked (GrIn.ok h) h4 (fun p hp => (h2 p hp).1))⟩
theorem num_eval {g : Gr} {row : List Int} {R n : Nat} (hg : GrD g R) (hn : depN R row.length ≤ n) {s : Int} {f t : Nat} (h0 : 0 ≤ s) (h1 : s < g.S) (hft : f ≤ t) (ht : t ≤ row.length) : numS g row s f t = (cnt g row n).1 s f t := by
  have hg' : GrD g (rankOf g) := ⟨hg.ok, hg.ne, rankOf_spec ⟨R, hg.rk⟩⟩
  have a := (cnt_stable (row := row) hg (depS R R f t)).1 R s f t n (max n (depN (rankOf g) row.length)) (hg.rk s h0 h1) (Nat.le_refl _) h0 h1 hft ht (Nat.le_refl _) (Nat.lt_of_lt_of_le (depS_le (Nat.le_refl _) ht) hn)
    (Nat.lt_of_lt_of_le (Nat.lt_of_lt_of_le (depS_le (Nat.le_refl _) ht) hn) (Nat.le_max_left _ _))
  have b := (cnt_stable (row := row) hg' (depS (rankOf g) (rankOf g) f t)).1 (rankOf g) s f t (depN (rankOf g) row.length) (max n (depN (rankOf g) row.length)) (hg'.rk s h0 h1) (Nat.le_refl _) h0 h1 hft ht (Nat.le_refl _) (depS_le (Nat.le_refl _) ht)
    (Nat.lt_of_lt_of_le (depS_le (Nat.le_refl _) ht) (Nat.le_max_right _ _))
  unfold numS
  rw [b, ← a]
theorem numS_eq {g : Gr} {row : List Int} (hg : GrD g (rankOf g)) {s : Int} {f t : Nat} (h0 : 0 ≤ s) (h1 : s < g.S) (hft : f ≤ t) (ht : t ≤ row.length) : numS g row s f t = symEq g row (numB g row) s f t := by
  rw [num_eval (n := depN (rankOf g) row.length + 1) hg (Nat.le_succ _) h0 h1 hft ht]
  rfl
theorem numB_eq {g : Gr} {row : List Int} (hg : GrD g (rankOf g)) {p d f t : Nat} (hp : p < g.ps.length) (hd : d ≤ (bodyAt g p).length) (hft : f ≤ t) (ht : t ≤ row.length) : numB g row p d f t = bodyEq g (numS g row) (numB g row) p d f t := by
  have hh := hg.head hp
  have hT := hg.ok.t0
  have b := (cnt_stable (row := row) hg (depB (rankOf g) (rankOf g) d f t)).2 (rankOf g) p d f t (depN (rankOf g) row.length) (depN (rankOf g) row.length + 1) (fun _ => hg.rk _ (by omega) hh.2) (Nat.le_refl _) hp hd hft ht (Nat.le_refl _) (depB_le (Nat.le_refl _) ht)
    (Nat.lt_succ_of_lt (depB_le (Nat.le_refl _) ht))
  unfold numB numS
  rw [b]
  rfl

/-! what is counted: at most one more than 2^30 -/
def cap (n : Nat) : Int := ((min n 1073741825 : Nat) : Int)
theorem cap_range (n : Nat) : 0 ≤ cap n ∧ cap n ≤ 1073741825 := by unfold cap; omega
theorem cap_pos (n : Nat) : 0 < cap n ↔ 0 < n := by unfold cap; omega
theorem cap_add (a b : Nat) : (if cap a + cap b < 1073741825 then cap a + cap b else 1073741825) = cap (a + b) := by unfold cap; split <;> omega
theorem cap_zero : cap 0 = 0 := rfl
theorem cap_one : cap 1 = 1 := rfl
theorem cap_mul (a b : Nat) : cap (a * b) = ((min (min a 1073741825 * min b 1073741825) 1073741825 : Nat) : Int) := by
  unfold cap
  congr 1
  by_cases ha : a ≤ 1073741825
  · rw [Nat.min_eq_left ha]
    by_cases hb : b ≤ 1073741825
    · rw [Nat.min_eq_left hb]
    · rw [Nat.min_eq_right (show 1073741825 ≤ b by omega)]
      rcases Nat.eq_zero_or_pos a with h | h
      · subst h; simp
      · have h1 := Nat.mul_le_mul h (show 1073741825 ≤ b by omega)
        have h2 := Nat.mul_le_mul h (Nat.le_refl 1073741825)
        omega
  · rw [Nat.min_eq_right (show 1073741825 ≤ a by omega)]
    rcases Nat.eq_zero_or_pos b with h | h
    · subst h; simp
    · have h1 := Nat.mul_le_mul (show 1073741825 ≤ a by omega) h
      have h2 := Nat.mul_le_mul (Nat.le_refl 1073741825) (show 1 ≤ min b 1073741825 by omega)
      omega
end Go.Proofs.Ytadabkkkalgehaa.H
