import Derived.Test.YtadabkkkalgehaaPlP
/-
  derive: rows that a symbol becomes, as derivations; what begins with a row goes on to one.
-/
namespace Go.Proofs.Ytadabkkkalgehaa.H
set_option linter.unusedVariables false
set_option linter.unusedSimpArgs false

mutual
/-- A symbol becomes a row of terminals. -/
inductive Der (g : Gr) : Int → List Int → Prop where
  | term {s : Int} (h0 : 0 ≤ s) (h : s < g.T) : Der g s [s]
  | prod {p : Nat} {w : List Int} (hp : p < g.ps.length) (h : DerL g (bodyAt g p) w) : Der g (headAt g p) w
/-- Symbols become a row, one behind the other. -/
inductive DerL (g : Gr) : List Int → List Int → Prop where
  | nil : DerL g [] []
  | cons {y : Int} {ys u v : List Int} (h : Der g y u) (t : DerL g ys v) : DerL g (y :: ys) (u ++ v)
end
theorem DerL.append {g : Gr} : ∀ {b c u v : List Int}, DerL g b u → DerL g c v → DerL g (b ++ c) (u ++ v) := by
  intro b
  induction b with
  | nil => intro c u v h k; cases h; exact k
  | cons y ys ih =>
    intro c u v h k
    cases h with
    | cons h t =>
      rw [List.cons_append, List.append_assoc]
      exact .cons h (ih t k)
theorem Der.ne {g : Gr} (hg : GrD g (rankOf g)) {s : Int} {w : List Int} (h : Der g s w) : 0 < w.length := by
  refine Der.rec (motive_1 := fun s w _ => 0 < w.length) (motive_2 := fun b w _ => b.length ≤ w.length) ?_ ?_ ?_ ?_ h
  · intro s _ _; simp
  · intro p w hp _ ih
    have := hg.ne _ (List.getElem_mem hp)
    rw [bodyAt_get hp] at ih
    omega
  · simp
  · intro y ys u v _ _ h1 h2
    simp
    omega
/-- A derived row is of terminals. -/
theorem Der.terms {g : Gr} {s : Int} {w : List Int} (h : Der g s w) : ∀ y ∈ w, 0 ≤ y ∧ y < g.T := by
  refine Der.rec (motive_1 := fun s w _ => ∀ y ∈ w, 0 ≤ y ∧ y < g.T) (motive_2 := fun b w _ => ∀ y ∈ w, 0 ≤ y ∧ y < g.T) ?_ ?_ ?_ ?_ h
  · intro s h0 h y hy
    rw [List.mem_singleton] at hy
    subst hy
    exact ⟨h0, h⟩
  · intro p w _ _ ih; exact ih
  · intro y hy; cases hy
  · intro y ys u v _ _ h1 h2 z hz
    rcases List.mem_append.1 hz with hz | hz
    · exact h1 z hz
    · exact h2 z hz
theorem sub_split {row : List Int} {f c t : Nat} (h1 : f ≤ c) (h2 : c ≤ t) : sub row f t = sub row f c ++ sub row c t := by
  have := List.take_append_drop (c - f) (sub row f t)
  rw [sub_take (by omega), sub_drop, show f + (c - f) = c from by omega] at this
  exact this.symm
theorem sub_one {row : List Int} {f : Nat} {s : Int} (h : row[f]? = some s) : sub row f (f + 1) = [s] := by
  obtain ⟨hf, rfl⟩ := List.getElem?_eq_some_iff.1 h
  unfold sub
  rw [List.take_succ_eq_append_getElem hf, List.drop_append_of_le_length (by simp; omega)]
  simp
/-- What is counted is derived. -/
theorem cnt_der {g : Gr} {row : List Int} (hg : GrD g (rankOf g)) : ∀ n, (∀ s f t, 0 ≤ s → s < g.S → f ≤ t → t ≤ row.length → 0 < (cnt g row n).1 s f t → Der g s (sub row f t)) ∧ (∀ p d f t, p < g.ps.length → d ≤ (bodyAt g p).length → f ≤ t → t ≤ row.length → 0 < (cnt g row n).2 p d f t → DerL g ((bodyAt g p).drop d) (sub row f t)) := by
  intro n
  induction n with
  | zero => exact ⟨fun s f t _ _ _ _ h => absurd h (Nat.lt_irrefl 0), fun p d f t _ _ _ _ h => absurd h (Nat.lt_irrefl 0)⟩
  | succ n ih =>
    obtain ⟨ih1, ih2⟩ := ih
    constructor
    · intro s f t h0 h1 hft ht h
      have h : 0 < symEq g row (cnt g row n).2 s f t := h
      unfold symEq at h
      by_cases hs : s < g.T
      · rw [if_pos hs] at h
        by_cases e : t = f + 1 ∧ row[f]? = some s
        · obtain ⟨rfl, e2⟩ := e
          rw [sub_one e2]
          exact .term h0 hs
        · rw [if_neg e] at h
          omega
      · rw [if_neg hs, sum_pos] at h
        obtain ⟨x, hx, hx0⟩ := h
        obtain ⟨p, hp, rfl⟩ := List.mem_map.1 hx
        have hp' := List.mem_range.1 hp
        by_cases hh : headAt g p = s
        · rw [if_pos hh] at hx0
          subst hh
          exact .prod hp' (by simpa using ih2 p 0 f t hp' (Nat.zero_le _) hft ht hx0)
        · rw [if_neg hh] at hx0
          omega
    · intro p d f t hp hd hft ht h
      have h : 0 < bodyEq g (cnt g row n).1 (cnt g row n).2 p d f t := h
      unfold bodyEq at h
      by_cases h1 : t - f < (bodyAt g p).length - d
      · rw [if_pos h1] at h; omega
      rw [if_neg h1] at h
      by_cases h2 : (bodyAt g p).length - d = 0
      · rw [if_pos h2] at h
        by_cases e : f = t
        · subst e
          rw [List.drop_eq_nil_of_le (by omega)]
          have : sub row f f = [] := by apply List.eq_nil_of_length_eq_zero; rw [sub_len ht]; omega
          rw [this]
          exact .nil
        · rw [if_neg e] at h; omega
      rw [if_neg h2] at h
      have hlt : d < (bodyAt g p).length := by omega
      have hy := hg.body hp hlt
      have hdr : (bodyAt g p).drop d = (bodyAt g p).getD d 0 :: (bodyAt g p).drop (d + 1) := by
        rw [List.drop_eq_getElem_cons hlt, List.getD_eq_getElem?_getD, List.getElem?_eq_getElem hlt]
        rfl
      rw [hdr]
      by_cases h3 : (bodyAt g p).length - d = 1
      · rw [if_pos h3] at h
        rw [List.drop_eq_nil_of_le (show (bodyAt g p).length ≤ d + 1 by omega)]
        have := DerL.cons (ih1 _ f t hy.1 hy.2 hft ht h) (DerL.nil (g := g))
        rwa [List.append_nil] at this
      · rw [if_neg h3, sum_pos] at h
        obtain ⟨x, hx, hx0⟩ := h
        obtain ⟨i, hi, rfl⟩ := List.mem_map.1 hx
        have hi' := List.mem_range.1 hi
        have h5 : 0 < (cnt g row n).2 p (d + 1) (f + 1 + i) t := Nat.pos_of_ne_zero (fun e => by rw [e, Nat.mul_zero] at hx0; omega)
        have h6 : 0 < (cnt g row n).1 ((bodyAt g p).getD d 0) f (f + 1 + i) := Nat.pos_of_ne_zero (fun e => by rw [e, Nat.zero_mul] at hx0; omega)
        rw [sub_split (show f ≤ f + 1 + i by omega) (show f + 1 + i ≤ t by omega)]
        exact .cons (ih1 _ f _ hy.1 hy.2 (by omega) (by omega) h6) (ih2 p (d + 1) _ t hp (by omega) (by omega) ht h5)
theorem Der.range {g : Gr} (hg : GrD g (rankOf g)) {s : Int} {w : List Int} (h : Der g s w) : 0 ≤ s ∧ s < g.S := by
  cases h with
  | term h0 h => have := hg.ok.s0; exact ⟨h0, by omega⟩
  | prod hp _ => have := hg.head hp; have := hg.ok.t0; omega
/-- What is derived is counted. -/
theorem der_num {g : Gr} {row : List Int} (hg : GrD g (rankOf g)) {s : Int} {w : List Int} (h : Der g s w) : ∀ f t, f ≤ t → t ≤ row.length → w = sub row f t → 0 < numS g row s f t := by
  refine Der.rec (motive_1 := fun s w _ => ∀ f t, f ≤ t → t ≤ row.length → w = sub row f t → 0 < numS g row s f t) (motive_2 := fun b w _ => ∀ f t, f ≤ t → t ≤ row.length → w = sub row f t → PtS g row b f t) ?_ ?_ ?_ ?_ h
  · intro s h0 h f t hft ht e
    have hl := sub_len (row := row) (f := f) ht
    rw [← e] at hl
    have ht1 : t = f + 1 := by simp at hl; omega
    subst ht1
    have hS := hg.ok.s0
    rw [numS_eq hg h0 (by omega) hft ht]
    unfold symEq
    rw [if_pos h, if_pos]
    · exact Nat.one_pos
    · refine ⟨rfl, ?_⟩
      have hx : row[f]? = some row[f] := List.getElem?_eq_getElem (by omega)
      rw [sub_one hx] at e
      injection e with e
      rw [hx, e]
  · intro p w hp _ ih f t hft ht e
    have hh := hg.head hp
    exact (numS_pos hg hh.1 hh.2 hft ht).2 ⟨p, hp, rfl, ih f t hft ht e⟩
  · intro f t hft ht e
    have hl := sub_len (row := row) (f := f) ht
    rw [← e] at hl
    show f = t
    simp at hl
    omega
  · intro y ys u v hu hv ih1 ih2 f t hft ht e
    have hl := sub_len (row := row) (f := f) ht
    rw [← e, List.length_append] at hl
    have hne := hu.ne hg
    have e1 : u = sub row f (f + u.length) := by rw [← sub_take (t := t) (by omega), ← e, List.take_left']; rfl
    have e2 : v = sub row (f + u.length) t := by rw [← sub_drop, ← e, List.drop_left']; rfl
    exact ⟨f + u.length, by omega, by omega, ih1 f _ (by omega) (by omega) e1, ih2 _ t (by omega) ht e2⟩
theorem num_der {g : Gr} {row : List Int} (hg : GrD g (rankOf g)) {s : Int} {f t : Nat} (h0 : 0 ≤ s) (h1 : s < g.S) (hft : f ≤ t) (ht : t ≤ row.length) : 0 < numS g row s f t ↔ Der g s (sub row f t) :=
  ⟨fun h => (cnt_der hg _).1 s f t h0 h1 hft ht h, fun h => der_num hg h f t hft ht rfl⟩
theorem gd_der {g : Gr} (hg : GrD g (rankOf g)) {s : Int} (h : Gd g.T g.ps s) : ∃ w, Der g s w := by
  induction h with
  | term h0 h => exact ⟨_, .term h0 h⟩
  | @head p hp _ ih =>
    have all : ∀ b : List Int, (∀ y ∈ b, ∃ w, Der g y w) → ∃ w, DerL g b w := by
      intro b
      induction b with
      | nil => intro _; exact ⟨[], .nil⟩
      | cons y ys ihb =>
        intro hb
        obtain ⟨u, hu⟩ := hb y (by simp)
        obtain ⟨v, hv⟩ := ihb (fun z hz => hb z (by simp [hz]))
        exact ⟨u ++ v, .cons hu hv⟩
    obtain ⟨w, hw⟩ := all p.body ih
    obtain ⟨i, hi, rfl⟩ := List.getElem_of_mem hp
    rw [← headAt_get hi]
    exact ⟨w, .prod hi (by rw [bodyAt_get hi]; exact hw)⟩
/-- Each symbol becomes some row. -/
theorem all_der {g : Gr} (hc : checkI g = 0) {s : Int} (h0 : 0 ≤ s) (h1 : s < g.S) : ∃ w, Der g s w := by
  obtain ⟨_, _, h3, _⟩ := checkI_zero hc
  exact gd_der (GrD.of_check hc) (((used_spec (GrIn.ok hc)).1 h3).2 s h0 h1)
theorem all_derL {g : Gr} (hc : checkI g = 0) : ∀ {b : List Int}, (∀ y ∈ b, 0 ≤ y ∧ y < g.S) → ∃ w, DerL g b w := by
  intro b
  induction b with
  | nil => intro _; exact ⟨[], .nil⟩
  | cons y ys ihb =>
    intro hb
    obtain ⟨u, hu⟩ := all_der hc (hb y (by simp)).1 (hb y (by simp)).2
    obtain ⟨v, hv⟩ := ihb (fun z hz => hb z (by simp [hz]))
    exact ⟨u ++ v, .cons hu hv⟩
theorem body_range {g : Gr} (hg : GrD g (rankOf g)) {p : Nat} (hp : p < g.ps.length) : ∀ y ∈ bodyAt g p, 0 ≤ y ∧ y < g.S := fun y hy => by
  obtain ⟨d, hd, rfl⟩ := List.getElem_of_mem hy
  have := hg.body hp hd
  rwa [List.getD_eq_getElem?_getD, List.getElem?_eq_getElem hd] at this
/-- The first symbols of a body become the row from f up to q, as a derivation. -/
theorem reach_der {g : Gr} {row : List Int} (hg : GrD g (rankOf g)) {b : List Int} (hb : ∀ y ∈ b, 0 ≤ y ∧ y < g.S) : ∀ {i f q : Nat}, i ≤ b.length → f ≤ row.length → Reach g row b i f q → DerL g (b.take i) (sub row f q) := by
  intro i
  induction i with
  | zero =>
    intro f q _ hf h
    have : q = f := h
    subst this
    have : sub row q q = [] := by apply List.eq_nil_of_length_eq_zero; rw [sub_len hf]; omega
    rw [this]
    exact .nil
  | succ i ih =>
    intro f q hi hf h
    obtain ⟨q', h1, h2, h3, h4⟩ := h
    have hr := h1.range hf
    have hlt : i < b.length := by omega
    have hy := hb _ (List.getElem_mem hlt)
    have e : b.getD i 0 = b[i] := by rw [List.getD_eq_getElem?_getD, List.getElem?_eq_getElem hlt]; rfl
    rw [e] at h4
    have hd := (num_der hg hy.1 hy.2 (by omega) h3).1 h4
    rw [List.take_succ_eq_append_getElem hlt, sub_split (show f ≤ q' by omega) (show q' ≤ q by omega)]
    have := DerL.cons hd (DerL.nil (g := g))
    rw [List.append_nil] at this
    exact (ih (by omega) hf h1).append this
theorem ben_der {g : Gr} {row : List Int} (hc : checkI g = 0) : ∀ (n : Nat) (s : Int) (f : Nat), 0 ≤ s → s < g.S → f ≤ row.length → BeN g row n s f → ∃ z, Der g s (row.drop f ++ z) := by
  have hg := GrD.of_check hc
  intro n
  induction n with
  | zero =>
    intro s f h0 h1 hf h
    rcases h with h | ⟨h2, h3, h4⟩
    · obtain ⟨w, hw⟩ := all_der hc h0 h1
      exact ⟨w, by rw [List.drop_eq_nil_of_le (by omega)]; exact hw⟩
    · refine ⟨[], ?_⟩
      obtain ⟨hf', e⟩ := List.getElem?_eq_some_iff.1 h4
      rw [List.append_nil, List.drop_eq_getElem_cons hf', e, List.drop_eq_nil_of_le (by omega)]
      exact .term h0 h2
  | succ n ih =>
    intro s f h0 h1 hf h
    rcases h with h | ⟨h2, p, hp, rfl, i, q, hi, hr, hb⟩
    · exact ih s f h0 h1 hf h
    · have hbr := body_range hg hp
      have hq := hr.range hf
      have hd := reach_der hg hbr (by omega) hf hr
      have hy := hbr _ (List.getElem_mem hi)
      have e : (bodyAt g p).getD i 0 = (bodyAt g p)[i] := by rw [List.getD_eq_getElem?_getD, List.getElem?_eq_getElem hi]; rfl
      rw [e] at hb
      obtain ⟨z, hz⟩ := ih _ q hy.1 hy.2 hq.2 hb
      obtain ⟨z', hz'⟩ := all_derL hc (b := (bodyAt g p).drop (i + 1)) (fun y hy => hbr y (List.mem_of_mem_drop hy))
      refine ⟨z ++ z', ?_⟩
      have hcut : row.drop f ++ (z ++ z') = sub row f q ++ ((row.drop q ++ z) ++ z') := by
        have : row.drop f = sub row f q ++ row.drop q := by
          have h := sub_split (row := row) hq.1 hq.2
          rw [show sub row f row.length = row.drop f from by simp [sub], show sub row q row.length = row.drop q from by simp [sub]] at h
          exact h
        rw [this]
        simp
      rw [hcut]
      refine .prod hp ?_
      have := hd.append (DerL.cons hz hz')
      rwa [← List.drop_eq_getElem_cons hi, List.take_append_drop] at this
theorem Reach.cons {g : Gr} {row : List Int} {y : Int} {ys : List Int} : ∀ {i f c q : Nat}, f < c → c ≤ row.length → 0 < numS g row y f c → Reach g row ys i c q → Reach g row (y :: ys) (i + 1) f q := by
  intro i
  induction i with
  | zero =>
    intro f c q h1 h2 h3 h
    have : q = c := h
    subst this
    exact ⟨f, rfl, h1, h2, h3⟩
  | succ i ih =>
    intro f c q h1 h2 h3 h
    obtain ⟨q', k1, k2, k3, k4⟩ := h
    exact ⟨q', ih h1 h2 h3 k1, k2, k3, by simpa using k4⟩
theorem der_ben {g : Gr} {row : List Int} (hg : GrD g (rankOf g)) {s : Int} {w : List Int} (h : Der g s w) : ∀ (f : Nat) (z : List Int), f ≤ row.length → w = row.drop f ++ z → ∃ n, BeN g row n s f := by
  refine Der.rec (motive_1 := fun s w _ => ∀ (f : Nat) (z : List Int), f ≤ row.length → w = row.drop f ++ z → ∃ n, BeN g row n s f)
    (motive_2 := fun b w _ => ∀ (f : Nat) (z : List Int), f < row.length → w = row.drop f ++ z → ∃ n i q, i < b.length ∧ Reach g row b i f q ∧ BeN g row n (b.getD i 0) q) ?_ ?_ ?_ ?_ h
  · intro s h0 h f z hf e
    by_cases e1 : f = row.length
    · exact ⟨0, .inl e1⟩
    · refine ⟨0, .inr ⟨h, ?_⟩⟩
      have hlt : f < row.length := by omega
      rw [List.drop_eq_getElem_cons hlt, List.cons_append] at e
      injection e with e1 e2
      have := congrArg List.length e2
      simp at this
      exact ⟨by omega, by rw [List.getElem?_eq_getElem hlt, e1]⟩
  · intro p w hp _ ih f z hf e
    by_cases e1 : f = row.length
    · exact ⟨0, .inl e1⟩
    · obtain ⟨n, i, q, h1, h2, h3⟩ := ih f z (by omega) e
      have := (hg.head hp).1
      exact ⟨n + 1, .inr ⟨by omega, p, hp, rfl, i, q, h1, h2, h3⟩⟩
  · intro f z hf e
    have := congrArg List.length e
    simp at this
    omega
  · intro y ys u v hu hv ih1 ih2 f z hf e
    by_cases hlen : row.length - f ≤ u.length
    · obtain ⟨n, hn⟩ := ih1 f (u.drop (row.length - f)) (by omega) (by
        have h1 := congrArg (List.take (row.length - f)) e
        rw [List.take_append_of_le_length hlen, List.take_append_of_le_length (by simp), List.take_of_length_le (l := row.drop f) (by simp)] at h1
        rw [← h1, List.take_append_drop])
      exact ⟨n, 0, f, by simp, rfl, hn⟩
    · have hne := hu.ne hg
      have e1 : u = sub row f (f + u.length) := by
        have h1 := congrArg (List.take u.length) e
        rw [List.take_left', List.take_append_of_le_length (by simp; omega)] at h1
        · refine h1.trans ?_
          unfold sub
          rw [List.take_drop]
        · rfl
      have e2 : v = row.drop (f + u.length) ++ z := by
        have h1 := congrArg (List.drop u.length) e
        rw [List.drop_left', List.drop_append_of_le_length (by simp; omega), List.drop_drop] at h1
        · exact h1
        · rfl
      have hy := hu.range hg
      have hn := (num_der (row := row) hg hy.1 hy.2 (show f ≤ f + u.length by omega) (by omega)).2 (e1 ▸ hu)
      obtain ⟨n, i, q, h1, h2, h3⟩ := ih2 (f + u.length) z (by omega) e2
      exact ⟨n, i + 1, q, by simp; omega, Reach.cons (by omega) (by omega) hn h2, by simpa using h3⟩
/-- What begins with a row is what goes on to a row that the symbol becomes. -/
theorem be_iff {g : Gr} {row : List Int} (hc : checkI g = 0) {s : Int} {f : Nat} (h0 : 0 ≤ s) (h1 : s < g.S) (hf : f ≤ row.length) : Be g row s f ↔ ∃ z, Der g s (row.drop f ++ z) :=
  ⟨fun ⟨n, hn⟩ => ben_der hc n s f h0 h1 hf hn, fun ⟨z, hz⟩ => der_ben (GrD.of_check hc) hz f z hf rfl⟩
end Go.Proofs.Ytadabkkkalgehaa.H
