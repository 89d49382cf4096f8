import Derived.Test.YtadabkkkalgehaaPTrx1
import Derived.Test.YtadabkkkalgehaaPTrx2
import Derived.Test.YtadabkkkalgehaaPTrx3
import Derived.Test.YtadabkkkalgehaaPTrx4
import Derived.Test.YtadabkkkalgehaaEv
import Derived.Test.YtadabkkkalgehaaPlE
/-
  DeriveTrees: what the print left to prove.
-/
namespace Go.Proofs.Ytadabkkkalgehaa.PTr
open Go.RowKit Go.Proofs.YtadabkkkalgehaaW.PrintWords Go.Proofs.Ytadabkkkalgehaa.H
set_option linter.unusedVariables false
set_option linter.unusedSimpArgs false

abbrev Tr := S43
mutual
def sz : Tr → Nat
  | ⟨_, _, l⟩ => 1 + szs l
def szs : List Tr → Nat
  | [] => 0
  | t :: l => sz t + szs l
end
theorem sz_pos (t : Tr) : 1 ≤ sz t := by cases t; unfold sz; omega
theorem szs_get (l : List Tr) (i : Nat) (h : i < l.length) : szs (l.take (i + 1)) = szs (l.take i) + sz l[i] := by
  induction l generalizing i with
  | nil => simp at h
  | cons t l ih =>
    cases i with
    | zero => simp [szs]
    | succ i =>
      simp only [List.take_succ_cons, szs, List.getElem_cons_succ]
      rw [ih i (by simpa using h)]
      omega
theorem szs_take_le (l : List Tr) (i : Nat) : szs (l.take i) ≤ szs l := by
  induction l generalizing i with
  | nil => simp
  | cons t l ih =>
    cases i with
    | zero => simp [szs]
    | succ i =>
      have := ih i
      simp only [List.take_succ_cons, szs]
      omega
theorem szs_len (l : List Tr) : l.length ≤ szs l := by
  induction l with
  | nil => simp
  | cons t l ih => have := sz_pos t; simp only [List.length_cons, szs]; omega
theorem sz_mem {l : List Tr} {t : Tr} (h : t ∈ l) : sz t ≤ szs l := by
  induction l with
  | nil => cases h
  | cons x l ih =>
    simp only [szs]
    rcases List.mem_cons.1 h with rfl | h
    · omega
    · have := ih h; omega
theorem rd_tr (l : List Tr) (i : Nat) (h : i < l.length) : rd_T43 l (i : Int) = l[i] := by simp [rd_T43, List.getD_eq_getElem?_getD, h]
theorem rd_pr (l : List S55) (i : Nat) (h : i < l.length) : rd_T55 l (i : Int) = l[i] := by simp [rd_T55, List.getD_eq_getElem?_getD, h]

/-- How many nodes, up to one more than so many. -/
theorem nodes_any : ∀ (N : Nat) (t : Tr), sz t ≤ N → ∀ m : Nat, m ≤ 1000000 → ∃ r : Nat, Ev (fun k => rootstocklaw14_Nodes.f k t.f0 t.f1 t.f2 (m : Int)) (r : Int) ∧ 1 ≤ r ∧ r ≤ m + 1 ∧ (r ≤ m → r = sz t) := by
  intro N
  induction N with
  | zero => intro t h; have := sz_pos t; omega
  | succ N ih =>
    intro t hN m hm
    obtain ⟨s, p, l⟩ := t
    have hsz : szs l ≤ N := by unfold sz at hN; omega
    have loop : ∀ (d i n : Nat), l.length - i ≤ d → i ≤ l.length → i + 1 ≤ n → n ≤ m + 1 → (n ≤ m → n = 1 + szs (l.take i)) →
        ∃ r : Nat, Ev (fun k => rootstocklaw14_Nodes.l0 k (m : Int) (n : Int) (i : Int) s p l) (r : Int) ∧ 1 ≤ r ∧ r ≤ m + 1 ∧ (r ≤ m → r = 1 + szs l) := by
      intro d
      induction d with
      | zero =>
        intro i n hd hi h1 h2 h3
        obtain rfl : i = l.length := by omega
        refine ⟨n, ⟨1, fun k hk => ?_⟩, by omega, h2, fun h => by rw [h3 h, List.take_length]⟩
        obtain ⟨k, rfl⟩ : ∃ m, k = m + 1 := ⟨k - 1, by omega⟩
        show rootstocklaw14_Nodes.l0 (k + 1) (m : Int) (n : Int) _ s p l = some _
        rw [rootstocklaw14_Nodes.l0, if_neg (by omega)]
      | succ d ihd =>
        intro i n hd hi h1 h2 h3
        by_cases hlt : i < l.length
        · by_cases hn : n ≤ m
          · have ht : l[i] ∈ l := List.getElem_mem hlt
            obtain ⟨r', ⟨K1, hK1⟩, q1, q2, q3⟩ := ih l[i] (Nat.le_trans (sz_mem ht) hsz) (m - n) (by omega)
            have hg := szs_get l i hlt
            obtain ⟨r, ⟨K2, hK2⟩, p1, p2, p3⟩ := ihd (i + 1) (n + r') (by omega) (by omega) (by omega) (by omega) (fun h => by
              have e1 := q3 (by omega)
              have e2 := h3 hn
              omega)
            refine ⟨r, ⟨K1 + K2 + 1, fun k hk => ?_⟩, p1, p2, p3⟩
            obtain ⟨k, rfl⟩ : ∃ m, k = m + 1 := ⟨k - 1, by omega⟩
            have e1 : Keep (wrap64 ((m : Int) - (n : Int)) = ((m - n : Nat) : Int)) := ⟨by rw [wrap_nat _ (by omega) (by omega)]; omega⟩
            have e2 : Keep (wrap64 ((n : Int) + (r' : Int)) = ((n + r' : Nat) : Int)) := ⟨by rw [wrap_nat _ (by omega) (by omega)]; omega⟩
            have e3 : Keep (wrap64 ((i : Int) + 1) = ((i + 1 : Nat) : Int)) := ⟨by rw [wrap_nat _ (by omega) (by omega)]; omega⟩
            show rootstocklaw14_Nodes.l0 (k + 1) (m : Int) (n : Int) (i : Int) s p l = some _
            have a1 := hK1 k (by omega)
            have a2 := hK2 k (by omega)
            dsimp only at a1 a2
            rw [rootstocklaw14_Nodes.l0, if_pos (by omega), if_pos (by omega), if_pos (by omega), rd_tr l i hlt, e1.out, a1, Option.bind_some, e2.out, e3.out]
            exact a2
          · refine ⟨n, ⟨1, fun k hk => ?_⟩, by omega, h2, fun h => absurd h hn⟩
            obtain ⟨k, rfl⟩ : ∃ m, k = m + 1 := ⟨k - 1, by omega⟩
            show rootstocklaw14_Nodes.l0 (k + 1) (m : Int) (n : Int) _ s p l = some _
            rw [rootstocklaw14_Nodes.l0, if_pos (by omega), if_neg (by omega)]
        · obtain rfl : i = l.length := by omega
          refine ⟨n, ⟨1, fun k hk => ?_⟩, by omega, h2, fun h => by rw [h3 h, List.take_length]⟩
          obtain ⟨k, rfl⟩ : ∃ m, k = m + 1 := ⟨k - 1, by omega⟩
          show rootstocklaw14_Nodes.l0 (k + 1) (m : Int) (n : Int) _ s p l = some _
          rw [rootstocklaw14_Nodes.l0, if_neg (by omega)]
    obtain ⟨r, ⟨K, hK⟩, h1, h2, h3⟩ := loop l.length 0 1 (by omega) (Nat.zero_le _) (by omega) (by omega) (fun _ => by simp [szs])
    refine ⟨r, ⟨K + 1, fun k hk => ?_⟩, h1, h2, fun h => by unfold sz; exact h3 h⟩
    obtain ⟨k, rfl⟩ : ∃ m, k = m + 1 := ⟨k - 1, by omega⟩
    show rootstocklaw14_Nodes.f (k + 1) s p l (m : Int) = some _
    rw [rootstocklaw14_Nodes.f]
    exact hK k (by omega)

mutual
/-- Whether a tree is one of the grammar's: the error's number. -/
def fitI (g : H.Gr) : Tr → Int
  | ⟨s, p, l⟩ => if s < 0 ∨ g.S ≤ s then 2 else if s < g.T then (if p = -1 ∧ l.length = 0 then 0 else 200) else if p < 0 ∨ g.ps.length ≤ p then 2
      else if headAt g p.toNat ≠ s ∨ (bodyAt g p.toNat).length ≠ l.length then 200 else if l.map (fun x => x.f0) = bodyAt g p.toNat then fitIs g l else 200
def fitIs (g : H.Gr) : List Tr → Int
  | [] => 0
  | t :: l => if fitI g t = 0 then fitIs g l else fitI g t
end
theorem fits_l1 {a b c : Int} {l : List S55} (kids : List Tr) (hk : kids.length ≤ 1000000) (ih : ∀ t ∈ kids, Ev (fun k => derive_fits.f k a b c l t.f0 t.f1 t.f2) (fitI (toGr a b c l) t)) : ∀ (n i : Nat), kids.length - i ≤ n → i ≤ kids.length →
    Ev (fun k => derive_fits.l1 k kids (kids.length : Int) (i : Int) a b c l) (fitIs (toGr a b c l) (kids.drop i)) := by
  intro n
  induction n with
  | zero =>
    intro i hn hi
    obtain rfl : i = kids.length := by omega
    refine ⟨1, fun k hk => ?_⟩
    obtain ⟨k, rfl⟩ : ∃ m, k = m + 1 := ⟨k - 1, by omega⟩
    show derive_fits.l1 (k + 1) kids _ _ a b c l = some _
    rw [derive_fits.l1, if_neg (by omega), List.drop_length]
    rfl
  | succ n ihn =>
    intro i hn hi
    by_cases hlt : i < kids.length
    · obtain ⟨K1, h1⟩ := ih kids[i] (List.getElem_mem hlt)
      obtain ⟨K2, h2⟩ := ihn (i + 1) (by omega) (by omega)
      refine ⟨K1 + K2 + 1, fun k hk => ?_⟩
      obtain ⟨k, rfl⟩ : ∃ m, k = m + 1 := ⟨k - 1, by omega⟩
      have e3 : Keep (wrap64 ((i : Int) + 1) = ((i + 1 : Nat) : Int)) := ⟨by rw [wrap_nat _ (by omega) (by omega)]; omega⟩
      have a1 := h1 k (by omega)
      have a2 := h2 k (by omega)
      dsimp only at a1 a2
      show derive_fits.l1 (k + 1) kids _ _ a b c l = some _
      rw [derive_fits.l1, if_pos (by omega), if_pos (by omega), if_pos (by omega), rd_tr kids i hlt, a1, Option.bind_some, List.drop_eq_getElem_cons hlt, fitIs, e3.out]
      by_cases hz : fitI (toGr a b c l) kids[i] = 0
      · rw [if_pos hz, if_pos hz]; exact a2
      · rw [if_neg hz, if_neg hz]
    · obtain rfl : i = kids.length := by omega
      refine ⟨1, fun k hk => ?_⟩
      obtain ⟨k, rfl⟩ : ∃ m, k = m + 1 := ⟨k - 1, by omega⟩
      show derive_fits.l1 (k + 1) kids _ _ a b c l = some _
      rw [derive_fits.l1, if_neg (by omega), List.drop_length]
      rfl
theorem fits_l0 {a b c s p : Int} {l : List S55} {x0 : Int} {x2 : Bool} (kids : List Tr) (body : List Int) (hk : kids.length ≤ 1000000) (hb : body.length = kids.length) (ih : ∀ t ∈ kids, Ev (fun k => derive_fits.f k a b c l t.f0 t.f1 t.f2) (fitI (toGr a b c l) t)) : ∀ (n i : Nat), kids.length - i ≤ n → i ≤ kids.length →
    Ev (fun k => derive_fits.l0 k kids (kids.length : Int) (i : Int) a b c l s p kids x0 body x2) (if (kids.drop i).map (fun x => x.f0) = body.drop i then fitIs (toGr a b c l) kids else 200) := by
  obtain ⟨K0, h0⟩ := fits_l1 kids hk ih kids.length 0 (by omega) (Nat.zero_le _)
  intro n
  induction n with
  | zero =>
    intro i hn hi
    obtain rfl : i = kids.length := by omega
    refine ⟨K0 + 1, fun k hk => ?_⟩
    obtain ⟨k, rfl⟩ : ∃ m, k = m + 1 := ⟨k - 1, by omega⟩
    show derive_fits.l0 (k + 1) kids _ _ a b c l s p kids x0 body x2 = some _
    rw [derive_fits.l0, if_neg (by omega), List.drop_length, List.drop_eq_nil_of_le (show body.length ≤ kids.length by omega), List.map_nil, if_pos rfl]
    exact h0 k (by omega)
  | succ n ihn =>
    intro i hn hi
    by_cases hlt : i < kids.length
    · obtain ⟨K2, h2⟩ := ihn (i + 1) (by omega) (by omega)
      refine ⟨K2 + 1, fun k hk => ?_⟩
      obtain ⟨k, rfl⟩ : ∃ m, k = m + 1 := ⟨k - 1, by omega⟩
      have e3 : Keep (wrap64 ((i : Int) + 1) = ((i + 1 : Nat) : Int)) := ⟨by rw [wrap_nat _ (by omega) (by omega)]; omega⟩
      have a2 := h2 k (by omega)
      dsimp only at a2
      show derive_fits.l0 (k + 1) kids _ _ a b c l s p kids x0 body x2 = some _
      rw [derive_fits.l0, if_pos (by omega), if_pos (by omega), if_pos (by omega), if_pos (by omega), rd_tr kids i hlt, rd_get body i (by omega), e3.out, a2]
      have hd1 : ((kids.drop i).map (fun x => x.f0) = body.drop i) = (kids[i].f0 = body[i] ∧ (kids.drop (i + 1)).map (fun x => x.f0) = body.drop (i + 1)) := by
        rw [List.drop_eq_getElem_cons hlt, List.drop_eq_getElem_cons (show i < body.length by omega), List.map_cons, List.cons.injEq]
      by_cases hz : kids[i].f0 = body[i]
      · rw [if_pos hz]
        simp only [hd1, hz, true_and]
      · rw [if_neg hz]
        simp only [hd1, hz, false_and, if_false]
    · obtain rfl : i = kids.length := by omega
      refine ⟨K0 + 1, fun k hk => ?_⟩
      obtain ⟨k, rfl⟩ : ∃ m, k = m + 1 := ⟨k - 1, by omega⟩
      show derive_fits.l0 (k + 1) kids _ _ a b c l s p kids x0 body x2 = some _
      rw [derive_fits.l0, if_neg (by omega), List.drop_length, List.drop_eq_nil_of_le (show body.length ≤ kids.length by omega), List.map_nil, if_pos rfl]
      exact h0 k (by omega)
theorem fits_any {a b c : Int} {l : List S55} : ∀ (N : Nat) (t : Tr), sz t ≤ N → N ≤ 1000000 → Ev (fun k => derive_fits.f k a b c l t.f0 t.f1 t.f2) (fitI (toGr a b c l) t) := by
  intro N
  induction N with
  | zero => intro t h; have := sz_pos t; omega
  | succ N ih =>
    intro t hN hM
    obtain ⟨s, p, kids⟩ := t
    have hsz : szs kids ≤ N := by unfold sz at hN; omega
    have hkl := szs_len kids
    have ihk : ∀ t ∈ kids, Ev (fun k => derive_fits.f k a b c l t.f0 t.f1 t.f2) (fitI (toGr a b c l) t) := fun t ht => ih t (Nat.le_trans (sz_mem ht) hsz) (by omega)
    by_cases h1 : s < 0 ∨ b ≤ s
    · refine ⟨2, fun k hk => ?_⟩
      obtain ⟨k, rfl⟩ : ∃ m, k = m + 1 + 1 := ⟨k - 2, by omega⟩
      show derive_fits.f (k + 1 + 1) a b c l s p kids = some _
      rw [fitI, if_pos (show s < 0 ∨ (toGr a b c l).S ≤ s from h1), derive_fits.f]
      by_cases h : s < 0
      · rw [if_pos h, derive_fits.j0, if_pos rfl]
      · rw [if_neg h, decide_eq_true (show s ≥ b by omega), derive_fits.j0, if_pos rfl]
    have h1' : ¬ (s < 0 ∨ (toGr a b c l).S ≤ s) := h1
    have hs0 : ¬ s < 0 := fun h => h1 (.inl h)
    have hsS : ¬ s ≥ b := fun h => h1 (.inr h)
    by_cases h2 : s < a
    · have h2' : s < (toGr a b c l).T := h2
      refine ⟨2, fun k hk => ?_⟩
      obtain ⟨k, rfl⟩ : ∃ m, k = m + 1 + 1 := ⟨k - 2, by omega⟩
      show derive_fits.f (k + 1 + 1) a b c l s p kids = some _
      rw [fitI, if_neg h1', if_pos h2', derive_fits.f, if_neg hs0, decide_eq_false hsS, derive_fits.j0, if_neg (by decide), if_pos h2]
      by_cases h3 : p = -1
      · rw [if_pos h3]
        by_cases h4 : (kids.length : Int) > 0
        · rw [if_pos h4, if_neg (by omega)]
        · rw [if_neg h4, if_pos (by omega)]
      · rw [if_neg h3, if_neg (by omega)]
    have h2' : ¬ s < (toGr a b c l).T := h2
    have hpl : (toGr a b c l).ps.length = l.length := by simp [toGr]
    by_cases h3 : p < 0 ∨ (l.length : Int) ≤ p
    · have h3' : p < 0 ∨ ((toGr a b c l).ps.length : Int) ≤ p := by rw [hpl]; exact h3
      refine ⟨3, fun k hk => ?_⟩
      obtain ⟨k, rfl⟩ : ∃ m, k = m + 1 + 1 + 1 := ⟨k - 3, by omega⟩
      show derive_fits.f (k + 1 + 1 + 1) a b c l s p kids = some _
      rw [fitI, if_neg h1', if_neg h2', if_pos h3', derive_fits.f, if_neg hs0, decide_eq_false hsS, derive_fits.j0, if_neg (by decide), if_neg h2]
      by_cases h : p < 0
      · rw [if_pos h, derive_fits.j1, if_pos rfl]
      · rw [if_neg h, decide_eq_true (show p ≥ (l.length : Int) by omega), derive_fits.j1, if_pos rfl]
    have h3' : ¬ (p < 0 ∨ ((toGr a b c l).ps.length : Int) ≤ p) := by rw [hpl]; exact h3
    have hp0 : ¬ p < 0 := fun h => h3 (.inl h)
    have hpP : ¬ p ≥ (l.length : Int) := fun h => h3 (.inr h)
    obtain ⟨q, rfl⟩ : ∃ q : Nat, p = q := ⟨p.toNat, by omega⟩
    have hq : q < l.length := by omega
    have hx := rd_pr l q hq
    have hh : headAt (toGr a b c l) q = l[q].f0 := by simp [headAt, toGr, toPr, hq]
    have hbd : bodyAt (toGr a b c l) q = l[q].f1 := by simp [bodyAt, toGr, toPr, hq]
    have hqn : ((q : Int)).toNat = q := Int.toNat_natCast q
    by_cases h4 : l[q].f0 ≠ s ∨ l[q].f1.length ≠ kids.length
    · refine ⟨4, fun k hk => ?_⟩
      obtain ⟨k, rfl⟩ : ∃ m, k = m + 1 + 1 + 1 + 1 := ⟨k - 4, by omega⟩
      show derive_fits.f (k + 1 + 1 + 1 + 1) a b c l s (q : Int) kids = some _
      rw [fitI, if_neg h1', if_neg h2', if_neg h3', hqn, hh, hbd, if_pos h4, derive_fits.f, if_neg hs0, decide_eq_false hsS, derive_fits.j0, if_neg (by decide), if_neg h2, if_neg hp0, decide_eq_false hpP, derive_fits.j1, if_neg (by decide), if_pos (by omega), if_pos (by omega), hx]
      by_cases h : l[q].f0 = s
      · have h5 : l[q].f1.length ≠ kids.length := h4.resolve_left (fun h' => h' h)
        rw [if_pos h, bne_iff_ne.2 (show (l[q].f1.length : Int) ≠ (kids.length : Int) by omega), derive_fits.j2, if_pos rfl]
      · rw [if_neg h, derive_fits.j2, if_pos rfl]
    · have h5 : l[q].f0 = s := Classical.byContradiction fun h => h4 (.inl h)
      have h6 : l[q].f1.length = kids.length := Classical.byContradiction fun h => h4 (.inr h)
      obtain ⟨K, hK⟩ := fits_l0 (a := a) (b := b) (c := c) (l := l) (s := s) (p := (q : Int)) (x0 := l[q].f0) (x2 := l[q].f2) kids l[q].f1 (by omega) h6 ihk kids.length 0 (by omega) (Nat.zero_le _)
      refine ⟨K + 4, fun k hk => ?_⟩
      obtain ⟨k, rfl⟩ : ∃ m, k = m + 1 + 1 + 1 + 1 := ⟨k - 4, by omega⟩
      have a2 := hK k (by omega)
      simp only [List.drop_zero] at a2
      show derive_fits.f (k + 1 + 1 + 1 + 1) a b c l s (q : Int) kids = some _
      rw [fitI, if_neg h1', if_neg h2', if_neg h3', hqn, hh, hbd, if_neg h4, derive_fits.f, if_neg hs0, decide_eq_false hsS, derive_fits.j0, if_neg (by decide), if_neg h2, if_neg hp0, decide_eq_false hpP, derive_fits.j1, if_neg (by decide), if_pos (by omega), if_pos (by omega), hx, if_pos h5, h6,
        show ((kids.length : Int) != (kids.length : Int)) = false from by simp, derive_fits.j2, if_neg (by decide)]
      exact a2
mutual
theorem yl_sz : ∀ t : Tr, (yl t).length ≤ sz t
  | ⟨s, p, l⟩ => by
    have := yls_szs l
    unfold yl sz
    cases l with
    | nil => simp [yls]
    | cons x xs => simp only [List.isEmpty_cons]; simpa using Nat.le_trans this (by omega)
theorem yls_szs : ∀ l : List Tr, (yls l).length ≤ szs l
  | [] => by simp [yls]
  | t :: l => by
    have := yl_sz t
    have := yls_szs l
    simp only [yls, szs, List.length_append]
    omega
end
/-- A tree of the grammar: its leaves are a row that its root becomes. -/
theorem fit_der {g : H.Gr} (hg : GrD g (rankOf g)) : ∀ (N : Nat) (t : Tr), sz t ≤ N → fitI g t = 0 → Der g t.f0 (yl t) := by
  intro N
  induction N with
  | zero => intro t h; have := sz_pos t; omega
  | succ N ih =>
    intro t hN h
    obtain ⟨s, p, kids⟩ := t
    have hsz : szs kids ≤ N := by unfold sz at hN; omega
    rw [fitI] at h
    by_cases h1 : s < 0 ∨ g.S ≤ s
    · rw [if_pos h1] at h; cases h
    rw [if_neg h1] at h
    by_cases h2 : s < g.T
    · rw [if_pos h2] at h
      by_cases h3 : p = -1 ∧ kids.length = 0
      · obtain rfl : kids = [] := List.eq_nil_of_length_eq_zero h3.2
        have e : yl ⟨s, p, []⟩ = [s] := by simp [yl, yls]
        rw [e]
        exact .term (Int.not_lt.1 fun h => h1 (.inl h)) h2
      · rw [if_neg h3] at h; cases h
    rw [if_neg h2] at h
    by_cases h3 : p < 0 ∨ (g.ps.length : Int) ≤ p
    · rw [if_pos h3] at h; cases h
    rw [if_neg h3] at h
    by_cases h4 : headAt g p.toNat ≠ s ∨ (bodyAt g p.toNat).length ≠ kids.length
    · rw [if_pos h4] at h; cases h
    rw [if_neg h4] at h
    by_cases h5 : kids.map (fun x => x.f0) = bodyAt g p.toNat
    · rw [if_pos h5] at h
      have hp : p.toNat < g.ps.length := by
        have : ¬ p < 0 := fun h => h3 (.inl h)
        have : ¬ (g.ps.length : Int) ≤ p := fun h => h3 (.inr h)
        omega
      have h6 : headAt g p.toNat = s := Classical.byContradiction fun h => h4 (.inl h)
      have all : ∀ l : List Tr, szs l ≤ N → fitIs g l = 0 → DerL g (l.map (fun x => x.f0)) (yls l) := by
        intro l
        induction l with
        | nil => intro _ _; exact .nil
        | cons t l ihl =>
          intro hl hf
          simp only [szs] at hl
          rw [fitIs] at hf
          by_cases hz : fitI g t = 0
          · rw [if_pos hz] at hf
            exact .cons (ih t (by omega) hz) (ihl (by omega) hf)
          · rw [if_neg hz] at hf
            exact absurd hf hz
      have hne : kids ≠ [] := by
        rintro rfl
        have := hg.ne _ (List.getElem_mem hp)
        rw [bodyAt_get hp] at h5
        rw [← h5] at this
        exact absurd this (by simp)
      have e : yl ⟨s, p, kids⟩ = yls kids := by
        unfold yl
        cases kids with
        | nil => exact absurd rfl hne
        | cons x xs => simp
      rw [e]
      show Der g s (yls kids)
      rw [← h6]
      exact .prod hp (by rw [← h5]; exact all kids hsz h)
    · rw [if_neg h5] at h; cases h
theorem great_l0 (a b c : Int) (l : List S55) (hl : l.length ≤ 200) : ∀ (n j : Nat) (x : Int), l.length - j ≤ n → j ≤ l.length → ∃ r, Ev (fun k => rootstocklaw14_Great.l0 k x (j : Int) a b c l) r := by
  intro n
  induction n with
  | zero =>
    intro j x hn hj
    refine ⟨false, 1, fun k hk => ?_⟩
    obtain ⟨k, rfl⟩ : ∃ m, k = m + 1 := ⟨k - 1, by omega⟩
    show rootstocklaw14_Great.l0 (k + 1) x (j : Int) a b c l = some false
    rw [rootstocklaw14_Great.l0, if_neg (by omega)]
  | succ n ih =>
    intro j x hn hj
    have hw : Keep (wrap64 ((j : Int) + 1) = ((j + 1 : Nat) : Int)) := ⟨by rw [wrap_nat _ (by omega) (by omega)]; rfl⟩
    by_cases hlt : j < l.length
    · by_cases hb : (((rd_T55 l j).f1).length : Int) > wrap64 (2000 - x)
      · refine ⟨true, 1, fun k hk => ?_⟩
        obtain ⟨k, rfl⟩ : ∃ m, k = m + 1 := ⟨k - 1, by omega⟩
        show rootstocklaw14_Great.l0 (k + 1) x (j : Int) a b c l = some true
        rw [rootstocklaw14_Great.l0, if_pos (by omega), if_pos (by omega), if_pos hb]
      · obtain ⟨r, K, hK⟩ := ih (j + 1) (wrap64 (x + (((rd_T55 l j).f1).length : Int))) (by omega) (by omega)
        refine ⟨r, K + 1, fun k hk => ?_⟩
        obtain ⟨k, rfl⟩ : ∃ m, k = m + 1 := ⟨k - 1, by omega⟩
        show rootstocklaw14_Great.l0 (k + 1) x (j : Int) a b c l = some r
        rw [rootstocklaw14_Great.l0, if_pos (by omega), if_pos (by omega), if_neg hb, hw.out]
        exact hK k (by omega)
    · refine ⟨false, 1, fun k hk => ?_⟩
      obtain ⟨k, rfl⟩ : ∃ m, k = m + 1 := ⟨k - 1, by omega⟩
      show rootstocklaw14_Great.l0 (k + 1) x (j : Int) a b c l = some false
      rw [rootstocklaw14_Great.l0, if_neg (by omega)]
theorem great_any (a b c : Int) (l : List S55) : ∃ r, Ev (fun k => rootstocklaw14_Great.f k a b c l) r ∧ (r = false → l.length ≤ 200) := by
  by_cases hl : (l.length : Int) > 200
  · refine ⟨true, ⟨0, fun k _ => ?_⟩, fun h => by cases h⟩
    show rootstocklaw14_Great.f k a b c l = some true
    rw [rootstocklaw14_Great.f, if_pos hl]
  · obtain ⟨r, K, hK⟩ := great_l0 a b c l (by omega) l.length 0 0 (by omega) (Nat.zero_le _)
    refine ⟨r, ⟨K, fun k hk => ?_⟩, fun _ => by omega⟩
    show rootstocklaw14_Great.f k a b c l = some r
    rw [rootstocklaw14_Great.f, if_neg hl]
    exact hK k hk
theorem der_to (a b c : Int) (l : List S55) (s : Int) (w : List Int) : derive_Derives.f a b c l s w = some (H.derR (toGr a b c l) s w) := rfl
theorem via_to (a b c : Int) (l : List S55) (w : List Int) : derive_Viable.f a b c l w = some (H.viaR (toGr a b c l) w) := rfl
theorem cnt_to (a b c : Int) (l : List S55) (s : Int) (w : List Int) : derive_Count.f a b c l s w = some (H.countR (toGr a b c l) s w) := rfl
theorem lives_j0 (k : Nat) (a b c : Int) (l : List S55) (s p : Int) (kids : List Tr) : rootstocklaw14_DeriveTrees.j0 (k + 1) true a b c l s p kids = some true := by
  rw [rootstocklaw14_DeriveTrees.j0, if_pos rfl]
  rfl
theorem trees_l0 {a b c : Int} {l : List S55} {row : List Int} {s p : Int} {kids : List Tr} (hl : row.length ≤ 12) (hv : s = c → ∀ i, i ≤ row.length → H.viaR (toGr a b c l) (row.take i) = (true, 0)) : ∀ (n i : Nat), row.length + 1 - i ≤ n → i ≤ row.length + 1 →
    Ev (fun k => rootstocklaw14_DeriveTrees.l0 k row (i : Int) a b c l s p kids) true := by
  have stop : ∀ (i : Nat) (X : Bool), X = false → Ev (fun k => rootstocklaw14_DeriveTrees.j3 k row (i : Int) X a b c l s p kids) true := fun i X hX => by
    subst hX
    refine ⟨1, fun k hk => ?_⟩
    obtain ⟨k, rfl⟩ : ∃ m, k = m + 1 := ⟨k - 1, by omega⟩
    show rootstocklaw14_DeriveTrees.j3 (k + 1) row _ false a b c l s p kids = some true
    rw [rootstocklaw14_DeriveTrees.j3, if_neg (by decide)]
    rfl
  intro n
  induction n with
  | zero =>
    intro i hn hi
    obtain ⟨K, hK⟩ := stop i false rfl
    refine ⟨K + 1, fun k hk => ?_⟩
    obtain ⟨k, rfl⟩ : ∃ m, k = m + 1 := ⟨k - 1, by omega⟩
    show rootstocklaw14_DeriveTrees.l0 (k + 1) row (i : Int) a b c l s p kids = some true
    rw [rootstocklaw14_DeriveTrees.l0, if_neg (by omega)]
    exact hK k (by omega)
  | succ n ih =>
    intro i hn hi
    by_cases hlt : i ≤ row.length
    · by_cases hs : s = c
      · obtain ⟨K, hK⟩ := ih (i + 1) (by omega) (by omega)
        have hvi := hv hs i hlt
        have hw : Keep (wrap64 ((i : Int) + 1) = ((i + 1 : Nat) : Int)) := ⟨by rw [wrap_nat _ (by omega) (by omega)]; rfl⟩
        refine ⟨K + 2, fun k hk => ?_⟩
        obtain ⟨k, rfl⟩ : ∃ m, k = m + 1 + 1 := ⟨k - 2, by omega⟩
        show rootstocklaw14_DeriveTrees.l0 (k + 1 + 1) row (i : Int) a b c l s p kids = some true
        rw [rootstocklaw14_DeriveTrees.l0, if_pos (by omega), beq_iff_eq.2 hs, rootstocklaw14_DeriveTrees.j3, if_pos rfl, if_pos (by omega), if_pos (by omega), Int.toNat_natCast, via_to, hvi, Option.bind_some, if_pos rfl, if_pos rfl, hw.out]
        exact hK k (by omega)
      · obtain ⟨K, hK⟩ := stop i false rfl
        refine ⟨K + 1, fun k hk => ?_⟩
        obtain ⟨k, rfl⟩ : ∃ m, k = m + 1 := ⟨k - 1, by omega⟩
        show rootstocklaw14_DeriveTrees.l0 (k + 1) row (i : Int) a b c l s p kids = some true
        rw [rootstocklaw14_DeriveTrees.l0, if_pos (by omega), beq_eq_false_iff_ne.2 hs]
        exact hK k (by omega)
    · obtain ⟨K, hK⟩ := stop i false rfl
      refine ⟨K + 1, fun k hk => ?_⟩
      obtain ⟨k, rfl⟩ : ∃ m, k = m + 1 := ⟨k - 1, by omega⟩
      show rootstocklaw14_DeriveTrees.l0 (k + 1) row (i : Int) a b c l s p kids = some true
      rw [rootstocklaw14_DeriveTrees.l0, if_neg (by omega)]
      exact hK k (by omega)
theorem trees_pure (a b c : Int) (l : List S55) (s p : Int) (kids : List Tr) : ∃ k, rootstocklaw14_DeriveTrees.f k a b c l s p kids = some true := by
  obtain ⟨r, ⟨K0, hK0⟩, hr⟩ := great_any a b c l
  cases r with
  | true =>
    refine ⟨K0 + 1, ?_⟩
    have h0 := hK0 (K0 + 1) (by omega)
    dsimp only at h0
    rw [rootstocklaw14_DeriveTrees.f, h0, Option.bind_some, if_pos rfl]
    exact lives_j0 _ _ _ _ _ _ _ _
  | false =>
    obtain ⟨n, ⟨K1, hK1⟩, hn1, hn2, hn3⟩ := nodes_any _ (⟨s, p, kids⟩ : Tr) (Nat.le_refl _) 60 (by omega)
    by_cases hbig : n > 60
    · refine ⟨K0 + K1 + 1, ?_⟩
      have h0 := hK0 (K0 + K1 + 1) (by omega)
      have h1 := hK1 (K0 + K1 + 1) (by omega)
      dsimp only at h0 h1
      rw [rootstocklaw14_DeriveTrees.f, h0, Option.bind_some, if_neg (by decide)]
      rw [show (60 : Int) = ((60 : Nat) : Int) from rfl, h1, Option.bind_some, if_pos (by omega)]
      exact lives_j0 _ _ _ _ _ _ _ _
    have hszn := hn3 (by omega)
    obtain ⟨K2, hK2⟩ := fits_any (a := a) (b := b) (c := c) (l := l) 60 (⟨s, p, kids⟩ : Tr) (by omega) (by omega)
    have fin : ∀ E : Int, (∃ K, ∀ k, K ≤ k → derive_Fits.f k a b c l s p kids = some E) → Ev (fun k => rootstocklaw14_DeriveTrees.j0 k (E != 0) a b c l s p kids) true → ∃ k, rootstocklaw14_DeriveTrees.f k a b c l s p kids = some true := fun E ⟨K, hK⟩ ⟨K', hK'⟩ => by
      refine ⟨K0 + K1 + K + K', ?_⟩
      have h0 := hK0 (K0 + K1 + K + K') (by omega)
      have h1 := hK1 (K0 + K1 + K + K') (by omega)
      have h2 := hK (K0 + K1 + K + K') (by omega)
      have h3 := hK' (K0 + K1 + K + K') (by omega)
      dsimp only at h0 h1 h3
      rw [rootstocklaw14_DeriveTrees.f, h0, Option.bind_some, if_neg (by decide)]
      rw [show (60 : Int) = ((60 : Nat) : Int) from rfl, h1, Option.bind_some, if_neg (by omega), h2, Option.bind_some]
      exact h3
    have lv : Ev (fun k => rootstocklaw14_DeriveTrees.j0 k true a b c l s p kids) true := ⟨1, fun k hk => by
      obtain ⟨k, rfl⟩ : ∃ m, k = m + 1 := ⟨k - 1, by omega⟩
      exact lives_j0 _ _ _ _ _ _ _ _⟩
    have chk : grams_Check.f a b c l = some (H.checkI (toGr a b c l)) := rfl
    by_cases hc : H.checkI (toGr a b c l) = 0
    · refine fin (fitI (toGr a b c l) ⟨s, p, kids⟩) ⟨K2, fun k hk => ?_⟩ ?_
      · have h2 := hK2 k hk
        dsimp only at h2
        rw [derive_Fits.f, chk, Option.bind_some, if_pos hc, h2, Option.bind_some]
      by_cases hf : fitI (toGr a b c l) ⟨s, p, kids⟩ = 0
      · have hg := GrD.of_check hc
        have hd := fit_der hg _ _ (Nat.le_refl _) hf
        have hyl := yl_sz (⟨s, p, kids⟩ : Tr)
        have hrg := hd.range hg
        have htm := hd.terms
        have hne := hd.ne hg
        generalize hrow : yl (⟨s, p, kids⟩ : Tr) = row at *
        have hd' : Der (toGr a b c l) s row := hd
        have hy : derive_Yield.f s p kids = some row := by
          unfold derive_Yield.f
          rw [hrow, if_pos (by omega)]
        rw [show (fitI (toGr a b c l) ⟨s, p, kids⟩ != 0) = false from by rw [hf]; rfl]
        by_cases h12 : row.length > 12
        · refine ⟨1, fun k hk => ?_⟩
          obtain ⟨k, rfl⟩ : ∃ m, k = m + 1 := ⟨k - 1, by omega⟩
          show rootstocklaw14_DeriveTrees.j0 (k + 1) false a b c l s p kids = some true
          rw [rootstocklaw14_DeriveTrees.j0, if_neg (by decide), hy, Option.bind_some, if_pos (by omega)]
          rfl
        have hall : row.all (termB (toGr a b c l)) = true := by
          rw [List.all_eq_true]
          intro y hy
          have := htm y hy
          simp [termB, this]
        have hE : ∀ x, 0 ≤ x → x < b → startE (toGr a b c l) x row = 0 := fun x hx0 hx1 => by
          unfold startE
          rw [if_neg (by simp [hc]), if_neg (by show ¬ ¬ (0 ≤ x ∧ x < b); omega), if_neg (by simp [hall]), if_neg (by omega)]
        have hEs := hE s hrg.1 hrg.2
        have hnum : 0 < numS (toGr a b c l) row s 0 row.length := der_num hg hd' 0 row.length (Nat.zero_le _) (Nat.le_refl _) (sub_all row).symm
        have hder : H.derR (toGr a b c l) s row = (true, 0) := by
          unfold derR
          rw [if_pos hEs, decide_eq_true hnum, decide_eq_true hne]
          rfl
        have hvia : s = c → ∀ i, i ≤ row.length → H.viaR (toGr a b c l) (row.take i) = (true, 0) := by
          intro hs i hi
          have hEc : startE (toGr a b c l) (toGr a b c l).st row = 0 := by
            have hrg' : 0 ≤ s ∧ s < b := hrg
            exact hE c (by omega) (by omega)
          have hdc : Der (toGr a b c l) c row := by have h := hd'; rw [hs] at h; exact h
          have hb := via_take hEc (sent_via hEc hdc) i
          unfold viaR
          rw [if_pos (start_take hEc i), hb]
        obtain ⟨K3, hK3⟩ := trees_l0 (a := a) (b := b) (c := c) (l := l) (row := row) (s := s) (p := p) (kids := kids) (by omega) hvia (row.length + 1) 0 (by omega) (by omega)
        have hj1 : Ev (fun k => rootstocklaw14_DeriveTrees.j1 k row false a b c l s p kids) true := ⟨K3 + 1, fun k hk => by
          obtain ⟨k, rfl⟩ : ∃ m, k = m + 1 := ⟨k - 1, by omega⟩
          show rootstocklaw14_DeriveTrees.j1 (k + 1) row false a b c l s p kids = some true
          rw [rootstocklaw14_DeriveTrees.j1, if_neg (by decide)]
          exact hK3 k (by omega)⟩
        obtain ⟨K4, hK4⟩ := hj1
        refine ⟨K4 + 1, fun k hk => ?_⟩
        obtain ⟨k, rfl⟩ : ∃ m, k = m + 1 := ⟨k - 1, by omega⟩
        have h4 := hK4 k (by omega)
        dsimp only at h4
        show rootstocklaw14_DeriveTrees.j0 (k + 1) false a b c l s p kids = some true
        rw [rootstocklaw14_DeriveTrees.j0, if_neg (by decide), hy, Option.bind_some, if_neg (by omega), der_to, hder, Option.bind_some, cnt_to, Option.bind_some, if_pos rfl, if_pos rfl]
        have hl0 : ¬ row.length = 0 := by omega
        by_cases hm : 1073741824 < numS (toGr a b c l) row s 0 row.length
        · have hcr : H.countR (toGr a b c l) s row = (0, 140) := by unfold H.countR; rw [if_pos hEs, if_neg hl0, if_pos hm]
          rw [hcr, if_neg (by decide)]
          exact h4
        · have hcr : H.countR (toGr a b c l) s row = (((numS (toGr a b c l) row s 0 row.length : Nat) : Int), 0) := by unfold H.countR; rw [if_pos hEs, if_neg hl0, if_neg hm]
          rw [hcr, if_pos rfl, if_neg (by show ¬ ((numS (toGr a b c l) row s 0 row.length : Nat) : Int) < 1; omega)]
          exact h4
      · rw [bne_iff_ne.2 hf]
        exact lv
    · refine fin (H.checkI (toGr a b c l)) ⟨0, fun k _ => ?_⟩ (by rw [bne_iff_ne.2 hc]; exact lv)
      rw [derive_Fits.f, chk, Option.bind_some, if_neg hc]
end Go.Proofs.Ytadabkkkalgehaa.PTr
