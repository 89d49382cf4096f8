/-
  GramsRows: what the print left to prove.
-/
import Derived.Test.YtofidghilcbegaaPRux1
import Derived.Test.YtofidghilcbegaaEv
import Derived.Test.YtofidghilcbegaaPlX
import Derived.Test.YtofidghilcbegaaPlB
namespace Go.Proofs.Ytofidghilcbegaa.PRu
open Go.RowKit Go.Proofs.YtofidghilcbegaaW.PrintWords Go.Proofs.Ytofidghilcbegaa.H
set_option linter.unusedVariables false

theorem rows_l1 {a b c : Int} {l : List S38} (hc : H.checkI (toGr a b c l) = 0) {row : List Int} (hI : RowI (toGr a b c l) row) (hl : row.length ≤ 1000) :
    ∀ (n j : Nat), row.length - j ≤ n → j ≤ row.length → Ev (fun k => rootstocklaw13_GramsRows.l1 k row (j : Int) a b c l) true := by
  intro n
  induction n with
  | zero =>
    intro j hn hj
    have hw : Keep (wrap64 ((j : Int) + 1) = ((j + 1 : Nat) : Int)) := ⟨by rw [wrap_nat _ (by omega) (by omega)]; rfl⟩
    refine ⟨1, fun k hk => ?_⟩
    obtain ⟨k, rfl⟩ : ∃ m, k = m + 1 := ⟨k - 1, by omega⟩
    show rootstocklaw13_GramsRows.l1 (k + 1) row (j : Int) a b c l = some true
    rw [rootstocklaw13_GramsRows.l1, hw.out, if_neg (by omega)]
    rfl
  | succ n ih =>
    intro j hn hj
    have hw : Keep (wrap64 ((j : Int) + 1) = ((j + 1 : Nat) : Int)) := ⟨by rw [wrap_nat _ (by omega) (by omega)]; rfl⟩
    by_cases hlt : j + 1 < row.length
    · obtain ⟨K, hK⟩ := ih (j + 1) (by omega) (by omega)
      refine ⟨K + 1, fun k hk => ?_⟩
      obtain ⟨k, rfl⟩ : ∃ m, k = m + 1 := ⟨k - 1, by omega⟩
      show rootstocklaw13_GramsRows.l1 (k + 1) row (j : Int) a b c l = some true
      obtain ⟨h1, h2, h3, h4⟩ := RowI.pair_ok hc hI (i := j) (a := row[j]) (b := row[j + 1]) (List.getElem?_eq_getElem _) (List.getElem?_eq_getElem _)
      rw [rootstocklaw13_GramsRows.l1, hw.out, if_pos (by omega), if_pos (by omega), rd_get _ _ hlt, rd_get _ _ (show j < row.length by omega)]
      unfold grams_First.f grams_Follow.f rootstocklaw13_within.f
      rw [Option.bind_some, if_pos (by omega), if_pos (by omega), Option.bind_some, if_pos (by rw [h1]), if_pos (by rw [h2]), if_neg (show ¬ (((H.firstR (toGr a b c l) row[j + 1]).1.length : Int) = 0) by omega), Option.bind_some, if_pos h4]
      exact hK k (by omega)
    · refine ⟨1, fun k hk => ?_⟩
      obtain ⟨k, rfl⟩ : ∃ m, k = m + 1 := ⟨k - 1, by omega⟩
      show rootstocklaw13_GramsRows.l1 (k + 1) row (j : Int) a b c l = some true
      rw [rootstocklaw13_GramsRows.l1, hw.out, if_neg (by omega)]
      rfl

theorem ps_at {a b c : Int} {l : List S38} {i : Nat} (h : i < (toGr a b c l).ps.length) : (rd_T38 l (i : Int)).f1 = (toGr a b c l).ps[i].body := by
  have h' : i < l.length := by simpa [toGr] using h
  simp [rd_T38, toGr, toPr, h']

theorem rows_end {a b c : Int} {l : List S38} {picks : List Int} (hc : H.checkI (toGr a b c l) = 0) (row : List Int) (x : Int) (hI : RowI (toGr a b c l) row) (hl : row.length ≤ 208) : Ev (fun k => rootstocklaw13_GramsRows.j2 k picks row x false a b c l) true := by
  have hne := hI.ne
  obtain ⟨K, hK⟩ := rows_l1 hc hI (by omega) row.length 0 (by omega) (by omega)
  refine ⟨K + 2, fun k hk => ?_⟩
  obtain ⟨k, rfl⟩ : ∃ m, k = m + 1 + 1 := ⟨k - 2, by omega⟩
  show rootstocklaw13_GramsRows.j2 (k + 1 + 1) picks row x false a b c l = some true
  have hw3 : Keep (wrap64 ((row.length : Int) - 1) = ((row.length - 1 : Nat) : Int)) := ⟨by rw [wrap_nat _ (by omega) (by omega)]; omega⟩
  have r0 : rd row 0 = row[0] := rd_get row 0 hne
  obtain ⟨s1, s2, s3⟩ := RowI.start_ok hc hI (a := row[0]) (List.getElem?_eq_getElem _)
  obtain ⟨e1, e2⟩ := RowI.end_ok hc hI (a := row[row.length - 1]) (List.getElem?_eq_getElem _)
  have s1' : (H.firstR (toGr a b c l) c).2 = 0 := by rw [show H.firstR (toGr a b c l) c = (tlist (gn (firstEnd (toGr a b c l)) c), 0) from s1]
  have s3' : withinB (H.firstR (toGr a b c l) row[0]).1 (H.firstR (toGr a b c l) c).1 = true := s3
  have e2' : withinB [a] (H.followR (toGr a b c l) row[row.length - 1]).1 = true := e2
  rw [rootstocklaw13_GramsRows.j2, if_neg (by decide)]
  unfold grams_First.f grams_Follow.f rootstocklaw13_within.f
  rw [Option.bind_some, if_pos (by omega), Option.bind_some, hw3.out, if_pos (by omega), if_pos (by omega), Option.bind_some, r0, rd_get row (row.length - 1) (by omega), if_pos s1', if_pos (by rw [s2]), if_pos (by rw [e1]), Option.bind_some, if_pos s3', Option.bind_some, e2']
  rw [rootstocklaw13_GramsRows.j5, if_neg (by decide)]
  exact hK k (by omega)

theorem rows_j3 {a b c : Int} {l : List S38} {picks : List Int} (hp : picks.length ≤ 9223372036854775807) (hc : H.checkI (toGr a b c l) = 0) (row : List Int) (i : Nat) (hi : i < 80) (hI : RowI (toGr a b c l) row) (hl : row.length ≤ 200) (h1 : i + 1 < picks.length)
    (ih : ∀ row', RowI (toGr a b c l) row' → row'.length ≤ 208 → Ev (fun k => rootstocklaw13_GramsRows.l0 k picks row' ((i + 2 : Nat) : Int) a b c l) true) (y : Nat) (hy : y < row.length) : Ev (fun k => rootstocklaw13_GramsRows.j3 k picks row (i : Int) (y : Int) a b c l) true := by
  have hw : Keep (wrap64 ((i : Int) + 1) = ((i + 1 : Nat) : Int)) := ⟨by rw [wrap_nat _ (by omega) (by omega)]; rfl⟩
  have hw2 : Keep (wrap64 ((i : Int) + 2) = ((i + 2 : Nat) : Int)) := ⟨by rw [wrap_nat _ (by omega) (by omega)]; rfl⟩
  have hs := hI.rg _ (List.getElem_mem hy)
  have hcut := row_cut hy
  have hrd := rd_get row y hy
  generalize row[y] = s at *
  by_cases hT : s < a
  · obtain ⟨K, hK⟩ := ih row hI (by omega)
    refine ⟨K + 1, fun k hk => ?_⟩
    obtain ⟨k, rfl⟩ : ∃ m, k = m + 1 := ⟨k - 1, by omega⟩
    show rootstocklaw13_GramsRows.j3 (k + 1) picks row (i : Int) (y : Int) a b c l = some true
    rw [rootstocklaw13_GramsRows.j3, if_pos (by omega), if_pos (by omega), hrd, hw2.out]
    unfold grams_Of.f
    rw [Option.bind_some, if_pos hT]
    exact hK k (by omega)
  · have hof : H.ofR (toGr a b c l) s = (ofL (toGr a b c l) s, 0) := ofR_ok hc (show a ≤ s by omega) hs.2
    have hn0 := of_nonempty hc (show (toGr a b c l).T ≤ s by show a ≤ s; omega) hs.2
    have hlen : (toGr a b c l).ps.length ≤ 64 := by have h := (numbersB_ok (checkI_zero hc).1).2; simp only [headB, decide_eq_true_eq] at h; omega
    have hfit := fit_of hc
    have hOL := fun j (h : j < (ofL (toGr a b c l) s).length) => ofL_at h
    have hlen2 := ofL_len (toGr a b c l) s
    have hps : ((toGr a b c l).ps.length : Int) = (l.length : Int) := by simp [toGr]
    have hwy : Keep (wrap64 ((y : Int) + 1) = ((y + 1 : Nat) : Int)) := ⟨by rw [wrap_nat _ (by omega) (by omega)]; rfl⟩
    generalize ofL (toGr a b c l) s = OL at *
    have hz : ((OL.length : Int) == 0) = false := beq_eq_false_iff_ne.2 (by omega)
    have key : ∃ m : Nat, m < OL.length ∧ ((Int.tmod (rd picks ((i + 1 : Nat) : Int)) (OL.length : Int) < 0 ∧ wrap64 (Int.tmod (rd picks ((i + 1 : Nat) : Int)) (OL.length : Int) + (OL.length : Int)) = (m : Int)) ∨ (¬ Int.tmod (rd picks ((i + 1 : Nat) : Int)) (OL.length : Int) < 0 ∧ Int.tmod (rd picks ((i + 1 : Nat) : Int)) (OL.length : Int) = (m : Int))) := by
      generalize rd picks ((i + 1 : Nat) : Int) = x2
      by_cases hm : x2.tmod OL.length < 0
      · have hh := tmod_low x2 OL.length hn0 hm
        obtain ⟨m, hmm⟩ : ∃ m : Nat, x2.tmod OL.length + OL.length = (m : Int) := ⟨(x2.tmod OL.length + OL.length).toNat, by omega⟩
        exact ⟨m, by omega, .inl ⟨hm, by rw [hmm]; exact wrap_nat _ (by omega) (by omega)⟩⟩
      · have hh := tmod_high x2 OL.length hn0 hm
        obtain ⟨m, hmm⟩ : ∃ m : Nat, x2.tmod OL.length = (m : Int) := ⟨(x2.tmod OL.length).toNat, by omega⟩
        exact ⟨m, by omega, .inr ⟨hm, hmm⟩⟩
    obtain ⟨m, hm, hcase0⟩ := key
    have hcase := Keep.mk hcase0
    clear hcase0
    obtain ⟨i0, hi0, e1, e2⟩ := hOL m hm
    have e1' : rd OL (m : Int) = (i0 : Int) := by rw [rd_get _ _ hm]; exact e1
    have hb8 : (toGr a b c l).ps[i0].body.length ≤ 8 := ((checkI_zero hc).2.1 _ (List.getElem_mem hi0)).2
    have hbody := ps_at (a := a) (b := b) (c := c) (l := l) hi0
    have q1 : (row.take y).length = y := by rw [List.length_take]; omega
    have q2 : (row.drop (y + 1)).length = row.length - (y + 1) := by rw [List.length_drop]
    have n1 : RowI (toGr a b c l) (([] ++ row.take y ++ (toGr a b c l).ps[i0].body) ++ row.drop (y + 1)) := by
      rw [List.nil_append]
      exact RowI.step hfit (List.getElem_mem hi0) (by rw [e2, ← hcut]; exact hI)
    generalize (toGr a b c l).ps[i0].body = body at *
    obtain ⟨K, hK⟩ := ih _ n1 (by simp only [List.length_append, List.length_nil]; omega)
    refine ⟨K + 2, fun k hk => ?_⟩
    obtain ⟨k, rfl⟩ : ∃ m, k = m + 1 + 1 := ⟨k - 2, by omega⟩
    show rootstocklaw13_GramsRows.j3 (k + 1 + 1) picks row (i : Int) (y : Int) a b c l = some true
    rw [rootstocklaw13_GramsRows.j3, if_pos (by omega), if_pos (by omega), hrd, hw2.out]
    unfold grams_Of.f
    rw [Option.bind_some, if_neg hT, hof]
    dsimp only
    rw [if_pos rfl, hz, rootstocklaw13_GramsRows.j4, if_neg (by decide), hw.out, hw2.out, hwy.out, if_pos (by omega), if_pos (by omega), if_neg (by omega)]
    have hk' := hK k (by omega)
    have fin : (some (([] : List Int) : List Int)).bind (fun y178 => (if 0 ≤ (y : Int) then (if (y : Int) ≤ (row.length : Int) then ((some (row.take (y : Int).toNat : List Int)).bind fun y181 => (if y178.length + y181.length < 17592186044416 then ((some (y178 ++ y181 : List Int)).bind fun y185 => (if 0 ≤ (i0 : Int) then (if (i0 : Int) < (l.length : Int) then (if y185.length + body.length < 17592186044416 then ((some (y185 ++ body : List Int)).bind fun y190 => (if 0 ≤ ((y + 1 : Nat) : Int) then (if ((y + 1 : Nat) : Int) ≤ (row.length : Int) then ((some (row.drop (((y + 1 : Nat) : Int) : Int).toNat : List Int)).bind fun y193 => (if y190.length + y193.length < 17592186044416 then (rootstocklaw13_GramsRows.l0 k picks (y190 ++ y193) ((i + 2 : Nat) : Int) a b c l) else (none))) else (none)) else (none))) else (none)) else (none)) else (none))) else (none))) else (none)) else (none))) = some true := by
      rw [Option.bind_some, if_pos (by omega), if_pos (by omega), Option.bind_some, Int.toNat_natCast, if_pos (by rw [q1]; simp only [List.length_nil]; omega), Option.bind_some, if_pos (by omega), if_pos (by omega), if_pos (by simp only [List.length_append, q1, List.length_nil]; omega), Option.bind_some, if_pos (by omega), if_pos (by omega), Option.bind_some, Int.toNat_natCast, if_pos (by simp only [List.length_append, q1, q2, List.length_nil]; omega)]
      exact hk'
    rcases hcase.out with ⟨z1, z2⟩ | ⟨z1, z2⟩
    · rw [if_pos z1, z2, e1', if_pos (by omega), if_pos (by omega), if_neg (by omega), if_neg (by omega), hbody]
      exact fin
    · rw [if_neg z1, z2, e1', if_pos (by omega), if_pos (by omega), if_neg (by omega), if_neg (by omega), hbody]
      exact fin

theorem rows_l0 {a b c : Int} {l : List S38} {picks : List Int} (hp : picks.length ≤ 9223372036854775807) (hc : H.checkI (toGr a b c l) = 0) :
    ∀ (n : Nat) (row : List Int) (i : Nat), i ≤ 81 → 82 - i ≤ n → RowI (toGr a b c l) row → row.length ≤ 208 → Ev (fun k => rootstocklaw13_GramsRows.l0 k picks row (i : Int) a b c l) true := by
  intro n
  induction n with
  | zero => intro row i h1 h2; omega
  | succ n ih =>
    intro row i hi hn hI hl
    have hne := hI.ne
    have hw : Keep (wrap64 ((i : Int) + 1) = ((i + 1 : Nat) : Int)) := ⟨by rw [wrap_nat _ (by omega) (by omega)]; rfl⟩
    by_cases hgo : i + 1 < picks.length ∧ i < 80 ∧ row.length ≤ 200
    · obtain ⟨h1, h2, h3⟩ := hgo
      have hall := rows_j3 hp hc row i h2 hI h3 h1 (fun row' hI' hl' => ih row' (i + 2) (by omega) (by omega) hI' hl')
      have key : ∃ y : Nat, y < row.length ∧ ((Int.tmod (rd picks (i : Int)) (row.length : Int) < 0 ∧ wrap64 (Int.tmod (rd picks (i : Int)) (row.length : Int) + (row.length : Int)) = (y : Int)) ∨ (¬ Int.tmod (rd picks (i : Int)) (row.length : Int) < 0 ∧ Int.tmod (rd picks (i : Int)) (row.length : Int) = (y : Int))) := by
        generalize rd picks (i : Int) = x2
        by_cases hm : x2.tmod row.length < 0
        · have hh := tmod_low x2 row.length hne hm
          obtain ⟨m, hmm⟩ : ∃ m : Nat, x2.tmod row.length + row.length = (m : Int) := ⟨(x2.tmod row.length + row.length).toNat, by omega⟩
          exact ⟨m, by omega, .inl ⟨hm, by rw [hmm]; exact wrap_nat _ (by omega) (by omega)⟩⟩
        · have hh := tmod_high x2 row.length hne hm
          obtain ⟨m, hmm⟩ : ∃ m : Nat, x2.tmod row.length = (m : Int) := ⟨(x2.tmod row.length).toNat, by omega⟩
          exact ⟨m, by omega, .inr ⟨hm, hmm⟩⟩
      obtain ⟨y, hy, hcase0⟩ := key
      have hcase := Keep.mk hcase0
      clear hcase0
      obtain ⟨K, hK⟩ := hall y hy
      refine ⟨K + 2, fun k hk => ?_⟩
      obtain ⟨k, rfl⟩ : ∃ m, k = m + 1 + 1 := ⟨k - 2, by omega⟩
      show rootstocklaw13_GramsRows.l0 (k + 1 + 1) picks row (i : Int) a b c l = some true
      rw [rootstocklaw13_GramsRows.l0, hw.out, if_pos (by omega), if_pos (by omega), decide_eq_true (show (row.length : Int) ≤ 200 by omega), rootstocklaw13_GramsRows.j2, if_pos rfl, if_pos (by omega), if_pos (by omega), if_neg (by omega)]
      rcases hcase.out with ⟨z1, z2⟩ | ⟨z1, z2⟩
      · rw [if_pos z1, z2]; exact hK k (by omega)
      · rw [if_neg z1, z2]; exact hK k (by omega)
    · obtain ⟨K, hK⟩ := rows_end (picks := picks) hc row (i : Int) hI hl
      refine ⟨K + 1, fun k hk => ?_⟩
      obtain ⟨k, rfl⟩ : ∃ m, k = m + 1 := ⟨k - 1, by omega⟩
      show rootstocklaw13_GramsRows.l0 (k + 1) picks row (i : Int) a b c l = some true
      rw [rootstocklaw13_GramsRows.l0, hw.out]
      by_cases h1 : i + 1 < picks.length
      · rw [if_pos (by omega)]
        by_cases h2 : i < 80
        · rw [if_pos (by omega), decide_eq_false (show ¬ (row.length : Int) ≤ 200 by omega)]
          exact hK k (by omega)
        · rw [if_neg (by omega)]
          exact hK k (by omega)
      · rw [if_neg (by omega)]
        exact hK k (by omega)

theorem rows_pure (a b c : Int) (l : List S38) (picks : List Int) (hp : picks.length ≤ 9223372036854775807) : ∃ k, rootstocklaw13_GramsRows.f k a b c l picks = some true := by
  have hj0 : ∀ k, rootstocklaw13_GramsRows.j0 (k + 1) picks true a b c l = some true := by
    intro k
    rw [rootstocklaw13_GramsRows.j0, if_pos rfl]
    rfl
  unfold rootstocklaw13_GramsRows.f rootstocklaw13_big.f
  cases hb : H.bigB (toGr a b c l) with
  | true => exact ⟨1, by rw [Option.bind_some, if_pos rfl]; exact hj0 0⟩
  | false =>
    unfold grams_Check.f
    by_cases hc : H.checkI (toGr a b c l) = 0
    · obtain ⟨K, hK⟩ := rows_l0 hp hc 82 [c] 0 (by omega) (by omega) (RowI.start (numbersB_ok (checkI_zero hc).1).1) (by simp)
      refine ⟨K + 1, ?_⟩
      rw [Option.bind_some, if_neg (by decide), hc, Option.bind_some, rootstocklaw13_GramsRows.j0, if_neg (by decide)]
      exact hK K (Nat.le_refl _)
    · have : (H.checkI (toGr a b c l) != 0) = true := by simp [hc]
      refine ⟨1, ?_⟩
      rw [Option.bind_some, if_neg (by decide), Option.bind_some, this]
      exact hj0 0
end Go.Proofs.Ytofidghilcbegaa.PRu
