import Derived.Test.YtadabkkkalgehaaPBex3
import Derived.Test.YtadabkkkalgehaaPBex4
import Derived.Test.YtadabkkkalgehaaEv
import Derived.Test.YtadabkkkalgehaaPlD
/-
  DeriveBegins: what the print left to prove.
-/
namespace Go.Proofs.Ytadabkkkalgehaa.H
set_option linter.unusedVariables false
theorem start_take {g : Gr} {s : Int} {row : List Int} (h : startE g s row = 0) (i : Nat) : startE g s (row.take i) = 0 := by
  obtain ⟨h1, h2, h3, h4⟩ := startE_zero h
  unfold startE
  rw [if_neg (by simp [h1]), if_neg (by simp [h2]), if_neg, if_neg (by rw [List.length_take]; omega)]
  rw [Bool.not_eq_false, List.all_eq_true]
  intro y hy
  exact List.all_eq_true.1 h3 y (List.mem_of_mem_take hy)
theorem start_snoc {g : Gr} {s : Int} {row : List Int} (h : startE g s row = 0) {a : Int} (ha : 0 ≤ a ∧ a < g.T) (hl : row.length < 64) : startE g s (row ++ [a]) = 0 := by
  obtain ⟨h1, h2, h3, h4⟩ := startE_zero h
  unfold startE
  rw [if_neg (by simp [h1]), if_neg (by simp [h2]), if_neg, if_neg (by rw [List.length_append, List.length_singleton]; omega)]
  rw [Bool.not_eq_false, List.all_append, h3]
  simp [termB, ha]
theorem via_zero {g : Gr} {row : List Int} (h : startE g g.st row = 0) : viaR g row = (beB g row g.st 0, 0) := by unfold viaR; rw [if_pos h]
theorem be_word {g : Gr} {row : List Int} (h : startE g g.st row = 0) : beB g row g.st 0 = true ↔ ∃ z, Der g g.st (row ++ z) := by
  obtain ⟨h1, h2, h3, h4⟩ := startE_zero h
  rw [beB_iff, be_iff h1 h2.1 h2.2 (Nat.zero_le _), List.drop_zero]
/-- A row is a sentence. -/
theorem sent_iff {g : Gr} {row : List Int} (h : startE g g.st row = 0) : (decide (0 < row.length) && decide (0 < numS g row g.st 0 row.length)) = true ↔ Der g g.st row := by
  obtain ⟨h1, h2, h3, h4⟩ := startE_zero h
  have hg := GrD.of_check h1
  rw [Bool.and_eq_true, decide_eq_true_iff, decide_eq_true_iff, num_der hg h2.1 h2.2 (Nat.zero_le _) (Nat.le_refl _), sub_all]
  exact ⟨fun h => h.2, fun h => ⟨h.ne hg, h⟩⟩
theorem via_take {g : Gr} {row : List Int} (h : startE g g.st row = 0) (hv : beB g row g.st 0 = true) (i : Nat) : beB g (row.take i) g.st 0 = true := by
  obtain ⟨z, hz⟩ := (be_word h).1 hv
  refine (be_word (start_take h i)).2 ⟨row.drop i ++ z, ?_⟩
  rw [← List.append_assoc, List.take_append_drop]
  exact hz
theorem sent_via {g : Gr} {row : List Int} (h : startE g g.st row = 0) (hs : Der g g.st row) : beB g row g.st 0 = true := (be_word h).2 ⟨[], by rw [List.append_nil]; exact hs⟩
theorem via_on {g : Gr} {row : List Int} (h : startE g g.st row = 0) (hl : row.length < 64) (hv : beB g row g.st 0 = true) (hs : ¬ Der g g.st row) : ∃ a, 0 ≤ a ∧ a < g.T ∧ beB g (row ++ [a]) g.st 0 = true := by
  obtain ⟨z, hz⟩ := (be_word h).1 hv
  cases z with
  | nil => rw [List.append_nil] at hz; exact absurd hz hs
  | cons a z =>
    have ha := hz.terms a (by simp)
    refine ⟨a, ha.1, ha.2, (be_word (start_snoc h ha hl)).2 ⟨z, ?_⟩⟩
    rw [List.append_assoc]
    exact hz
end Go.Proofs.Ytadabkkkalgehaa.H
namespace Go.Proofs.Ytadabkkkalgehaa.PBe
open Go.RowKit Go.Proofs.YtadabkkkalgehaaW.PrintWords Go.Proofs.Ytadabkkkalgehaa.H
set_option linter.unusedVariables false

theorem der_to (a b c : Int) (l : List S55) (s : Int) (w : List Int) : derive_Derives.f a b c l s w = some (H.derR (toGr a b c l) s w) := rfl
theorem via_to (a b c : Int) (l : List S55) (w : List Int) : derive_Viable.f a b c l w = some (H.viaR (toGr a b c l) w) := rfl
theorem great_l0 (a b c : Int) (l : List S55) (hl : l.length ≤ 200) : ∀ (n j : Nat) (x : Int), l.length - j ≤ n → j ≤ l.length → ∃ r, Ev (fun k => rootstocklaw14_Great.l0 k x (j : Int) a b c l) r := by
  intro n
  induction n with
  | zero =>
    intro j x hn hj
    refine ⟨false, 1, fun k hk => ?_⟩
    obtain ⟨k, rfl⟩ : ∃ m, k = m + 1 := ⟨k - 1, by omega⟩
    show rootstocklaw14_Great.l0 (k + 1) x (j : Int) a b c l = some false
    rw [rootstocklaw14_Great.l0, if_neg (by omega)]
  | succ n ih =>
    intro j x hn hj
    have hw : Keep (wrap64 ((j : Int) + 1) = ((j + 1 : Nat) : Int)) := ⟨by rw [wrap_nat _ (by omega) (by omega)]; rfl⟩
    by_cases hlt : j < l.length
    · by_cases hb : (((rd_T55 l j).f1).length : Int) > wrap64 (2000 - x)
      · refine ⟨true, 1, fun k hk => ?_⟩
        obtain ⟨k, rfl⟩ : ∃ m, k = m + 1 := ⟨k - 1, by omega⟩
        show rootstocklaw14_Great.l0 (k + 1) x (j : Int) a b c l = some true
        rw [rootstocklaw14_Great.l0, if_pos (by omega), if_pos (by omega), if_pos hb]
      · obtain ⟨r, K, hK⟩ := ih (j + 1) (wrap64 (x + (((rd_T55 l j).f1).length : Int))) (by omega) (by omega)
        refine ⟨r, K + 1, fun k hk => ?_⟩
        obtain ⟨k, rfl⟩ : ∃ m, k = m + 1 := ⟨k - 1, by omega⟩
        show rootstocklaw14_Great.l0 (k + 1) x (j : Int) a b c l = some r
        rw [rootstocklaw14_Great.l0, if_pos (by omega), if_pos (by omega), if_neg hb, hw.out]
        exact hK k (by omega)
    · refine ⟨false, 1, fun k hk => ?_⟩
      obtain ⟨k, rfl⟩ : ∃ m, k = m + 1 := ⟨k - 1, by omega⟩
      show rootstocklaw14_Great.l0 (k + 1) x (j : Int) a b c l = some false
      rw [rootstocklaw14_Great.l0, if_neg (by omega)]
theorem great_any (a b c : Int) (l : List S55) : ∃ r, Ev (fun k => rootstocklaw14_Great.f k a b c l) r ∧ (r = false → l.length ≤ 200) := by
  by_cases hl : (l.length : Int) > 200
  · refine ⟨true, ⟨0, fun k _ => ?_⟩, fun h => by cases h⟩
    show rootstocklaw14_Great.f k a b c l = some true
    rw [rootstocklaw14_Great.f, if_pos hl]
  · obtain ⟨r, K, hK⟩ := great_l0 a b c l (by omega) l.length 0 0 (by omega) (Nat.zero_le _)
    refine ⟨r, ⟨K, fun k hk => ?_⟩, fun _ => by omega⟩
    show rootstocklaw14_Great.f k a b c l = some r
    rw [rootstocklaw14_Great.f, if_neg hl]
    exact hK k hk

theorem judge_loop {a b c : Int} {l : List S55} {row : List Int} (hE : startE (toGr a b c l) c row = 0) (hl : row.length ≤ 64) : ∀ (n i : Nat), row.length - i ≤ n → i ≤ row.length → (∀ j, j ≤ i → beB (toGr a b c l) (row.take j) c 0 = true) →
    ∃ m : Nat, Ev (fun k => derive_Judge.l0 k row (row.length : Int) (i : Int) a b c l) (false, (m : Int), 0) ∧ m ≤ row.length ∧ (∀ j, j ≤ m → beB (toGr a b c l) (row.take j) c 0 = true) ∧ (m < row.length → beB (toGr a b c l) (row.take (m + 1)) c 0 = false) := by
  intro n
  induction n with
  | zero =>
    intro i hn hi hv
    have hi' : i = row.length := by omega
    refine ⟨row.length, ⟨1, fun k hk => ?_⟩, Nat.le_refl _, fun j hj => hv j (by omega), fun h => absurd h (Nat.lt_irrefl _)⟩
    obtain ⟨k, rfl⟩ : ∃ m, k = m + 1 := ⟨k - 1, by omega⟩
    show derive_Judge.l0 (k + 1) row _ (i : Int) a b c l = some _
    rw [derive_Judge.l0, if_neg (by omega)]
  | succ n ih =>
    intro i hn hi hv
    by_cases hlt : i < row.length
    · have hw : Keep (wrap64 ((i : Int) + 1) = ((i + 1 : Nat) : Int)) := ⟨by rw [wrap_nat _ (by omega) (by omega)]; rfl⟩
      have hvi := via_zero (g := toGr a b c l) (start_take hE (i + 1))
      cases hb : beB (toGr a b c l) (row.take (i + 1)) c 0 with
      | true =>
        obtain ⟨m, ⟨K, hK⟩, hm⟩ := ih (i + 1) (by omega) (by omega) (fun j hj => by
          by_cases e : j = i + 1
          · subst e; exact hb
          · exact hv j (by omega))
        refine ⟨m, ⟨K + 1, fun k hk => ?_⟩, hm⟩
        obtain ⟨k, rfl⟩ : ∃ m, k = m + 1 := ⟨k - 1, by omega⟩
        show derive_Judge.l0 (k + 1) row _ (i : Int) a b c l = some _
        rw [derive_Judge.l0, if_pos (by omega), hw.out, if_pos (by omega), if_pos (by omega), Int.toNat_natCast, via_to, hvi, Option.bind_some, if_pos (show (beB (toGr a b c l) (row.take (i + 1)) (toGr a b c l).st 0, (0 : Int)).1 = true from hb)]
        exact hK k (by omega)
      | false =>
        refine ⟨i, ⟨1, fun k hk => ?_⟩, by omega, hv, fun _ => hb⟩
        obtain ⟨k, rfl⟩ : ∃ m, k = m + 1 := ⟨k - 1, by omega⟩
        show derive_Judge.l0 (k + 1) row _ (i : Int) a b c l = some _
        have hb' : ¬ (beB (toGr a b c l) (row.take (i + 1)) (toGr a b c l).st 0, (0 : Int)).1 = true := by
          show ¬ beB (toGr a b c l) (row.take (i + 1)) c 0 = true
          rw [hb]; decide
        rw [derive_Judge.l0, if_pos (by omega), hw.out, if_pos (by omega), if_pos (by omega), Int.toNat_natCast, via_to, hvi, Option.bind_some, if_neg hb']
    · have hi' : i = row.length := by omega
      refine ⟨row.length, ⟨1, fun k hk => ?_⟩, Nat.le_refl _, fun j hj => hv j (by omega), fun h => absurd h (Nat.lt_irrefl _)⟩
      obtain ⟨k, rfl⟩ : ∃ m, k = m + 1 := ⟨k - 1, by omega⟩
      show derive_Judge.l0 (k + 1) row _ (i : Int) a b c l = some _
      rw [derive_Judge.l0, if_neg (by omega)]
/-- What Judge answers: v.Ok and v.At. -/
theorem judge_any {a b c : Int} {l : List S55} {row : List Int} (hE : startE (toGr a b c l) c row = 0) (hl : row.length ≤ 64) :
    ∃ (ok : Bool) (m : Nat), Ev (fun k => derive_Judge.f k a b c l row) (ok, (m : Int), 0) ∧ m ≤ row.length ∧ (ok = true ↔ Der (toGr a b c l) c row) ∧ (ok = true → m = 0) ∧ (∀ i, i ≤ row.length → beB (toGr a b c l) (row.take i) c 0 = (ok || decide (i ≤ m))) := by
  have hsi := sent_iff (g := toGr a b c l) hE
  have hd : derR (toGr a b c l) c row = (decide (0 < row.length) && decide (0 < numS (toGr a b c l) row c 0 row.length), 0) := by unfold derR; rw [if_pos hE]
  have hsi' : (decide (0 < row.length) && decide (0 < numS (toGr a b c l) row c 0 row.length)) = true ↔ Der (toGr a b c l) c row := hsi
  cases hD : (decide (0 < row.length) && decide (0 < numS (toGr a b c l) row c 0 row.length)) with
  | true =>
    rw [hD] at hd
    have hder := hsi'.1 hD
    refine ⟨true, 0, ⟨0, fun k _ => ?_⟩, Nat.zero_le _, ⟨fun _ => hder, fun _ => rfl⟩, fun _ => rfl, fun i _ => ?_⟩
    · show derive_Judge.f k a b c l row = some _
      rw [derive_Judge.f, der_to, hd, Option.bind_some, if_pos rfl, if_pos rfl]
      rfl
    · rw [Bool.true_or]
      exact via_take (g := toGr a b c l) hE (sent_via (g := toGr a b c l) hE hder) i
  | false =>
    rw [hD] at hd
    have hnot : ¬ Der (toGr a b c l) c row := fun h => by have := hsi'.2 h; rw [hD] at this; cases this
    obtain ⟨m, ⟨K, hK⟩, hm, hv, hno⟩ := judge_loop hE hl row.length 0 (by omega) (Nat.zero_le _) (fun j hj => by
      have : j = 0 := by omega
      subst this
      rw [List.take_zero, beB_iff]
      exact ⟨0, .inl rfl⟩)
    refine ⟨false, m, ⟨K, fun k hk => ?_⟩, hm, ⟨fun h => (by cases h), fun h => absurd h hnot⟩, fun h => (by cases h), fun i hi => ?_⟩
    · show derive_Judge.f k a b c l row = some _
      rw [derive_Judge.f, der_to, hd, Option.bind_some, if_pos rfl, if_neg (by decide)]
      exact hK k hk
    · rw [Bool.false_or]
      by_cases him : i ≤ m
      · rw [decide_eq_true him]
        exact hv i him
      · rw [decide_eq_false him]
        have h1 := hno (by omega)
        cases hb : beB (toGr a b c l) (row.take i) c 0 with
        | false => rfl
        | true =>
          have := via_take (g := toGr a b c l) (start_take hE i) hb (m + 1)
          rw [List.take_take, show min (m + 1) i = m + 1 from by omega] at this
          have this' : beB (toGr a b c l) (row.take (m + 1)) c 0 = true := this
          rw [h1] at this'
          cases this'
theorem begins_l1 {a b c : Int} {l : List S55} {row : List Int} (hE : startE (toGr a b c l) c row = 0) (hl : row.length ≤ 10) (hv : beB (toGr a b c l) row c 0 = true) (hs : ¬ Der (toGr a b c l) c row) : Ev (fun k => rootstocklaw14_DeriveBegins.l1 k row 0 a b c l) true := by
  obtain ⟨y, hy0, hyT, hyv⟩ := via_on (g := toGr a b c l) hE (by omega) hv hs
  have hyT' : y < a := hyT
  have hT64 : a ≤ 64 := by
    have hg := GrD.of_check (startE_zero hE).1
    have h1 := hg.ok.s0
    have h2 := hg.ok.s1
    have h3 : (toGr a b c l).T = a := rfl
    omega
  have loop : ∀ (n i : Nat), y.toNat - i ≤ n → i ≤ y.toNat → Ev (fun k => rootstocklaw14_DeriveBegins.l1 k row (i : Int) a b c l) true := by
    intro n
    induction n with
    | zero =>
      intro i hn hi
      have e : (i : Int) = y := by omega
      refine ⟨1, fun k hk => ?_⟩
      obtain ⟨k, rfl⟩ : ∃ m, k = m + 1 := ⟨k - 1, by omega⟩
      show rootstocklaw14_DeriveBegins.l1 (k + 1) row (i : Int) a b c l = some true
      rw [e, rootstocklaw14_DeriveBegins.l1, if_pos hyT', rootstocklaw14_CopyInts.f, if_pos (by omega), Option.bind_some, Option.bind_some, if_pos (by simp; omega), via_to, via_zero (g := toGr a b c l) (start_snoc hE ⟨hy0, hyT⟩ (by omega)), Option.bind_some, if_pos hyv, if_pos rfl]
      rfl
    | succ n ih =>
      intro i hn hi
      by_cases hb : beB (toGr a b c l) (row ++ [(i : Int)]) c 0 = true
      · refine ⟨1, fun k hk => ?_⟩
        obtain ⟨k, rfl⟩ : ∃ m, k = m + 1 := ⟨k - 1, by omega⟩
        show rootstocklaw14_DeriveBegins.l1 (k + 1) row (i : Int) a b c l = some true
        rw [rootstocklaw14_DeriveBegins.l1, if_pos (by omega), rootstocklaw14_CopyInts.f, if_pos (by omega), Option.bind_some, Option.bind_some, if_pos (by simp; omega), via_to, via_zero (g := toGr a b c l) (start_snoc hE ⟨by omega, by show (i : Int) < a; omega⟩ (by omega)), Option.bind_some, if_pos (show (beB (toGr a b c l) (row ++ [(i : Int)]) (toGr a b c l).st 0, (0 : Int)).1 = true from hb), if_pos rfl]
        rfl
      · by_cases hiy : i = y.toNat
        · have e : (i : Int) = y := by omega
          rw [e] at hb
          exact absurd hyv hb
        · have hw : Keep (wrap64 ((i : Int) + 1) = ((i + 1 : Nat) : Int)) := ⟨by rw [wrap_nat _ (by omega) (by omega)]; rfl⟩
          obtain ⟨K, hK⟩ := ih (i + 1) (by omega) (by omega)
          refine ⟨K + 1, fun k hk => ?_⟩
          obtain ⟨k, rfl⟩ : ∃ m, k = m + 1 := ⟨k - 1, by omega⟩
          show rootstocklaw14_DeriveBegins.l1 (k + 1) row (i : Int) a b c l = some true
          rw [rootstocklaw14_DeriveBegins.l1, if_pos (by omega), rootstocklaw14_CopyInts.f, if_pos (by omega), Option.bind_some, Option.bind_some, if_pos (by simp; omega), via_to, via_zero (g := toGr a b c l) (start_snoc hE ⟨by omega, by show (i : Int) < a; omega⟩ (by omega)), Option.bind_some, if_neg (show ¬ (beB (toGr a b c l) (row ++ [(i : Int)]) (toGr a b c l).st 0, (0 : Int)).1 = true from hb), hw.out]
          exact hK k (by omega)
  exact loop y.toNat 0 (by omega) (Nat.zero_le _)
theorem begins_pure (a b c : Int) (l : List S55) (row : List Int) : ∃ k, rootstocklaw14_DeriveBegins.f k a b c l row = some true := by
  obtain ⟨r, ⟨K0, hK0⟩, hr⟩ := great_any a b c l
  by_cases hbig : r = true ∨ row.length > 10
  · refine ⟨K0 + 1, ?_⟩
    have h0 := hK0 (K0 + 1) (by omega)
    dsimp only at h0
    rw [rootstocklaw14_DeriveBegins.f, h0, Option.bind_some]
    by_cases h : r = true
    · rw [if_pos h, rootstocklaw14_DeriveBegins.j0, if_pos rfl]
      rfl
    · rw [if_neg h, decide_eq_true (by have := hbig.resolve_left h; omega), rootstocklaw14_DeriveBegins.j0, if_pos rfl]
      rfl
  have hrf : r = false := by cases r with | true => exact absurd (.inl rfl) hbig | false => rfl
  have hl8 : row.length ≤ 10 := by
    have : ¬ row.length > 10 := fun h => hbig (.inr h)
    omega
  subst hrf
  have main : Ev (fun k => rootstocklaw14_DeriveBegins.j0 k row false a b c l) true := by
    by_cases hE : startE (toGr a b c l) c row = 0
    · obtain ⟨ok, m, ⟨KJ, hKJ⟩, hm, hok, hok0, hall⟩ := judge_any hE (by omega)
      have hder : derR (toGr a b c l) c row = (ok, 0) := by
        unfold derR
        rw [if_pos hE]
        congr 1
        rw [Bool.eq_iff_iff, hok]
        exact sent_iff (g := toGr a b c l) hE
      have tail : Ev (fun k => rootstocklaw14_DeriveBegins.j2 k row false a b c l ok (m : Int)) true := by
        cases ok with
        | true =>
          refine ⟨2, fun k hk => ?_⟩
          obtain ⟨k, rfl⟩ : ∃ m, k = m + 1 + 1 := ⟨k - 2, by omega⟩
          show rootstocklaw14_DeriveBegins.j2 (k + 1 + 1) row false a b c l true (m : Int) = some true
          rw [rootstocklaw14_DeriveBegins.j2, if_neg (by decide), if_pos rfl, rootstocklaw14_DeriveBegins.j3, if_pos rfl]
          rfl
        | false =>
          by_cases hlt : m < row.length
          · refine ⟨2, fun k hk => ?_⟩
            obtain ⟨k, rfl⟩ : ∃ m, k = m + 1 + 1 := ⟨k - 2, by omega⟩
            show rootstocklaw14_DeriveBegins.j2 (k + 1 + 1) row false a b c l false (m : Int) = some true
            rw [rootstocklaw14_DeriveBegins.j2, if_neg (by decide), if_neg (by decide), decide_eq_true (by omega), rootstocklaw14_DeriveBegins.j3, if_pos rfl]
            rfl
          · have hv := hall row.length (Nat.le_refl _)
            rw [List.take_length, decide_eq_true (by omega), Bool.or_true] at hv
            obtain ⟨K, hK⟩ := begins_l1 hE hl8 hv (fun h => by have := hok.2 h; cases this)
            refine ⟨K + 2, fun k hk => ?_⟩
            obtain ⟨k, rfl⟩ : ∃ m, k = m + 1 + 1 := ⟨k - 2, by omega⟩
            show rootstocklaw14_DeriveBegins.j2 (k + 1 + 1) row false a b c l false (m : Int) = some true
            rw [rootstocklaw14_DeriveBegins.j2, if_neg (by decide), if_neg (by decide), decide_eq_false (by omega), rootstocklaw14_DeriveBegins.j3, if_neg (by decide)]
            exact hK k (by omega)
      have loop : ∀ (n i : Nat), row.length + 1 - i ≤ n → i ≤ row.length + 1 → Ev (fun k => rootstocklaw14_DeriveBegins.l0 k row (i : Int) a b c l ok (m : Int)) true := by
        have hend : ∀ k, rootstocklaw14_DeriveBegins.l0 (k + 1) row ((row.length + 1 : Nat) : Int) a b c l ok (m : Int) = rootstocklaw14_DeriveBegins.j2 k row false a b c l ok (m : Int) := fun k => by
          rw [rootstocklaw14_DeriveBegins.l0, if_neg (by omega), der_to, hder, Option.bind_some, if_pos rfl, if_neg (by simp)]
          cases ok with
          | true =>
            have := hok0 rfl
            subst this
            rw [if_pos rfl, if_pos (show ((0 : Nat) : Int) = 0 from rfl), if_neg (show ¬ ((0 : Nat) : Int) < 0 by omega), decide_eq_false (by omega)]
          | false => rw [if_neg (by decide), if_neg (by omega), decide_eq_false (by omega)]
        intro n
        induction n with
        | zero =>
          intro i hn hi
          have e : i = row.length + 1 := by omega
          subst e
          obtain ⟨K, hK⟩ := tail
          refine ⟨K + 1, fun k hk => ?_⟩
          obtain ⟨k, rfl⟩ : ∃ m, k = m + 1 := ⟨k - 1, by omega⟩
          exact (hend k).trans (hK k (by omega))
        | succ n ih =>
          intro i hn hi
          by_cases hlt : i ≤ row.length
          · have hw : Keep (wrap64 ((i : Int) + 1) = ((i + 1 : Nat) : Int)) := ⟨by rw [wrap_nat _ (by omega) (by omega)]; rfl⟩
            have hvi := via_zero (g := toGr a b c l) (start_take hE i)
            have hai : beB (toGr a b c l) (row.take i) (toGr a b c l).st 0 = (ok || decide (i ≤ m)) := hall i hlt
            rw [hai] at hvi
            obtain ⟨K, hK⟩ := ih (i + 1) (by omega) (by omega)
            refine ⟨K + 1, fun k hk => ?_⟩
            obtain ⟨k, rfl⟩ : ∃ m, k = m + 1 := ⟨k - 1, by omega⟩
            show rootstocklaw14_DeriveBegins.l0 (k + 1) row (i : Int) a b c l ok (m : Int) = some true
            rw [rootstocklaw14_DeriveBegins.l0, if_pos (by omega), if_pos (by omega), Int.toNat_natCast, via_to, hvi, Option.bind_some, if_pos rfl]
            have hk' := hK k (by omega)
            dsimp only at hk'
            cases ok with
            | true => rw [if_pos rfl, if_neg (by simp), hw.out]; exact hk'
            | false => rw [if_neg (by decide), if_neg (by simp), hw.out]; exact hk'
          · have e : i = row.length + 1 := by omega
            subst e
            obtain ⟨K, hK⟩ := tail
            refine ⟨K + 1, fun k hk => ?_⟩
            obtain ⟨k, rfl⟩ : ∃ m, k = m + 1 := ⟨k - 1, by omega⟩
            exact (hend k).trans (hK k (by omega))
      obtain ⟨K, hK⟩ := loop (row.length + 1) 0 (by omega) (Nat.zero_le _)
      refine ⟨KJ + K + 1, fun k hk => ?_⟩
      obtain ⟨k, rfl⟩ : ∃ m, k = m + 1 := ⟨k - 1, by omega⟩
      show rootstocklaw14_DeriveBegins.j0 (k + 1) row false a b c l = some true
      have h1 := hKJ k (by omega)
      dsimp only at h1
      rw [rootstocklaw14_DeriveBegins.j0, if_neg (by decide), h1, Option.bind_some, if_pos rfl]
      exact hK k (by omega)
    · have hd : derR (toGr a b c l) c row = (false, startE (toGr a b c l) c row) := by unfold derR; rw [if_neg hE]
      refine ⟨1, fun k hk => ?_⟩
      obtain ⟨k, rfl⟩ : ∃ m, k = m + 1 := ⟨k - 1, by omega⟩
      show rootstocklaw14_DeriveBegins.j0 (k + 1) row false a b c l = some true
      have hj : derive_Judge.f k a b c l row = some (false, 0, startE (toGr a b c l) c row) := by
        rw [derive_Judge.f, der_to, hd, Option.bind_some, if_neg hE]
      rw [rootstocklaw14_DeriveBegins.j0, if_neg (by decide), hj, Option.bind_some, if_neg hE, if_pos (by rfl)]
      rfl
  obtain ⟨K, hK⟩ := main
  refine ⟨K0 + K, ?_⟩
  have h0 := hK0 (K0 + K) (by omega)
  dsimp only at h0
  rw [rootstocklaw14_DeriveBegins.f, h0, Option.bind_some, if_neg (by decide), decide_eq_false (by omega)]
  exact hK (K0 + K) (by omega)
theorem begins_walk (g : H.Gr) (l1 : List Int) (A A1 : Option Addr) (c c1 : Nat) (w : World) (h : H.GrIn w g A c) (hl : l1.length ≤ c1 ∧ c1 ≤ 9223372036854775807) (hr : H.Rd H.eI 1 w w.heap.size A1 l1) :
    Calls Try.prog 7 #[H.grV g A c, .slice A1 l1.length c1] w fun e w' => e = .returned (.bool true) ∧ Below w.heap.size w w' := by
  have hm : l1.length ≤ 9223372036854775807 := by omega
  obtain ⟨k, hk⟩ := begins_pure g.T g.S g.st (g.ps.map unPr) l1
  have := rootstocklaw14_DeriveBegins.calls k g.T g.S g.st A c (g.ps.map unPr) A1 c1 l1 true w (rdP_to h.r h.l2 h.b) (by simpa using h.l) (rdI_to hr hm) hl.1 rfl hk
  rw [← grV_of, toGr_un] at this
  exact this
end Go.Proofs.Ytadabkkkalgehaa.PBe
