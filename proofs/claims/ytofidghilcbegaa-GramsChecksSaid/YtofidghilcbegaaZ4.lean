import Derived.Test.YtofidghilcbegaaZ2
import Derived.Test.YtofidghilcbegaaZ3
import Derived.Test.YtofidghilcbegaaZ0
namespace Go.Proofs.Ytofidghilcbegaa.PRc
open Go.RowKit Go.Proofs.YtofidghilcbegaaW.PrintWords Go.Proofs.Ytofidghilcbegaa.H
set_option linter.unusedVariables false
set_option linter.unusedSimpArgs false
set_option linter.unusedSectionVars false
abbrev SP := S38
theorem rd_pr (l : List SP) (i : Nat) (h : i < l.length) : rd_T38 l (i : Int) = l[i] := by simp [rd_T38, List.getD_eq_getElem?_getD, h]
theorem rdOf_gb (m : List Bool) (s : Int) : rdOf false m s = gb m s := rfl
theorem wn (j : Nat) (h : j < 9223372036854775807) : Keep (wrap64 ((j : Int) + 1) = ((j + 1 : Nat) : Int)) := ⟨by rw [wrap_nat _ (by omega) (by omega)]; rfl⟩
theorem same_l0 {a0 a1 : Int} {x y : List Int} {b0 b1 : Bool} (hl : x.length = y.length) (hm : x.length ≤ 9223372036854775807) : ∀ (n j : Nat), x.length - j ≤ n → j ≤ x.length →
    Ev (fun k => rootstockref13_same.l0 k (j : Int) a0 x b0 a1 y b1) (decide (y.drop j = x.drop j)) := by
  intro n
  induction n with
  | zero =>
    intro j hn hj
    obtain rfl : j = x.length := by omega
    refine Ev.step (f := fun _ => some _) (fun k => ?_) (Ev.now _)
    rw [rootstockref13_same.l0, if_neg (by omega), List.drop_length, List.drop_eq_nil_of_le (by omega)]
    rfl
  | succ n ih =>
    intro j hn hj
    by_cases hlt : j < x.length
    · have hw := wn j (by omega)
      by_cases e : x[j] = y[j]
      · refine Ev.step (f := fun k => rootstockref13_same.l0 k ((j + 1 : Nat) : Int) a0 x b0 a1 y b1) (fun k => ?_) ?_
        · rw [rootstockref13_same.l0, if_pos (by omega), if_pos (by omega), if_pos (by omega), rd_get x j hlt, rd_get y j (by omega), if_pos e, hw.out]
        · have := ih (j + 1) (by omega) (by omega)
          rw [List.drop_eq_getElem_cons hlt, List.drop_eq_getElem_cons (show j < y.length by omega)]
          have e2 : decide (y[j] :: y.drop (j + 1) = x[j] :: x.drop (j + 1)) = decide (y.drop (j + 1) = x.drop (j + 1)) := by
            rw [decide_eq_decide, List.cons.injEq]
            exact ⟨fun h => h.2, fun h => ⟨e.symm, h⟩⟩
          rw [e2]
          exact this
      · refine Ev.step (f := fun _ => some _) (fun k => ?_) (Ev.now _)
        rw [rootstockref13_same.l0, if_pos (by omega), if_pos (by omega), if_pos (by omega), rd_get x j hlt, rd_get y j (by omega), if_neg e]
        congr 1
        symm
        rw [decide_eq_false_iff_not, List.drop_eq_getElem_cons hlt, List.drop_eq_getElem_cons (show j < y.length by omega), List.cons.injEq]
        exact fun h => e h.1.symm
    · obtain rfl : j = x.length := by omega
      refine Ev.step (f := fun _ => some _) (fun k => ?_) (Ev.now _)
      rw [rootstockref13_same.l0, if_neg (by omega), List.drop_length, List.drop_eq_nil_of_le (by omega)]
      rfl
theorem same_any (x y : SP) (hm : x.f1.length ≤ 9223372036854775807) (hn : y.f1.length ≤ 9223372036854775807) : Ev (fun k => rootstockref13_same.f k x.f0 x.f1 x.f2 y.f0 y.f1 y.f2) (sameP (toPr x) (toPr y)) := by
  show Ev _ (decide (y.f0 = x.f0) && decide (y.f1 = x.f1))
  by_cases h : x.f0 = y.f0
  · rw [decide_eq_true h.symm, Bool.true_and]
    by_cases hl : x.f1.length = y.f1.length
    · refine Ev.congr (g := fun k => rootstockref13_same.f k x.f0 x.f1 x.f2 y.f0 y.f1 y.f2) (f := fun k => rootstockref13_same.j0 k false x.f0 x.f1 x.f2 y.f0 y.f1 y.f2) (fun k => ?_) ?_
      · rw [rootstockref13_same.f, if_pos h, bne_eq_false_iff_eq.2 (by omega)]
      · refine Ev.step (f := fun k => rootstockref13_same.l0 k ((0 : Nat) : Int) x.f0 x.f1 x.f2 y.f0 y.f1 y.f2) (fun k => ?_) ?_
        · rw [rootstockref13_same.j0, if_neg (by decide)]; rfl
        · have := same_l0 (a0 := x.f0) (a1 := y.f0) (b0 := x.f2) (b1 := y.f2) hl hm x.f1.length 0 (by omega) (Nat.zero_le _)
          simpa using this
    · have e : decide (y.f1 = x.f1) = false := decide_eq_false (fun e => hl (by rw [e]))
      rw [e]
      refine Ev.congr (g := fun k => rootstockref13_same.f k x.f0 x.f1 x.f2 y.f0 y.f1 y.f2) (f := fun k => rootstockref13_same.j0 k true x.f0 x.f1 x.f2 y.f0 y.f1 y.f2) (fun k => ?_) ?_
      · rw [rootstockref13_same.f, if_pos h, bne_iff_ne.2 (by omega)]
      · refine Ev.step (f := fun _ => some _) (fun k => ?_) (Ev.now _)
        rw [rootstockref13_same.j0, if_pos rfl]
  · rw [decide_eq_false (fun e => h e.symm), Bool.false_and]
    refine Ev.congr (g := fun k => rootstockref13_same.f k x.f0 x.f1 x.f2 y.f0 y.f1 y.f2) (f := fun k => rootstockref13_same.j0 k true x.f0 x.f1 x.f2 y.f0 y.f1 y.f2) (fun k => ?_) ?_
    · rw [rootstockref13_same.f, if_neg h]
    · refine Ev.step (f := fun _ => some _) (fun k => ?_) (Ev.now _)
      rw [rootstockref13_same.j0, if_pos rfl]
section
variable {a b c : Int} {l : List SP} (hn : l.length ≤ 64) (hb : ∀ p ∈ l, p.f1.length ≤ 9223372036854775807)
include hn hb
theorem numbers_l2 {i : Nat} {r : Bool} (hi : i < l.length) (hr : Ev (fun k => rootstockref13_numbers.l0 k ((i + 1 : Nat) : Int) a b c l) r) : ∀ (n j : Nat), i - j ≤ n → j ≤ i →
    Ev (fun k => rootstockref13_numbers.l2 k (i : Int) (j : Int) a b c l) (!((((l.map toPr).take i).drop j).any (sameP (toPr l[i]))) && r) := by
  intro n
  induction n with
  | zero =>
    intro j hj1 hj2
    obtain rfl : j = i := by omega
    have hw := wn j (by omega)
    refine Ev.step (f := fun k => rootstockref13_numbers.l0 k ((j + 1 : Nat) : Int) a b c l) (fun k => ?_) ?_
    · rw [rootstockref13_numbers.l2, if_neg (by omega), hw.out]
    · rw [List.drop_eq_nil_of_le (by simp; omega)]
      simpa using hr
  | succ n ih =>
    intro j hj1 hj2
    by_cases hlt : j < i
    · have hw := wn j (by omega)
      have hs := same_any l[i] l[j] (hb _ (List.getElem_mem _)) (hb _ (List.getElem_mem _))
      have hdr : ((l.map toPr).take i).drop j = toPr l[j] :: ((l.map toPr).take i).drop (j + 1) := by
        rw [List.drop_eq_getElem_cons (by simp; omega)]
        simp
      rw [hdr, List.any_cons]
      refine Ev.step (f := fun k => (rootstockref13_same.f k l[i].f0 l[i].f1 l[i].f2 l[j].f0 l[j].f1 l[j].f2).bind fun t => if t = true then some false else rootstockref13_numbers.l2 k (i : Int) ((j + 1 : Nat) : Int) a b c l) (fun k => ?_) ?_
      · rw [rootstockref13_numbers.l2, if_pos (by omega), if_pos (by omega), if_pos (by omega), if_pos (by omega), if_pos (by omega), rd_pr l i hi, rd_pr l j (by omega), hw.out]
      · refine Ev.bind hs ?_
        cases hsm : sameP (toPr l[i]) (toPr l[j]) with
        | true => simpa using Ev.now false
        | false =>
          have := ih (j + 1) (by omega) (by omega)
          simpa using this
    · obtain rfl : j = i := by omega
      have hw := wn j (by omega)
      refine Ev.step (f := fun k => rootstockref13_numbers.l0 k ((j + 1 : Nat) : Int) a b c l) (fun k => ?_) ?_
      · rw [rootstockref13_numbers.l2, if_neg (by omega), hw.out]
      · rw [List.drop_eq_nil_of_le (by simp; omega)]
        simpa using hr
theorem numbers_l1 {i : Nat} {r : Bool} (hi : i < l.length) (hr : Ev (fun k => rootstockref13_numbers.l0 k ((i + 1 : Nat) : Int) a b c l) r) : ∀ (n j : Nat), l[i].f1.length - j ≤ n → j ≤ l[i].f1.length →
    Ev (fun k => rootstockref13_numbers.l1 k (i : Int) (j : Int) a b c l) ((l[i].f1.drop j).all (symB b) && (!(((l.map toPr).take i).any (sameP (toPr l[i]))) && r)) := by
  have h2 := numbers_l2 hn hb hi hr i 0 (by omega) (Nat.zero_le _)
  rw [List.drop_zero] at h2
  have hbl := hb _ (List.getElem_mem hi)
  intro n
  induction n with
  | zero =>
    intro j hj1 hj2
    refine Ev.step (f := fun k => rootstockref13_numbers.l2 k (i : Int) ((0 : Nat) : Int) a b c l) (fun k => ?_) ?_
    · rw [rootstockref13_numbers.l1, if_pos (by omega), if_pos (by omega), rd_pr l i hi, if_neg (by omega)]; rfl
    · rw [List.drop_eq_nil_of_le (by omega)]
      simpa using h2
  | succ n ih =>
    intro j hj1 hj2
    by_cases hlt : j < l[i].f1.length
    · have hw := wn j (by omega)
      rw [List.drop_eq_getElem_cons hlt, List.all_cons]
      have hsy : ∀ y : Int, rootstockref13_symbol.f a b c l y = some (symB b y) := fun y => by
        unfold rootstockref13_symbol.f symB
        by_cases h : y ≥ 0
        · rw [if_pos h, decide_eq_true (show 0 ≤ y from h), Bool.true_and]
        · rw [if_neg h, decide_eq_false (show ¬ 0 ≤ y from h), Bool.false_and]
      cases hs : symB b l[i].f1[j] with
      | true =>
        refine Ev.step (f := fun k => rootstockref13_numbers.l1 k (i : Int) ((j + 1 : Nat) : Int) a b c l) (fun k => ?_) ?_
        · rw [rootstockref13_numbers.l1, if_pos (by omega), if_pos (by omega), rd_pr l i hi, if_pos (by omega), if_pos (by omega), rd_get _ j hlt, hsy, hs, Option.bind_some, if_pos rfl, hw.out]
        · simpa using ih (j + 1) (by omega) (by omega)
      | false =>
        refine Ev.step (f := fun _ => some _) (fun k => ?_) (Ev.now _)
        rw [rootstockref13_numbers.l1, if_pos (by omega), if_pos (by omega), rd_pr l i hi, if_pos (by omega), if_pos (by omega), rd_get _ j hlt, hsy, hs, Option.bind_some, if_neg (by decide)]
        simp
    · refine Ev.step (f := fun k => rootstockref13_numbers.l2 k (i : Int) ((0 : Nat) : Int) a b c l) (fun k => ?_) ?_
      · rw [rootstockref13_numbers.l1, if_pos (by omega), if_pos (by omega), rd_pr l i hi, if_neg (by omega)]; rfl
      · rw [List.drop_eq_nil_of_le (by omega)]
        simpa using h2
theorem head_f (s : Int) : rootstockref13_head.f a b c l s = some (decide (a ≤ s) && decide (s < b)) := by
  unfold rootstockref13_head.f
  by_cases h : s ≥ a
  · rw [if_pos h, decide_eq_true (show a ≤ s from h), Bool.true_and]
  · rw [if_neg h, decide_eq_false (show ¬ a ≤ s from h), Bool.false_and]
theorem numbers_l0 : ∀ (n i : Nat), l.length - i ≤ n → i ≤ l.length → Ev (fun k => rootstockref13_numbers.l0 k (i : Int) a b c l) ((List.range' i (l.length - i)).all (okAt (toGr a b c l))) := by
  intro n
  induction n with
  | zero =>
    intro i h1 h2
    obtain rfl : i = l.length := by omega
    refine Ev.step (f := fun _ => some _) (fun k => ?_) (Ev.now _)
    rw [rootstockref13_numbers.l0, if_neg (by omega), Nat.sub_self]
    rfl
  | succ n ih =>
    intro i h1 h2
    by_cases hi : i < l.length
    · have hr := ih (i + 1) (by omega) (by omega)
      have e : l.length - i = l.length - (i + 1) + 1 := by omega
      rw [e, List.range'_succ, List.all_cons]
      have hok : okAt (toGr a b c l) i = (decide (a ≤ l[i].f0) && decide (l[i].f0 < b) && l[i].f1.all (symB b) && !(((l.map toPr).take i).any (sameP (toPr l[i])))) := by
        unfold okAt toGr
        dsimp only
        rw [List.getElem?_map, List.getElem?_eq_getElem hi]
        rfl
      have h3 := numbers_l1 hn hb hi hr l[i].f1.length 0 (by omega) (Nat.zero_le _)
      rw [List.drop_zero] at h3
      rw [hok]
      cases hh : (decide (a ≤ l[i].f0) && decide (l[i].f0 < b)) with
      | true =>
        refine Ev.step (f := fun k => rootstockref13_numbers.l1 k (i : Int) ((0 : Nat) : Int) a b c l) (fun k => ?_) ?_
        · rw [rootstockref13_numbers.l0, if_pos (by omega), if_pos (by omega), rd_pr l i hi, head_f hn hb, hh, Option.bind_some, if_pos rfl]; rfl
        · simpa [Bool.and_assoc] using h3
      | false =>
        refine Ev.step (f := fun _ => some _) (fun k => ?_) (Ev.now _)
        rw [rootstockref13_numbers.l0, if_pos (by omega), if_pos (by omega), rd_pr l i hi, head_f hn hb, hh, Option.bind_some, if_neg (by decide)]
        simp
    · obtain rfl : i = l.length := by omega
      refine Ev.step (f := fun _ => some _) (fun k => ?_) (Ev.now _)
      rw [rootstockref13_numbers.l0, if_neg (by omega), Nat.sub_self]
      rfl
end
theorem numbers_any (a b c : Int) (l : List SP) (hb : ∀ p ∈ l, p.f1.length ≤ 9223372036854775807) : Ev (fun k => rootstockref13_numbers.f k a b c l) (numbersB (toGr a b c l)) := by
  have hhead : headB (toGr a b c l) = decide (1 ≤ a ∧ a ≤ 32 ∧ a < b ∧ b ≤ 64 ∧ a ≤ c ∧ c < b ∧ 0 < l.length ∧ l.length ≤ 64) := by
    unfold headB toGr
    simp
  have no : headB (toGr a b c l) = false → (∀ k, rootstockref13_numbers.f k a b c l = rootstockref13_numbers.j0 k true a b c l) → Ev (fun k => rootstockref13_numbers.f k a b c l) (numbersB (toGr a b c l)) := fun h1 h2 => by
    rw [numbersB_head h1]
    refine Ev.congr (f := fun k => rootstockref13_numbers.j0 k true a b c l) h2 ?_
    refine Ev.step (f := fun _ => some _) (fun k => ?_) (Ev.now _)
    rw [rootstockref13_numbers.j0, if_pos rfl]
  by_cases h1 : a < 1
  · exact no (by rw [hhead]; exact decide_eq_false (by omega)) fun k => by rw [rootstockref13_numbers.f, if_pos h1]
  by_cases h2 : a > 32
  · exact no (by rw [hhead]; exact decide_eq_false (by omega)) fun k => by rw [rootstockref13_numbers.f, if_neg h1, if_pos h2]
  by_cases h3 : b ≤ a
  · exact no (by rw [hhead]; exact decide_eq_false (by omega)) fun k => by rw [rootstockref13_numbers.f, if_neg h1, if_neg h2, if_pos h3]
  by_cases h4 : b > 64
  · exact no (by rw [hhead]; exact decide_eq_false (by omega)) fun k => by rw [rootstockref13_numbers.f, if_neg h1, if_neg h2, if_neg h3, if_pos h4]
  have hhf : rootstockref13_head.f a b c l c = some (decide (a ≤ c) && decide (c < b)) := by
    unfold rootstockref13_head.f
    by_cases h : c ≥ a
    · rw [if_pos h, decide_eq_true (show a ≤ c from h), Bool.true_and]
    · rw [if_neg h, decide_eq_false (show ¬ a ≤ c from h), Bool.false_and]
  by_cases h5 : a ≤ c ∧ c < b
  · have h5' : (decide (a ≤ c) && decide (c < b)) = true := by simp [h5]
    by_cases h6 : (l.length : Int) < 1
    · exact no (by rw [hhead]; exact decide_eq_false (by omega)) fun k => by rw [rootstockref13_numbers.f, if_neg h1, if_neg h2, if_neg h3, if_neg h4, hhf, Option.bind_some, if_pos h5', if_pos h6]
    by_cases h7 : (l.length : Int) > 64
    · exact no (by rw [hhead]; exact decide_eq_false (by omega)) fun k => by rw [rootstockref13_numbers.f, if_neg h1, if_neg h2, if_neg h3, if_neg h4, hhf, Option.bind_some, if_pos h5', if_neg h6, decide_eq_true h7]
    · have hh : headB (toGr a b c l) = true := by rw [hhead]; exact decide_eq_true (by omega)
      have hl : (toGr a b c l).ps.length = l.length := by simp [toGr]
      unfold numbersB
      rw [hh, Bool.true_and, hl, List.range_eq_range']
      refine Ev.congr (f := fun k => rootstockref13_numbers.j0 k false a b c l) (fun k => by rw [rootstockref13_numbers.f, if_neg h1, if_neg h2, if_neg h3, if_neg h4, hhf, Option.bind_some, if_pos h5', if_neg h6, decide_eq_false h7]) ?_
      refine Ev.step (f := fun k => rootstockref13_numbers.l0 k ((0 : Nat) : Int) a b c l) (fun k => ?_) ?_
      · rw [rootstockref13_numbers.j0, if_neg (by decide)]; rfl
      · have := numbers_l0 (a := a) (b := b) (c := c) (l := l) (by omega) hb l.length 0 (by omega) (Nat.zero_le _)
        simpa using this
  · have h5' : ¬ (decide (a ≤ c) && decide (c < b)) = true := by simp; omega
    exact no (by rw [hhead]; exact decide_eq_false (by omega)) fun k => by rw [rootstockref13_numbers.f, if_neg h1, if_neg h2, if_neg h3, if_neg h4, hhf, Option.bind_some, if_neg h5']
section
variable {a b c : Int} {l : List SP} (ok : GrOk (toGr a b c l)) (hb : ∀ p ∈ l, p.f1.length ≤ 8)
include ok hb
theorem len64 : l.length ≤ 64 := by have := ok.n1; simpa [toGr] using this
theorem pr_in {i : Nat} (hi : i < l.length) : PrIn b.toNat (toPr l[i]) := by
  have h := ok.pr (toPr l[i]) (by simp only [toGr]; exact List.mem_map_of_mem (List.getElem_mem hi))
  have hT := ok.t0
  have h1 : (toGr a b c l).T = a := rfl
  have h2 : (toGr a b c l).S = b := rfl
  rw [h1, h2] at h
  rw [h1] at hT
  exact ⟨by omega, by omega, fun y hy => by have := h.2.2 y hy; omega⟩
theorem come_l2 {F : List Bool → List Bool} {x4 : Int} {i : Nat} (hi : i < l.length) (hF : ∀ m : List Bool, m.length = b.toNat → Ev (fun k => rootstockref13_come.l1 k m x4 ((i + 1 : Nat) : Int) a b c l) (F m)) : ∀ (n j : Nat) (m : List Bool), m.length = b.toNat → l[i].f1.length - j ≤ n → j ≤ l[i].f1.length →
    Ev (fun k => rootstockref13_come.l2 k m x4 (i : Int) (j : Int) a b c l) (F ((l[i].f1.drop j).foldl (cIn l[i].f0) m)) := by
  have hpin := pr_in ok hb hi
  have h64 := len64 ok hb
  have h8 := hb _ (List.getElem_mem hi)
  have hp0 : 0 ≤ l[i].f0 := hpin.1
  have hp1 : l[i].f0.toNat < b.toNat := hpin.2.1
  intro n
  induction n with
  | zero =>
    intro j m hm h1 h2
    have hw := wn i (by omega)
    refine Ev.step (f := fun k => rootstockref13_come.l1 k m x4 ((i + 1 : Nat) : Int) a b c l) (fun k => ?_) ?_
    · rw [rootstockref13_come.l2, if_pos (by omega), if_pos (by omega), rd_pr l i hi, if_neg (by omega), hw.out]
    · rw [List.drop_eq_nil_of_le (by omega)]
      exact hF m hm
  | succ n ih =>
    intro j m hm h1 h2
    by_cases hlt : j < l[i].f1.length
    · have hw := wn j (by omega)
      have hy := hpin.2.2 l[i].f1[j] (List.getElem_mem hlt)
      rw [List.drop_eq_getElem_cons hlt, List.foldl_cons]
      refine Ev.step (f := fun k => rootstockref13_come.l2 k (cIn l[i].f0 m l[i].f1[j]) x4 (i : Int) ((j + 1 : Nat) : Int) a b c l) (fun k => ?_) ?_
      · rw [rootstockref13_come.l2, if_pos (by omega), if_pos (by omega), rd_pr l i hi, if_pos (by omega), if_pos (by omega), rd_get _ j hlt, if_pos (by omega), if_pos (by omega), rdOf_gb, rdOf_gb, hw.out]
        unfold cIn
        by_cases hg : gb m l[i].f1[j] = true
        · rw [if_pos hg, hg, Bool.true_or]
        · rw [if_neg hg, if_pos (by omega), if_pos (by omega), show gb m l[i].f1[j] = false from by simpa using hg, Bool.false_or]
      · exact ih (j + 1) _ (by simp [cIn, hm]) (by omega) (by omega)
    · have hw := wn i (by omega)
      refine Ev.step (f := fun k => rootstockref13_come.l1 k m x4 ((i + 1 : Nat) : Int) a b c l) (fun k => ?_) ?_
      · rw [rootstockref13_come.l2, if_pos (by omega), if_pos (by omega), rd_pr l i hi, if_neg (by omega), hw.out]
      · rw [List.drop_eq_nil_of_le (by omega)]
        exact hF m hm
theorem come_l1 {F : List Bool → List Bool} {x4 : Nat} (hx : x4 < 1000) (hF : ∀ m : List Bool, m.length = b.toNat → Ev (fun k => rootstockref13_come.l0 k m ((x4 + 1 : Nat) : Int) a b c l) (F m)) : ∀ (n i : Nat) (m : List Bool), m.length = b.toNat → l.length - i ≤ n → i ≤ l.length →
    Ev (fun k => rootstockref13_come.l1 k m (x4 : Int) (i : Int) a b c l) (F (((l.map toPr).drop i).foldl cStep m)) := by
  have h64 := len64 ok hb
  have hw := wn x4 (by omega)
  intro n
  induction n with
  | zero =>
    intro i m hm h1 h2
    refine Ev.step (f := fun k => rootstockref13_come.l0 k m ((x4 + 1 : Nat) : Int) a b c l) (fun k => ?_) ?_
    · rw [rootstockref13_come.l1, if_neg (by omega), hw.out]
    · rw [List.drop_eq_nil_of_le (by simp; omega)]
      exact hF m hm
  | succ n ih =>
    intro i m hm h1 h2
    by_cases hi : i < l.length
    · have hdr : (l.map toPr).drop i = toPr l[i] :: (l.map toPr).drop (i + 1) := by rw [List.drop_eq_getElem_cons (by simpa using hi)]; simp
      rw [hdr, List.foldl_cons]
      refine Ev.step (f := fun k => rootstockref13_come.l2 k m (x4 : Int) (i : Int) ((0 : Nat) : Int) a b c l) (fun k => ?_) ?_
      · rw [rootstockref13_come.l1, if_pos (by omega)]; rfl
      · have := come_l2 ok hb (F := fun m => F (((l.map toPr).drop (i + 1)).foldl cStep m)) (x4 := (x4 : Int)) hi (fun m hm => ih (i + 1) m hm (by omega) (by omega)) l[i].f1.length 0 m hm (by omega) (Nat.zero_le _)
        exact this
    · refine Ev.step (f := fun k => rootstockref13_come.l0 k m ((x4 + 1 : Nat) : Int) a b c l) (fun k => ?_) ?_
      · rw [rootstockref13_come.l1, if_neg (by omega), hw.out]
      · rw [List.drop_eq_nil_of_le (by simp; omega)]
        exact hF m hm
theorem come_l0 : ∀ (n x4 : Nat) (m : List Bool), m.length = b.toNat → b.toNat - x4 = n → x4 ≤ b.toNat → Ev (fun k => rootstockref13_come.l0 k m (x4 : Int) a b c l) (its (cRound (l.map toPr)) n m) := by
  have hS1 := ok.s1
  have hS0 := ok.s0
  have hT0 := ok.t0
  have e2 : (toGr a b c l).S = b := rfl
  have e1 : (toGr a b c l).T = a := rfl
  rw [e2] at hS1 hS0
  rw [e1] at hS0 hT0
  intro n
  induction n with
  | zero =>
    intro x4 m hm h1 h2
    refine Ev.step (f := fun _ => some _) (fun k => ?_) (Ev.now _)
    rw [rootstockref13_come.l0, if_neg (by omega)]
    rfl
  | succ n ih =>
    intro x4 m hm h1 h2
    refine Ev.step (f := fun k => rootstockref13_come.l1 k m (x4 : Int) ((0 : Nat) : Int) a b c l) (fun k => ?_) ?_
    · rw [rootstockref13_come.l0, if_pos (by omega)]; rfl
    · have := come_l1 ok hb (F := its (cRound (l.map toPr)) n) (x4 := x4) (by omega) (fun m hm => ih (x4 + 1) m hm (by omega) (by omega)) l.length 0 m hm (by omega) (Nat.zero_le _)
      rw [List.drop_zero] at this
      exact this
theorem come_any : Ev (fun k => rootstockref13_come.f k a b c l) (comeL (toGr a b c l)) := by
  have hS1 : b ≤ 64 := ok.s1
  have hS0 : a < b := ok.s0
  have hT0 : 1 ≤ a := ok.t0
  have hst0 : a ≤ c := ok.st0
  have hst1 : c < b := ok.st1
  refine Ev.congr (f := fun k => rootstockref13_come.l0 k ((List.replicate b.toNat false).set c.toNat true) ((0 : Nat) : Int) a b c l) (fun k => ?_) ?_
  · rw [rootstockref13_come.f, if_pos (by omega), if_pos (by omega), Option.bind_some, if_pos (by omega), if_pos (by simp; omega)]
    rfl
  · exact come_l0 ok hb b.toNat 0 _ (by simp) (by omega) (by omega)
theorem good_l3 {F : List Bool → List Bool} {x5 : Int} {i : Nat} (hi : i < l.length) {m : List Bool} (hm : m.length = b.toNat) (hF : ∀ m : List Bool, m.length = b.toNat → Ev (fun k => rootstockref13_good.l2 k m x5 ((i + 1 : Nat) : Int) a b c l) (F m)) : ∀ (n j : Nat) (x7 : Bool), l[i].f1.length - j ≤ n → j ≤ l[i].f1.length →
    Ev (fun k => rootstockref13_good.l3 k m x5 (i : Int) x7 (j : Int) a b c l) (F (m.set l[i].f0.toNat (gb m l[i].f0 || (x7 && (l[i].f1.drop j).all (gb m))))) := by
  have hpin := pr_in ok hb hi
  have h64 := len64 ok hb
  have h8 := hb _ (List.getElem_mem hi)
  have hp0 : 0 ≤ l[i].f0 := hpin.1
  have hp1 : l[i].f0.toNat < b.toNat := hpin.2.1
  have hw := wn i (by omega)
  have fin : ∀ (j : Nat) (x7 : Bool), l[i].f1.length ≤ j → Ev (fun k => rootstockref13_good.l3 k m x5 (i : Int) x7 (j : Int) a b c l) (F (m.set l[i].f0.toNat (gb m l[i].f0 || (x7 && (l[i].f1.drop j).all (gb m))))) := fun j x7 hj => by
    rw [List.drop_eq_nil_of_le hj, List.all_nil, Bool.and_true]
    refine Ev.step (f := fun k => rootstockref13_good.l2 k (m.set l[i].f0.toNat (gb m l[i].f0 || x7)) x5 ((i + 1 : Nat) : Int) a b c l) (fun k => ?_) (hF (m.set l[i].f0.toNat (gb m l[i].f0 || x7)) (by rw [List.length_set]; exact hm))
    rw [rootstockref13_good.l3, if_pos (by omega), if_pos (by omega), rd_pr l i hi, if_neg (by omega), if_pos (by omega), if_pos (by omega), rdOf_gb, hw.out]
    by_cases hg : gb m l[i].f0 = true
    · rw [if_pos hg, hg, Bool.true_or]
    · rw [if_neg hg, show gb m l[i].f0 = false from by simpa using hg, Bool.false_or]
  intro n
  induction n with
  | zero => intro j x7 h1 h2; exact fin j x7 (by omega)
  | succ n ih =>
    intro j x7 h1 h2
    by_cases hlt : j < l[i].f1.length
    · have hwj := wn j (by omega)
      have hy := hpin.2.2 l[i].f1[j] (List.getElem_mem hlt)
      rw [List.drop_eq_getElem_cons hlt, List.all_cons]
      refine Ev.step (f := fun k => rootstockref13_good.l3 k m x5 (i : Int) (x7 && gb m l[i].f1[j]) ((j + 1 : Nat) : Int) a b c l) (fun k => ?_) ?_
      · rw [rootstockref13_good.l3, if_pos (by omega), if_pos (by omega), rd_pr l i hi, if_pos (by omega), hwj.out]
        cases x7 with
        | true => rw [if_pos rfl, if_pos (by omega), rd_get _ j hlt, if_pos (by omega), if_pos (by omega), rdOf_gb, Bool.true_and]
        | false => rw [if_neg (by decide), Bool.false_and]
      · have := ih (j + 1) (x7 && gb m l[i].f1[j]) (by omega) (by omega)
        rw [Bool.and_assoc] at this
        exact this
    · exact fin j x7 (by omega)
theorem good_l2 {F : List Bool → List Bool} {x5 : Nat} (hx : x5 < 1000) (hF : ∀ m : List Bool, m.length = b.toNat → Ev (fun k => rootstockref13_good.l1 k m ((x5 + 1 : Nat) : Int) a b c l) (F m)) : ∀ (n i : Nat) (m : List Bool), m.length = b.toNat → l.length - i ≤ n → i ≤ l.length →
    Ev (fun k => rootstockref13_good.l2 k m (x5 : Int) (i : Int) a b c l) (F (((l.map toPr).drop i).foldl gStep m)) := by
  have h64 := len64 ok hb
  have hw := wn x5 (by omega)
  intro n
  induction n with
  | zero =>
    intro i m hm h1 h2
    refine Ev.step (f := fun k => rootstockref13_good.l1 k m ((x5 + 1 : Nat) : Int) a b c l) (fun k => ?_) ?_
    · rw [rootstockref13_good.l2, if_neg (by omega), hw.out]
    · rw [List.drop_eq_nil_of_le (by simp; omega)]
      exact hF m hm
  | succ n ih =>
    intro i m hm h1 h2
    by_cases hi : i < l.length
    · have hdr : (l.map toPr).drop i = toPr l[i] :: (l.map toPr).drop (i + 1) := by rw [List.drop_eq_getElem_cons (by simpa using hi)]; simp
      rw [hdr, List.foldl_cons]
      refine Ev.step (f := fun k => rootstockref13_good.l3 k m (x5 : Int) (i : Int) true ((0 : Nat) : Int) a b c l) (fun k => ?_) ?_
      · rw [rootstockref13_good.l2, if_pos (by omega)]; rfl
      · have := good_l3 ok hb (F := fun m => F (((l.map toPr).drop (i + 1)).foldl gStep m)) (x5 := (x5 : Int)) hi hm (fun m hm => ih (i + 1) m hm (by omega) (by omega)) l[i].f1.length 0 true (by omega) (Nat.zero_le _)
        rw [List.drop_zero, Bool.true_and] at this
        exact this
    · refine Ev.step (f := fun k => rootstockref13_good.l1 k m ((x5 + 1 : Nat) : Int) a b c l) (fun k => ?_) ?_
      · rw [rootstockref13_good.l2, if_neg (by omega), hw.out]
      · rw [List.drop_eq_nil_of_le (by simp; omega)]
        exact hF m hm
theorem good_l1 : ∀ (n x5 : Nat) (m : List Bool), m.length = b.toNat → b.toNat - x5 = n → x5 ≤ b.toNat → Ev (fun k => rootstockref13_good.l1 k m (x5 : Int) a b c l) (its (gRound (l.map toPr)) n m) := by
  have hS1 : b ≤ 64 := ok.s1
  have hS0 : a < b := ok.s0
  have hT0 : 1 ≤ a := ok.t0
  intro n
  induction n with
  | zero =>
    intro x4 m hm h1 h2
    refine Ev.step (f := fun _ => some _) (fun k => ?_) (Ev.now _)
    rw [rootstockref13_good.l1, if_neg (by omega)]
    rfl
  | succ n ih =>
    intro x4 m hm h1 h2
    refine Ev.step (f := fun k => rootstockref13_good.l2 k m (x4 : Int) ((0 : Nat) : Int) a b c l) (fun k => ?_) ?_
    · rw [rootstockref13_good.l1, if_pos (by omega)]; rfl
    · have := good_l2 ok hb (F := its (gRound (l.map toPr)) n) (x5 := x4) (by omega) (fun m hm => ih (x4 + 1) m hm (by omega) (by omega)) l.length 0 m hm (by omega) (Nat.zero_le _)
      rw [List.drop_zero] at this
      exact this
theorem good_l0 : ∀ (n s : Nat), a.toNat - s ≤ n → s ≤ a.toNat → Ev (fun k => rootstockref13_good.l0 k (List.replicate s true ++ List.replicate (b.toNat - s) false) (s : Int) a b c l) (goodL (toGr a b c l)) := by
  have hS1 : b ≤ 64 := ok.s1
  have hS0 : a < b := ok.s0
  have hT0 : 1 ≤ a := ok.t0
  have fin : Ev (fun k => rootstockref13_good.l0 k (List.replicate a.toNat true ++ List.replicate (b.toNat - a.toNat) false) ((a.toNat : Nat) : Int) a b c l) (goodL (toGr a b c l)) := by
    refine Ev.step (f := fun k => rootstockref13_good.l1 k (List.replicate a.toNat true ++ List.replicate (b.toNat - a.toNat) false) ((0 : Nat) : Int) a b c l) (fun k => ?_) ?_
    · rw [rootstockref13_good.l0, if_neg (by omega)]; rfl
    · exact good_l1 ok hb b.toNat 0 _ (by simp; omega) (by omega) (by omega)
  intro n
  induction n with
  | zero =>
    intro s h1 h2
    obtain rfl : s = a.toNat := by omega
    exact fin
  | succ n ih =>
    intro s h1 h2
    by_cases hs : s < a.toNat
    · have hw := wn s (by omega)
      refine Ev.step (f := fun k => rootstockref13_good.l0 k (List.replicate (s + 1) true ++ List.replicate (b.toNat - (s + 1)) false) ((s + 1 : Nat) : Int) a b c l) (fun k => ?_) (ih (s + 1) (by omega) (by omega))
      rw [rootstockref13_good.l0, if_pos (by omega), if_pos (by omega), if_pos (by simp; omega), hw.out, Int.toNat_natCast, fill_set s b.toNat (by omega)]
    · obtain rfl : s = a.toNat := by omega
      exact fin
theorem good_any : Ev (fun k => rootstockref13_good.f k a b c l) (goodL (toGr a b c l)) := by
  have hS1 : b ≤ 64 := ok.s1
  have hS0 : a < b := ok.s0
  have hT0 : 1 ≤ a := ok.t0
  refine Ev.congr (f := fun k => rootstockref13_good.l0 k (List.replicate b.toNat false) ((0 : Nat) : Int) a b c l) (fun k => ?_) ?_
  · rw [rootstockref13_good.f, if_pos (by omega), if_pos (by omega)]
    rfl
  · have := good_l0 ok hb a.toNat 0 (by omega) (by omega)
    simpa using this
theorem round_l1 {F : List Bool → Bool} {s : Int} {x6 : Nat} (hx : x6 < 1000) (hF : ∀ m : List Bool, m.length = b.toNat → Ev (fun k => rootstockref13_round.l0 k s m ((x6 + 1 : Nat) : Int) a b c l) (F m)) : ∀ (n i : Nat) (m : List Bool), m.length = b.toNat → l.length - i ≤ n → i ≤ l.length →
    Ev (fun k => rootstockref13_round.l1 k s m (x6 : Int) (i : Int) a b c l) (F (((l.map toPr).drop i).foldl (rStep s) m)) := by
  have h64 := len64 ok hb
  have hw := wn x6 (by omega)
  intro n
  induction n with
  | zero =>
    intro i m hm h1 h2
    refine Ev.step (f := fun k => rootstockref13_round.l0 k s m ((x6 + 1 : Nat) : Int) a b c l) (fun k => ?_) ?_
    · rw [rootstockref13_round.l1, if_neg (by omega), hw.out]
    · rw [List.drop_eq_nil_of_le (by simp; omega)]
      exact hF m hm
  | succ n ih =>
    intro i m hm h1 h2
    by_cases hi : i < l.length
    · have hpin := pr_in ok hb hi
      have hp0 : 0 ≤ l[i].f0 := hpin.1
      have hp1 : l[i].f0.toNat < b.toNat := hpin.2.1
      have hwi := wn i (by omega)
      have hdr : (l.map toPr).drop i = toPr l[i] :: (l.map toPr).drop (i + 1) := by rw [List.drop_eq_getElem_cons (by simpa using hi)]; simp
      rw [hdr, List.foldl_cons]
      have hst : rStep s m (toPr l[i]) = if l[i].f1.length = 1 ∧ (l[i].f0 = s ∨ gb m l[i].f0 = true) then m.set (l[i].f1.getD 0 0).toNat true else m := rfl
      refine Ev.step (f := fun k => rootstockref13_round.l1 k s (rStep s m (toPr l[i])) (x6 : Int) ((i + 1 : Nat) : Int) a b c l) (fun k => ?_) (ih (i + 1) _ (by rw [(rStep_le (s := s) (m := m) (p := toPr l[i])).1]; exact hm) (by omega) (by omega))
      rw [rootstockref13_round.l1, if_pos (by omega), if_pos (by omega), rd_pr l i hi, hst, hwi.out]
      by_cases h1 : l[i].f1.length = 1
      · have hy := hpin.2.2 _ (one_mem (p := toPr l[i]) h1)
        have hy' : 0 ≤ l[i].f1.getD 0 0 ∧ (l[i].f1.getD 0 0).toNat < b.toNat := hy
        have hr0 : rd l[i].f1 0 = l[i].f1.getD 0 0 := rfl
        rw [if_pos (by omega)]
        by_cases h2 : l[i].f0 = s
        · rw [if_pos h2, if_pos (by omega), hr0, if_pos (by omega), if_pos (by omega), if_pos ⟨h1, .inl h2⟩]
        · rw [if_neg h2, if_pos (by omega), if_pos (by omega), rdOf_gb]
          by_cases h3 : gb m l[i].f0 = true
          · rw [if_pos h3, if_pos (by omega), hr0, if_pos (by omega), if_pos (by omega), if_pos ⟨h1, .inr h3⟩]
          · rw [if_neg h3, if_neg (fun h => h.2.elim h2 h3)]
      · rw [if_neg (by omega), if_neg (fun h => h1 h.1)]
    · refine Ev.step (f := fun k => rootstockref13_round.l0 k s m ((x6 + 1 : Nat) : Int) a b c l) (fun k => ?_) ?_
      · rw [rootstockref13_round.l1, if_neg (by omega), hw.out]
      · rw [List.drop_eq_nil_of_le (by simp; omega)]
        exact hF m hm
theorem round_l0 {s : Int} (hs0 : 0 ≤ s) (hs1 : s < b) : ∀ (n x6 : Nat) (m : List Bool), m.length = b.toNat → b.toNat + 1 - x6 = n → x6 ≤ b.toNat + 1 → Ev (fun k => rootstockref13_round.l0 k s m (x6 : Int) a b c l) (gb (its (rRound (l.map toPr) s) n m) s) := by
  have hS1 : b ≤ 64 := ok.s1
  have hS0 : a < b := ok.s0
  have hT0 : 1 ≤ a := ok.t0
  intro n
  induction n with
  | zero =>
    intro x4 m hm h1 h2
    refine Ev.step (f := fun _ => some _) (fun k => ?_) (Ev.now _)
    rw [rootstockref13_round.l0, if_neg (by omega), if_pos (by omega), if_pos (by omega)]
    rfl
  | succ n ih =>
    intro x4 m hm h1 h2
    refine Ev.step (f := fun k => rootstockref13_round.l1 k s m (x4 : Int) ((0 : Nat) : Int) a b c l) (fun k => ?_) ?_
    · rw [rootstockref13_round.l0, if_pos (by omega)]; rfl
    · have := round_l1 ok hb (F := fun m => gb (its (rRound (l.map toPr) s) n m) s) (s := s) (x6 := x4) (by omega) (fun m hm => ih (x4 + 1) m hm (by omega) (by omega)) l.length 0 m hm (by omega) (Nat.zero_le _)
      rw [List.drop_zero] at this
      exact this
theorem round_any {s : Int} (hs0 : 0 ≤ s) (hs1 : s < b) : Ev (fun k => rootstockref13_round.f k a b c l s) (gb (rchL (toGr a b c l) s) s) := by
  have hS1 : b ≤ 64 := ok.s1
  refine Ev.congr (f := fun k => rootstockref13_round.l0 k s (List.replicate b.toNat false) ((0 : Nat) : Int) a b c l) (fun k => ?_) ?_
  · rw [rootstockref13_round.f, if_pos (by omega), if_pos (by omega)]
    rfl
  · exact round_l0 ok hb hs0 hs1 (b.toNat + 1) 0 _ (by simp) (by omega) (by omega)
theorem check_l3 : ∀ (n s : Nat), b.toNat - s ≤ n → a.toNat ≤ s → s ≤ b.toNat → ∃ r : Bool, (r = true ↔ ∃ t : Int, (s : Int) ≤ t ∧ t < b ∧ gb (rchL (toGr a b c l) t) t = true) ∧ Ev (fun k => rootstockref13_Check.l3 k (s : Int) a b c l) (if r = true then 132 else 0) := by
  have hS1 : b ≤ 64 := ok.s1
  have hS0 : a < b := ok.s0
  have hT0 : 1 ≤ a := ok.t0
  intro n
  induction n with
  | zero =>
    intro s h1 h2 h3
    refine ⟨false, ⟨(fun h => by cases h), fun ⟨t, h4, h5, _⟩ => by omega⟩, Ev.step (f := fun _ => some _) (fun k => ?_) (Ev.now _)⟩
    rw [rootstockref13_Check.l3, if_neg (by omega), if_neg (by decide)]
  | succ n ih =>
    intro s h1 h2 h3
    by_cases hs : s < b.toNat
    · have hr := round_any ok hb (s := (s : Int)) (by omega) (by omega)
      have hw := wn s (by omega)
      have st : ∀ k, rootstockref13_Check.l3 (k + 1) (s : Int) a b c l = (rootstockref13_round.f k a b c l (s : Int)).bind fun t => if t = true then some 132 else rootstockref13_Check.l3 k ((s + 1 : Nat) : Int) a b c l := fun k => by
        rw [rootstockref13_Check.l3, if_pos (by omega), hw.out]
      cases hg : gb (rchL (toGr a b c l) (s : Int)) (s : Int) with
      | true =>
        rw [hg] at hr
        refine ⟨true, ⟨fun _ => ⟨s, by omega, by omega, hg⟩, fun _ => rfl⟩, Ev.step st (Ev.bind hr ?_)⟩
        simpa using Ev.now (132 : Int)
      | false =>
        rw [hg] at hr
        obtain ⟨r, h4, h5⟩ := ih (s + 1) (by omega) (by omega) (by omega)
        refine ⟨r, h4.trans ⟨fun ⟨t, q1, q2, q3⟩ => ⟨t, by omega, q2, q3⟩, fun ⟨t, q1, q2, q3⟩ => ⟨t, ?_, q2, q3⟩⟩, Ev.step st (Ev.bind hr (by simpa using h5))⟩
        by_cases e : t = s
        · subst e; rw [hg] at q3; cases q3
        · omega
    · refine ⟨false, ⟨(fun h => by cases h), fun ⟨t, h4, h5, _⟩ => by omega⟩, Ev.step (f := fun _ => some _) (fun k => ?_) (Ev.now _)⟩
      rw [rootstockref13_Check.l3, if_neg (by omega), if_neg (by decide)]
theorem check_l2 {R : Int} (hR : Ev (fun k => rootstockref13_Check.l3 k a a b c l) R) {C G : List Bool} (hC : C.length = b.toNat) (hG : G.length = b.toNat) : ∀ (n s : Nat), b.toNat - s ≤ n → a.toNat ≤ s → s ≤ b.toNat → ∃ r : Bool, (r = true ↔ ∀ t : Int, (s : Int) ≤ t → t < b → gb C t = true ∧ gb G t = true) ∧
    Ev (fun k => rootstockref13_Check.l2 k C G (s : Int) a b c l) (if r = true then R else 131) := by
  have hS1 : b ≤ 64 := ok.s1
  have hS0 : a < b := ok.s0
  have hT0 : 1 ≤ a := ok.t0
  intro n
  induction n with
  | zero =>
    intro s h1 h2 h3
    refine ⟨true, ⟨fun _ t h4 h5 => by omega, fun _ => rfl⟩, Ev.step (f := fun k => rootstockref13_Check.l3 k a a b c l) (fun k => ?_) (by simpa using hR)⟩
    rw [rootstockref13_Check.l2, if_neg (by omega)]
  | succ n ih =>
    intro s h1 h2 h3
    by_cases hs : s < b.toNat
    · have hw := wn s (by omega)
      by_cases h4 : gb C (s : Int) = true
      · by_cases h5 : gb G (s : Int) = true
        · obtain ⟨r, h6, h7⟩ := ih (s + 1) (by omega) (by omega) (by omega)
          refine ⟨r, h6.trans ⟨fun h t q1 q2 => ?_, fun h t q1 q2 => h t (by omega) q2⟩, Ev.step (f := fun k => rootstockref13_Check.l2 k C G ((s + 1 : Nat) : Int) a b c l) (fun k => ?_) h7⟩
          · by_cases e : t = s
            · subst e; exact ⟨h4, h5⟩
            · exact h t (by omega) q2
          · rw [rootstockref13_Check.l2, if_pos (by omega), if_pos (by omega), if_pos (by omega), rdOf_gb, if_pos h4, if_pos (by omega), rdOf_gb, if_pos h5, hw.out]
        · refine ⟨false, ⟨(fun h => by cases h), fun h => absurd (h s (by omega) (by omega)).2 h5⟩, Ev.step (f := fun _ => some _) (fun k => ?_) (Ev.now _)⟩
          rw [rootstockref13_Check.l2, if_pos (by omega), if_pos (by omega), if_pos (by omega), rdOf_gb, if_pos h4, if_pos (by omega), rdOf_gb, if_neg h5, if_neg (by decide)]
      · refine ⟨false, ⟨(fun h => by cases h), fun h => absurd (h s (by omega) (by omega)).1 h4⟩, Ev.step (f := fun _ => some _) (fun k => ?_) (Ev.now _)⟩
        rw [rootstockref13_Check.l2, if_pos (by omega), if_pos (by omega), if_pos (by omega), rdOf_gb, if_neg h4, if_neg (by decide)]
    · refine ⟨true, ⟨fun _ t h4 h5 => by omega, fun _ => rfl⟩, Ev.step (f := fun k => rootstockref13_Check.l3 k a a b c l) (fun k => ?_) (by simpa using hR)⟩
      rw [rootstockref13_Check.l2, if_neg (by omega)]
end
theorem check_l1 {a b c : Int} {l : List SP} (hn : l.length ≤ 64) {R : Int} (hR : (∀ p ∈ l, p.f1.length ≠ 0) → Ev (fun k => rootstockref13_Check.l1 k ((l.length : Nat) : Int) a b c l) R) : ∀ (n i : Nat), l.length - i ≤ n → i ≤ l.length → (∀ p ∈ l.take i, p.f1.length ≠ 0) →
    Ev (fun k => rootstockref13_Check.l1 k (i : Int) a b c l) (if l.any (fun p => decide (p.f1.length = 0)) = true then 130 else R) := by
  intro n
  induction n with
  | zero =>
    intro i h1 h2 h3
    obtain rfl : i = l.length := by omega
    rw [List.take_length] at h3
    rw [if_neg]
    · exact hR h3
    · simp only [List.any_eq_true, decide_eq_true_eq, not_exists, not_and]
      exact fun p hp => h3 p hp
  | succ n ih =>
    intro i h1 h2 h3
    by_cases hi : i < l.length
    · have hw := wn i (by omega)
      by_cases h0 : l[i].f1.length = 0
      · rw [if_pos (List.any_eq_true.2 ⟨l[i], List.getElem_mem hi, by simp only [decide_eq_true_eq]; exact h0⟩)]
        refine Ev.step (f := fun _ => some _) (fun k => ?_) (Ev.now _)
        rw [rootstockref13_Check.l1, if_pos (by omega), if_pos (by omega), rd_pr l i hi, if_pos (by omega)]
      · refine Ev.step (f := fun k => rootstockref13_Check.l1 k ((i + 1 : Nat) : Int) a b c l) (fun k => ?_) (ih (i + 1) (by omega) (by omega) ?_)
        · rw [rootstockref13_Check.l1, if_pos (by omega), if_pos (by omega), rd_pr l i hi, if_neg (by omega), hw.out]
        · intro p hp
          rw [List.take_succ_eq_append_getElem hi] at hp
          rcases List.mem_append.1 hp with h | h
          · exact h3 p h
          · rw [List.mem_singleton] at h; subst h; exact h0
    · obtain rfl : i = l.length := by omega
      rw [List.take_length] at h3
      rw [if_neg]
      · exact hR h3
      · simp only [List.any_eq_true, decide_eq_true_eq, not_exists, not_and]
        exact fun p hp => h3 p hp
theorem check_l0 {a b c : Int} {l : List SP} (hn : l.length ≤ 64) {R : Int} (hR : (∀ p ∈ l, p.f1.length ≤ 8) → Ev (fun k => rootstockref13_Check.l1 k ((0 : Nat) : Int) a b c l) R) : ∀ (n i : Nat), l.length - i ≤ n → i ≤ l.length → (∀ p ∈ l.take i, p.f1.length ≤ 8) →
    Ev (fun k => rootstockref13_Check.l0 k (i : Int) a b c l) (if l.any (fun p => decide (8 < p.f1.length)) = true then 3 else R) := by
  have fin : (∀ p ∈ l, p.f1.length ≤ 8) → Ev (fun k => rootstockref13_Check.l0 k ((l.length : Nat) : Int) a b c l) (if l.any (fun p => decide (8 < p.f1.length)) = true then 3 else R) := fun h => by
    rw [if_neg]
    · refine Ev.step (f := fun k => rootstockref13_Check.l1 k ((0 : Nat) : Int) a b c l) (fun k => ?_) (hR h)
      rw [rootstockref13_Check.l0, if_neg (by omega)]; rfl
    · simp only [List.any_eq_true, decide_eq_true_eq, not_exists, not_and]
      exact fun p hp => by have := h p hp; omega
  intro n
  induction n with
  | zero =>
    intro i h1 h2 h3
    obtain rfl : i = l.length := by omega
    rw [List.take_length] at h3
    exact fin h3
  | succ n ih =>
    intro i h1 h2 h3
    by_cases hi : i < l.length
    · have hw := wn i (by omega)
      by_cases h0 : 8 < l[i].f1.length
      · rw [if_pos (List.any_eq_true.2 ⟨l[i], List.getElem_mem hi, by simp only [decide_eq_true_eq]; exact h0⟩)]
        refine Ev.step (f := fun _ => some _) (fun k => ?_) (Ev.now _)
        rw [rootstockref13_Check.l0, if_pos (by omega), if_pos (by omega), rd_pr l i hi, if_pos (by omega)]
      · refine Ev.step (f := fun k => rootstockref13_Check.l0 k ((i + 1 : Nat) : Int) a b c l) (fun k => ?_) (ih (i + 1) (by omega) (by omega) ?_)
        · rw [rootstockref13_Check.l0, if_pos (by omega), if_pos (by omega), rd_pr l i hi, if_neg (by omega), hw.out]
        · intro p hp
          rw [List.take_succ_eq_append_getElem hi] at hp
          rcases List.mem_append.1 hp with h | h
          · exact h3 p h
          · rw [List.mem_singleton] at h; subst h; omega
    · obtain rfl : i = l.length := by omega
      rw [List.take_length] at h3
      exact fin h3
theorem check_ref (a b c : Int) (l : List SP) (hb : ∀ p ∈ l, p.f1.length ≤ 9223372036854775807) : Ev (fun k => rootstockref13_Check.f k a b c l) (checkI (toGr a b c l)) := by
  have hn := numbers_any a b c l hb
  have st : ∀ k, rootstockref13_Check.f k a b c l = (rootstockref13_numbers.f k a b c l).bind fun t => if t = true then rootstockref13_Check.l0 k ((0 : Nat) : Int) a b c l else some 2 := fun k => by rw [rootstockref13_Check.f]; rfl
  refine Ev.congr st (Ev.bind hn ?_)
  cases hN : numbersB (toGr a b c l) with
  | false =>
    unfold checkI
    rw [if_pos hN]
    simpa using Ev.now (2 : Int)
  | true =>
    have ok := (numbersB_ok hN).1
    have h64 : l.length ≤ 64 := by have := ok.n1; simpa [toGr] using this
    have e8 : ∀ (q : Nat → Bool), (toGr a b c l).ps.any (fun p => q p.body.length) = l.any (fun p => q p.f1.length) := fun q => by
      simp only [toGr, List.any_map]
      rfl
    unfold checkI
    rw [if_neg (by rw [hN]; decide), e8 (fun n => decide (8 < n)), e8 (fun n => decide (n = 0))]
    refine Ev.congr (f := fun k => rootstockref13_Check.l0 k ((0 : Nat) : Int) a b c l) (fun k => by rw [if_pos rfl]) ?_
    refine check_l0 h64 (fun h8 => ?_) l.length 0 (by omega) (Nat.zero_le _) (by simp)
    refine check_l1 h64 (fun hne => ?_) l.length 0 (by omega) (Nat.zero_le _) (by simp)
    have hcome := come_any ok h8
    have hgood := good_any ok h8
    have hT0 : 1 ≤ a := ok.t0
    have hS0 : a < b := ok.s0
    have ea : ((a.toNat : Nat) : Int) = a := by omega
    refine Ev.step (f := fun k => (rootstockref13_come.f k a b c l).bind fun t => (rootstockref13_good.f k a b c l).bind fun u => rootstockref13_Check.l2 k t u a a b c l) (fun k => by rw [rootstockref13_Check.l1, if_neg (by omega)]) (Ev.bind hcome (Ev.bind hgood ?_))
    obtain ⟨r3, h31, h32⟩ := check_l3 ok h8 b.toNat a.toNat (by omega) (by omega) (by omega)
    rw [ea] at h31 h32
    obtain ⟨r2, h21, h22⟩ := check_l2 ok h8 h32 (C := comeL (toGr a b c l)) (G := goodL (toGr a b c l)) (comeL_len _) (goodL_len ok) b.toNat a.toNat (by omega) (by omega) (by omega)
    rw [ea] at h21 h22
    have hu : usedB (toGr a b c l) = r2 := by
      rw [Bool.eq_iff_iff, used_ref ok, h21]
      exact Iff.rfl
    have hro : roundB (toGr a b c l) = r3 := by
      rw [Bool.eq_iff_iff, round_ref ok, h31]
      exact Iff.rfl
    rw [hu, hro]
    cases r2 with
    | true => rw [if_neg (by decide)]; simpa using h22
    | false => rw [if_pos rfl]; simpa using h22
theorem refcheck_walk (g : H.Gr) (A : Option Addr) (c : Nat) (w : World) (h : H.GrIn w g A c) :
    Calls Try.prog 16 #[H.grV g A c] w fun e w' => e = .returned (.int .i64 (checkI g)) ∧ Below w.heap.size w w' := by
  obtain ⟨k, hk⟩ := (check_ref g.T g.S g.st (g.ps.map unPr) (fun p hp => by
    obtain ⟨q, hq, rfl⟩ := List.mem_map.1 hp
    exact h.b q hq)).rounds
  rw [toGr_un] at hk
  have := rootstockref13_Check.calls k g.T g.S g.st A c (g.ps.map unPr) (checkI g) w (rdP_to h.r h.l2 h.b) (by simpa using h.l) hk
  rw [← grV_of, toGr_un] at this
  exact this
end Go.Proofs.Ytofidghilcbegaa.PRc
namespace Go.Proofs.Ytofidghilcbegaa.H
open Go.RowKit
theorem refcheck_any (g : Gr) (A : Option Addr) (c : Nat) (w : World) (h : GrIn w g A c) :
    Calls Try.prog 16 #[grV g A c] w fun e w' => e = .returned (.int .i64 (checkI g)) ∧ Below w.heap.size w w' := Go.Proofs.Ytofidghilcbegaa.PRc.refcheck_walk g A c w h
end Go.Proofs.Ytofidghilcbegaa.H
namespace Go.Proofs.Ytofidghilcbegaa.H
open Go.RowKit
set_option linter.unusedVariables false
set_option linter.unusedSimpArgs false
theorem TwG.below {w w' : World} {B : Nat} {g : Gr} {A : Option Addr} {c : Nat} (h : TwG w B g A c) (hb : Below w.heap.size w w') : TwG w' B g A c := by
  obtain ⟨⟨m, hm, ho, hx⟩⟩ := h
  exact ⟨⟨m, hm, own_below ho hb, fun x hxm => own_below (hx x hxm) hb⟩⟩
theorem big_not {g : Gr} (h : bigB g = true) : checkI g ≠ 0 := by
  intro hc
  obtain ⟨h1, h2, _, _⟩ := checkI_zero hc
  have ok := (numbersB_ok h1).1
  have hn := ok.n1
  have hs : ∀ (l : List Pr), (∀ p ∈ l, p.body.length ≤ 8) → (l.map (·.body.length)).sum ≤ 8 * l.length := by
    intro l
    induction l with
    | nil => intro _; simp
    | cons p l ih =>
      intro hl
      have := ih (fun q hq => hl q (by simp [hq]))
      have := hl p (by simp)
      simp only [List.map_cons, List.sum_cons, List.length_cons]
      omega
  have := hs g.ps (fun p hp => (h2 p hp).2)
  unfold bigB sizeOfGr at h
  simp only [decide_eq_true_iff] at h
  omega
theorem big_small {g : Gr} (h : bigB g = false) : g.ps.length ≤ 100000 ∧ ∀ p ∈ g.ps, p.body.length ≤ 100000 := by
  unfold bigB sizeOfGr at h
  simp only [decide_eq_false_iff_not] at h
  have hm : ∀ (l : List Pr), ∀ p ∈ l, p.body.length ≤ (l.map (·.body.length)).sum := by
    intro l
    induction l with
    | nil => intro p hp; cases hp
    | cons q l ih =>
      intro p hp
      simp only [List.map_cons, List.sum_cons]
      rcases List.mem_cons.1 hp with rfl | hp
      · omega
      · have := ih p hp; omega
  refine ⟨by omega, fun p hp => ?_⟩
  have := hm g.ps p hp
  omega
set_option maxRecDepth 100000 in
set_option maxHeartbeats 8000000 in
theorem checks_any (g : Gr) (A : Option Addr) (c : Nat) (w : World) (h : GrIn w g A c) :
    Calls Try.prog 3 #[grV g A c] w fun e w' => e = .returned (.bool true) ∧ Below w.heap.size w w' := by
  have H0 := Keep.mk h
  clear h
  have KB := Keep.mk fun W (hW : Below w.heap.size w W) => big_any g A c W (H0.out.below hW)
  have KC := Keep.mk fun W (hW : Below w.heap.size w W) => check_any g A c W (H0.out.below hW)
  have KR := Keep.mk fun W (hW : Below w.heap.size w W) => refcheck_any g A c W (H0.out.below hW)
  cases hBig : bigB g with
  | true =>
    have hne := big_not hBig
    rw [hBig] at KB
    have t1 : ((checkI g : Int) != 0) = true := by simpa using hne
    generalize checkI g = E0 at *
    clear hne hBig H0
    obtain ⟨T, S, st, ps⟩ := g
    unfold grV at *
    dsimp only at *
    have B0 : Keep (Below w.heap.size w (w.alloc (.cells #[.int .i64 T, .int .i64 S, .int .i64 st, .slice A ps.length c] 24))) := ⟨(Below.refl _ _).alloc (Nat.le_refl _) _⟩
    have BG : Keep (Blk (w.alloc (.cells #[.int .i64 T, .int .i64 S, .int .i64 st, .slice A ps.length c] 24)) w.heap.size 24 #[.int .i64 T, .int .i64 S, .int .i64 st, .slice A ps.length c]) := ⟨Blk.new _ _ _⟩
    go_enter Try.func3, Try.ntmps3
    go_wp2_with fail
    refine (KB.out _ B0.out).mono ?_
    rintro e w1 ⟨rfl, hb⟩
    have B1 : Keep (Below w.heap.size w w1) := ⟨below_step B0.out hb B0.out.size⟩
    have BG1 := Keep.mk (BG.out.below hb BG.out.lt)
    clear hb B0 BG KB
    have q0 := BG1.out.cell 0
    have q1 := BG1.out.cell 1
    have q2 := BG1.out.cell 2
    have q3 := BG1.out.cell 3
    simp at q0 q1 q2 q3
    have n0 : w.heap.size < w1.heap.size := BG1.out.lt
    go_wp2_with fail
    refine (KC.out _ B1.out).mono ?_
    rintro e w2 ⟨rfl, hb⟩
    have B2 : Keep (Below w.heap.size w w2) := ⟨below_step B1.out hb B1.out.size⟩
    clear hb KC KR
    go_wp2_with fail
    refine (alive_any w2).mono ?_
    rintro e w3 ⟨rfl, hb⟩
    have B3 : Keep (Below w.heap.size w w3) := ⟨below_step B2.out hb B2.out.size⟩
    clear hb
    go_wp2
    go_ret
    exact ⟨rfl, B3.out⟩
  | false =>
    obtain ⟨hs1, hs2⟩ := big_small hBig
    rw [hBig] at KB
    have KT := Keep.mk fun W (hW : Below w.heap.size w W) => twinGrammar_any g A c W (H0.out.below hW) hs1 hs2
    have HS2 := Keep.mk hs2
    have t1 : ((checkI g : Int) == checkI g) = true := by simp
    have KCt := Keep.mk fun W A' c' (hg : GrIn W g A' c') => check_any g A' c' W hg
    have KLt := Keep.mk fun W A' c' B (hg : TwG W B g A' c') (hW : Below w.heap.size w W) => leftGrammar_true g A' A c' c B W hg (H0.out.below hW) hs2
    have KOp := Keep.mk fun W A' c' B (hg : TwG W B g A' c') => twG_open hg hs2
    generalize checkI g = E0 at *
    clear hBig KC hs1 hs2
    obtain ⟨T, S, st, ps⟩ := g
    unfold grV at *
    dsimp only at *
    have B0 : Keep (Below w.heap.size w (w.alloc (.cells #[.int .i64 T, .int .i64 S, .int .i64 st, .slice A ps.length c] 24))) := ⟨(Below.refl _ _).alloc (Nat.le_refl _) _⟩
    have BG : Keep (Blk (w.alloc (.cells #[.int .i64 T, .int .i64 S, .int .i64 st, .slice A ps.length c] 24)) w.heap.size 24 #[.int .i64 T, .int .i64 S, .int .i64 st, .slice A ps.length c]) := ⟨Blk.new _ _ _⟩
    go_enter Try.func3, Try.ntmps3
    go_wp2_with fail
    refine (KB.out _ B0.out).mono ?_
    rintro e w1 ⟨rfl, hb⟩
    have B1 : Keep (Below w.heap.size w w1) := ⟨below_step B0.out hb B0.out.size⟩
    have BG1 := Keep.mk (BG.out.below hb BG.out.lt)
    clear hb B0 BG KB
    have q0 := BG1.out.cell 0
    have q1 := BG1.out.cell 1
    have q2 := BG1.out.cell 2
    have q3 := BG1.out.cell 3
    simp at q0 q1 q2 q3
    have n0 : w.heap.size < w1.heap.size := BG1.out.lt
    go_wp2_with fail
    refine (KT.out _ B1.out).mono ?_
    rintro e w2 ⟨At, ct, rfl, hT, hb⟩
    have B2 : Keep (Below w.heap.size w w2) := ⟨below_step B1.out hb B1.out.size⟩
    have BG2 := Keep.mk (BG1.out.below hb BG1.out.lt)
    have TW2 := Keep.mk hT
    clear hb hT KT BG1 q0 q1 q2 q3 n0
    obtain ⟨w3, hw3⟩ : ∃ w3 : World, w3 = w2.alloc (.cells #[.int .i64 T, .int .i64 S, .int .i64 st, .slice At ps.length ct] 24) := ⟨_, rfl⟩
    have B3 : Keep (Below w.heap.size w w3) := ⟨by rw [hw3]; exact B2.out.alloc B2.out.size _⟩
    have BG3 : Keep (Blk w3 w.heap.size 24 #[.int .i64 T, .int .i64 S, .int .i64 st, .slice A ps.length c]) := ⟨by rw [hw3]; exact BG2.out.alloc _⟩
    have BT3 : Keep (Blk w3 w2.heap.size 24 #[.int .i64 T, .int .i64 S, .int .i64 st, .slice At ps.length ct]) := ⟨by rw [hw3]; exact Blk.new _ _ _⟩
    have TW3 : Keep (TwG w3 _ ⟨T, S, st, ps⟩ At ct) := ⟨by rw [hw3]; exact TW2.out.below ((Below.refl _ _).alloc (Nat.le_refl _) _)⟩
    have KCa := Keep.mk fun W (hW : Below w3.heap.size w3 W) => KCt.out W At ct (by obtain ⟨_, _, _, _, _, h, _⟩ := KOp.out _ _ _ _ (TW3.out.below hW); exact h)
    have KRa := Keep.mk fun W (hW : Below w3.heap.size w3 W) => KR.out W (below_step B3.out hW B3.out.size)
    have KLa := Keep.mk fun W (hW : Below w3.heap.size w3 W) => KLt.out W At ct _ (TW3.out.below hW) (below_step B3.out hW B3.out.size)
    clear KCt KR KLt KOp TW2 B2 BG2 TW3
    generalize hgT : w2.heap.size = gT at *
    go_upto_region 4 with fail
    rw [← hw3]
    clear hw3 hgT
    have q0 := BG3.out.cell 0
    have q1 := BG3.out.cell 1
    have q2 := BG3.out.cell 2
    have q3 := BG3.out.cell 3
    have r0 := BT3.out.cell 0
    have r1 := BT3.out.cell 1
    have r2 := BT3.out.cell 2
    have r3 := BT3.out.cell 3
    simp at q0 q1 q2 q3 r0 r1 r2 r3
    have n8 : gT < w3.heap.size := BT3.out.lt
    have n9 : w.heap.size < w3.heap.size := BG3.out.lt
    clear BG3 BT3
    go_region_held3 (fun w' => w'.cell? ⟨w.heap.size, 0, none⟩ = some (.int .i64 T) ∧ w'.cell? ⟨w.heap.size, 1, none⟩ = some (.int .i64 S) ∧ w'.cell? ⟨w.heap.size, 2, none⟩ = some (.int .i64 st) ∧ w'.cell? ⟨w.heap.size, 3, none⟩ = some (.slice A ps.length c) ∧ w'.cell? ⟨gT, 0, none⟩ = some (.int .i64 T) ∧ w'.cell? ⟨gT, 1, none⟩ = some (.int .i64 S) ∧ w'.cell? ⟨gT, 2, none⟩ = some (.int .i64 st) ∧ w'.cell? ⟨gT, 3, none⟩ = some (.slice At ps.length ct)) (first | exact ⟨q0, q1, q2, q3, r0, r1, r2, r3⟩ | exact ⟨s0, s1, s2, s3, s4, s5, s6, s7⟩ | exact ⟨t0, t1', t2, t3, t4, t5, t6, t7⟩ | exact ⟨u0, u1, u2, u3, u4, u5, u6, u7⟩ | exact ⟨v0, v1, v2, v3, v4, v5, v6, v7⟩) (first
      | (go_at_call 13; refine (KCa.out _ (below_drew1 (Below.refl _ _))).mono ?_; rintro e w9 ⟨rfl, hb⟩; have Z9 : Keep (Below w3.heap.size w3 w9) := ⟨below_step (below_drew1 (Below.refl _ _)) hb (Nat.le_refl _)⟩; have s0 := cell_below q0 Z9.out n9; have s1 := cell_below q1 Z9.out n9; have s2 := cell_below q2 Z9.out n9; have s3 := cell_below q3 Z9.out n9; have s4 := cell_below r0 Z9.out n8; have s5 := cell_below r1 Z9.out n8; have s6 := cell_below r2 Z9.out n8; have s7 := cell_below r3 Z9.out n8; clear hb)
      | (go_at_call 16; refine (KRa.out _ Z9.out).mono ?_; rintro e w10 ⟨rfl, hb⟩; have Z10 : Keep (Below w3.heap.size w3 w10) := ⟨below_step Z9.out hb Z9.out.size⟩; have t0 := cell_below q0 Z10.out n9; have t1' := cell_below q1 Z10.out n9; have t2 := cell_below q2 Z10.out n9; have t3 := cell_below q3 Z10.out n9; have t4 := cell_below r0 Z10.out n8; have t5 := cell_below r1 Z10.out n8; have t6 := cell_below r2 Z10.out n8; have t7 := cell_below r3 Z10.out n8; clear hb)
      | (go_at_call 17; refine (KLa.out _ Z10.out).mono ?_; rintro e w11 ⟨rfl, hb⟩; have Z11 : Keep (Below w3.heap.size w3 w11) := ⟨below_step Z10.out hb Z10.out.size⟩; have u0 := cell_below q0 Z11.out n9; have u1 := cell_below q1 Z11.out n9; have u2 := cell_below q2 Z11.out n9; have u3 := cell_below q3 Z11.out n9; have u4 := cell_below r0 Z11.out n8; have u5 := cell_below r1 Z11.out n8; have u6 := cell_below r2 Z11.out n8; have u7 := cell_below r3 Z11.out n8; clear hb)
      | (go_at_call 14; refine (alive_any _).mono ?_; rintro e w12 ⟨rfl, hb⟩; have Z12 : Keep (Below w3.heap.size w3 w12) := ⟨below_step Z11.out hb Z11.out.size⟩; have v0 := cell_below q0 Z12.out n9; have v1 := cell_below q1 Z12.out n9; have v2 := cell_below q2 Z12.out n9; have v3 := cell_below q3 Z12.out n9; have v4 := cell_below r0 Z12.out n8; have v5 := cell_below r1 Z12.out n8; have v6 := cell_below r2 Z12.out n8; have v7 := cell_below r3 Z12.out n8; clear hb))
    all_goals (
      go_wp2
      go_ret
      exact ⟨rfl, below_step B3.out Z12.out B3.out.size⟩)
end Go.Proofs.Ytofidghilcbegaa.H
