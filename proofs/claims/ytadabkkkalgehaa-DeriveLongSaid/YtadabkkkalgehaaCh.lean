/-
  grams.Check and grams.Of, walked.
-/
import Derived.Test.YtadabkkkalgehaaRoB
namespace Go.Proofs.Ytadabkkkalgehaa.H
open Go.RowKit
set_option linter.unusedVariables false
set_option linter.unusedSimpArgs false

theorem numbersB_ok {g : Gr} (h : numbersB g = true) : GrOk g ∧ headB g = true := by
  unfold numbersB at h
  simp only [Bool.and_eq_true] at h
  obtain ⟨h1, h2⟩ := h
  have hh := h1
  simp only [headB, decide_eq_true_eq] at h1
  refine ⟨⟨h1.1, h1.2.1, h1.2.2.1, h1.2.2.2.1, h1.2.2.2.2.1, h1.2.2.2.2.2.1, h1.2.2.2.2.2.2.1, h1.2.2.2.2.2.2.2, fun p hp => ?_⟩, hh⟩
  obtain ⟨i, hi, rfl⟩ := List.getElem_of_mem hp
  have h3 := List.all_eq_true.1 h2 i (List.mem_range.2 hi)
  unfold okAt at h3
  rw [List.getElem?_eq_getElem hi] at h3
  simp only [prodB, Bool.and_eq_true, decide_eq_true_eq, List.all_eq_true, symB] at h3
  exact ⟨h3.1.1.1, h3.1.1.2, fun s hs => h3.1.2 s hs⟩

def checkI (g : Gr) : Int :=
  if numbersB g = false then 2 else if g.ps.any (fun p => decide (8 < p.body.length)) = true then 3 else if g.ps.any (fun p => decide (p.body.length = 0)) = true then 130
  else if usedB g = false then 131 else if roundB g = true then 132 else 0

/-- What is asked of a grammar that comes in. -/
structure GrIn (w : World) (g : Gr) (A : Option Addr) (c : Nat) : Prop where
  l : g.ps.length ≤ c
  l2 : g.ps.length ≤ 9223372036854775807
  b : ∀ p ∈ g.ps, p.body.length ≤ 9223372036854775807
  r : RdP w w.heap.size A g.ps
theorem GrIn.below {w w' : World} {g : Gr} {A : Option Addr} {c : Nat} (h : GrIn w g A c) (hb : Below w.heap.size w w') : GrIn w' g A c :=
  ⟨h.l, h.l2, h.b, (h.r.below hb).mono hb.size⟩

theorem numbers_any (g : Gr) (A : Option Addr) (c : Nat) (w : World) (h : GrIn w g A c) :
    Calls Try.prog 48 #[grV g A c] w fun e w' => e = .returned (.bool (numbersB g)) ∧ Below w.heap.size w w' := by
  cases hh : headB g with
  | false => exact numbers_no g A c w h.l2 hh
  | true => exact numbers_yes g A c w h.l h.b h.r hh

theorem pred1 (ps : List Pr) (w : World) (hb : ∀ p ∈ ps, p.body.length ≤ 9223372036854775807) : PredP 50 #[] (fun p => decide (8 < p.body.length)) ps w :=
  fun p hp A c hr W hW => (check1 p A c W (hb p hp)).mono fun _ _ ⟨he, hb⟩ => ⟨he, below_step hW hb hW.size⟩
theorem pred2 (ps : List Pr) (w : World) (hb : ∀ p ∈ ps, p.body.length ≤ 9223372036854775807) : PredP 51 #[] (fun p => decide (p.body.length = 0)) ps w :=
  fun p hp A c hr W hW => (check2 p A c W (hb p hp)).mono fun _ _ ⟨he, hb⟩ => ⟨he, below_step hW hb hW.size⟩

set_option maxRecDepth 100000 in
set_option maxHeartbeats 2000000 in
theorem check_any (g : Gr) (A : Option Addr) (c : Nat) (w : World) (h : GrIn w g A c) :
    Calls Try.prog 38 #[grV g A c] w fun e w' => e = .returned (.int .i64 (checkI g)) ∧ Below w.heap.size w w' := by
  have H0 := Keep.mk h
  have HL : g.ps.length ≤ 9223372036854775807 := by have := h.l; have := h.l2; omega
  have HB := Keep.mk h.b
  clear h
  have Hn : ∀ W, Below w.heap.size w W → Calls Try.prog 48 #[grV g A c] W _ := fun W hW => numbers_any g A c W (H0.out.below hW)
  have H1 : ∀ W, Below w.heap.size w W → Calls Try.prog 49 #[.slice A g.ps.length c, .func (.func 50) #[] #[]] W _ :=
    fun W hW => containsFuncP A _ c g.ps 50 #[] _ W rfl HL (H0.out.below hW).r (enters_of Try.func50 rfl rfl) (pred1 g.ps W HB.out)
  have H2 : ∀ W, Below w.heap.size w W → Calls Try.prog 49 #[.slice A g.ps.length c, .func (.func 51) #[] #[]] W _ :=
    fun W hW => containsFuncP A _ c g.ps 51 #[] _ W rfl HL (H0.out.below hW).r (enters_of Try.func51 rfl rfl) (pred2 g.ps W HB.out)
  have H3 : numbersB g = true → ∀ W, Below w.heap.size w W → Calls Try.prog 52 #[grV g A c] W _ := fun hn W hW => used_any g A c W HB.out (H0.out.below hW).r (numbersB_ok hn).1
  have H4 : numbersB g = true → ∀ W, Below w.heap.size w W → Calls Try.prog 53 #[grV g A c] W _ := fun hn W hW => round_any g A c W HB.out (H0.out.below hW).r (numbersB_ok hn).1
  have HC : Keep (checkI g = if numbersB g = false then 2 else if g.ps.any (fun p => decide (8 < p.body.length)) = true then 3 else if g.ps.any (fun p => decide (p.body.length = 0)) = true then 130
    else if usedB g = false then 131 else if roundB g = true then 132 else 0) := ⟨rfl⟩
  generalize checkI g = RES at *
  generalize numbersB g = n1 at *
  generalize g.ps.any (fun p => decide (8 < p.body.length)) = n2 at *
  generalize g.ps.any (fun p => decide (p.body.length = 0)) = n3 at *
  generalize usedB g = n4 at *
  generalize roundB g = n5 at *
  obtain ⟨T, S, st, ps⟩ := g
  unfold grV at *
  dsimp only at *
  have K1 := Keep.mk Hn
  have K2 := Keep.mk H1
  have K3 := Keep.mk H2
  have K4 := Keep.mk H3
  have K5 := Keep.mk H4
  clear Hn H1 H2 H3 H4
  have B0 : Keep (Below w.heap.size w (w.alloc (.cells #[.int .i64 T, .int .i64 S, .int .i64 st, .slice A ps.length c] 24))) := ⟨(Below.refl _ _).alloc (Nat.le_refl _) _⟩
  have BG : Keep (Blk (w.alloc (.cells #[.int .i64 T, .int .i64 S, .int .i64 st, .slice A ps.length c] 24)) w.heap.size 24 #[.int .i64 T, .int .i64 S, .int .i64 st, .slice A ps.length c]) := ⟨Blk.new _ _ _⟩
  go_enter Try.func38, Try.ntmps38
  have BG0 := BG
  clear BG
  go_wp2_with fail
  refine (K1.out _ B0.out).mono ?_
  rintro e w1 ⟨rfl, hb⟩
  have B1 : Keep (Below w.heap.size w w1) := ⟨below_step B0.out hb B0.out.size⟩
  have BG1 := Keep.mk (BG0.out.below hb BG0.out.lt)
  have q0 := BG1.out.cell 0
  have q1 := BG1.out.cell 1
  have q2 := BG1.out.cell 2
  have q3 := BG1.out.cell 3
  simp at q0 q1 q2 q3
  clear hb
  cases n1 with
  | false =>
    go_wp2
    go_ret
    exact ⟨by rw [HC.out]; rfl, B1.out⟩
  | true =>
    go_wp2_with fail
    refine (K2.out _ B1.out).mono ?_
    rintro e w2 ⟨rfl, hb⟩
    have B2 : Keep (Below w.heap.size w w2) := ⟨below_step B1.out hb B1.out.size⟩
    have BG2 := Keep.mk (BG1.out.below hb BG1.out.lt)
    have q0 := BG2.out.cell 0
    have q1 := BG2.out.cell 1
    have q2 := BG2.out.cell 2
    have q3 := BG2.out.cell 3
    simp at q0 q1 q2 q3
    clear hb
    cases n2 with
    | true =>
      go_wp2
      go_ret
      exact ⟨by rw [HC.out]; rfl, B2.out⟩
    | false =>
      go_wp2_with fail
      refine (K3.out _ B2.out).mono ?_
      rintro e w3 ⟨rfl, hb⟩
      have B3 : Keep (Below w.heap.size w w3) := ⟨below_step B2.out hb B2.out.size⟩
      have BG3 := Keep.mk (BG2.out.below hb BG2.out.lt)
      have q0 := BG3.out.cell 0
      have q1 := BG3.out.cell 1
      have q2 := BG3.out.cell 2
      have q3 := BG3.out.cell 3
      simp at q0 q1 q2 q3
      clear hb
      cases n3 with
      | true =>
        go_wp2
        go_ret
        exact ⟨by rw [HC.out]; rfl, B3.out⟩
      | false =>
        go_wp2_with fail
        refine (K4.out (by first | rfl | trivial) _ B3.out).mono ?_
        rintro e w4 ⟨rfl, hb⟩
        have B4 : Keep (Below w.heap.size w w4) := ⟨below_step B3.out hb B3.out.size⟩
        have BG4 := Keep.mk (BG3.out.below hb BG3.out.lt)
        have q0 := BG4.out.cell 0
        have q1 := BG4.out.cell 1
        have q2 := BG4.out.cell 2
        have q3 := BG4.out.cell 3
        simp at q0 q1 q2 q3
        clear hb
        cases n4 with
        | false =>
          go_wp2
          go_ret
          exact ⟨by rw [HC.out]; rfl, B4.out⟩
        | true =>
          go_wp2_with fail
          refine (K5.out (by first | rfl | trivial) _ B4.out).mono ?_
          rintro e w5 ⟨rfl, hb⟩
          have B5 : Keep (Below w.heap.size w w5) := ⟨below_step B4.out hb B4.out.size⟩
          have BG5 := Keep.mk (BG4.out.below hb BG4.out.lt)
          have q0 := BG5.out.cell 0
          have q1 := BG5.out.cell 1
          have q2 := BG5.out.cell 2
          have q3 := BG5.out.cell 3
          simp at q0 q1 q2 q3
          clear hb
          cases n5 with
          | true =>
            go_wp2
            go_ret
            exact ⟨by rw [HC.out]; rfl, B5.out⟩
          | false =>
            go_wp2
            go_ret
            exact ⟨by rw [HC.out]; rfl, B5.out⟩

end Go.Proofs.Ytadabkkkalgehaa.H
