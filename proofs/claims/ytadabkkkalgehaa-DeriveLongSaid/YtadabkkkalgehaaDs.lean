/-
  derive: start, Derives and Count, walked.
-/
import Derived.Test.YtadabkkkalgehaaDwB
import Derived.Carry
namespace Go.Proofs.Ytadabkkkalgehaa.H
open Go.RowKit
set_option linter.unusedVariables false
set_option linter.unusedSimpArgs false

def termB (g : Gr) (y : Int) : Bool := decide (0 ≤ y) && decide (y < g.T)
/-- Why there is no chart. -/
def startE (g : Gr) (s : Int) (row : List Int) : Int :=
  if checkI g ≠ 0 then checkI g else if ¬ (0 ≤ s ∧ s < g.S) then 2 else if row.all (termB g) = false then 2 else if 64 < row.length then 3 else 0
theorem startE_zero {g : Gr} {s : Int} {row : List Int} (h : startE g s row = 0) : checkI g = 0 ∧ (0 ≤ s ∧ s < g.S) ∧ row.all (termB g) = true ∧ row.length ≤ 64 := by
  unfold startE at h
  by_cases h1 : checkI g ≠ 0
  · rw [if_pos h1] at h; exact absurd h h1
  rw [if_neg h1] at h
  by_cases h2 : ¬ (0 ≤ s ∧ s < g.S)
  · rw [if_pos h2] at h; cases h
  rw [if_neg h2] at h
  by_cases h3 : row.all (termB g) = false
  · rw [if_pos h3] at h; cases h
  rw [if_neg h3] at h
  by_cases h4 : 64 < row.length
  · rw [if_pos h4] at h; cases h
  exact ⟨by simpa using h1, by simpa using h2, by simpa using h3, by omega⟩
def StartPost (w : World) (g : Gr) (s : Int) (row : List Int) (e : Ending) (w' : World) : Prop :=
  (startE g s row ≠ 0 ∧ e = .returned (.tuple #[.pointer none, .int .i64 (startE g s row)]) ∧ Below w.heap.size w w') ∨
  (startE g s row = 0 ∧ ∃ x : Cx, x.g = g ∧ x.row = row ∧ x.B0 = w.heap.size ∧ e = .returned (.tuple #[.pointer (some ⟨x.cB, 0, none⟩), .int .i64 0]) ∧ Ch x w' (fun _ => none) (fun _ => none) ∧ Below w.heap.size w w')

set_option maxRecDepth 100000 in
set_option maxHeartbeats 4000000 in
theorem start_any (g : Gr) (s : Int) (row : List Int) (A Ar : Option Addr) (c cr : Nat) (w : World) (h : GrIn w g A c) (hr : Rd eI 1 w w.heap.size Ar row) (hl : row.length ≤ cr) (hm : row.length ≤ 9223372036854775807) :
    Calls Try.prog 31 #[grV g A c, .int .i64 s, .slice Ar row.length cr] w (StartPost w g s row) := by
  have H0 := Keep.mk h
  have HR := Keep.mk hr
  clear h hr
  have K1 := Keep.mk fun W (hW : Below w.heap.size w W) => check_any g A c W (H0.out.below hW)
  have hE : Keep (startE g s row = if checkI g ≠ 0 then checkI g else if ¬ (0 ≤ s ∧ s < g.S) then 2 else if row.all (termB g) = false then 2 else if 64 < row.length then 3 else 0) := ⟨rfl⟩
  have HT : Keep (∀ y, termB g y = (decide (0 ≤ y) && decide (y < g.T))) := ⟨fun _ => rfl⟩
  have HP : Keep (∀ e w', (startE g s row ≠ 0 → e = .returned (.tuple #[.pointer none, .int .i64 (startE g s row)]) → Below w.heap.size w w' → StartPost w g s row e w') ∧
      (startE g s row = 0 → ∀ x : Cx, x.g = g → x.row = row → x.B0 = w.heap.size → e = .returned (.tuple #[.pointer (some ⟨x.cB, 0, none⟩), .int .i64 0]) → Ch x w' (fun _ => none) (fun _ => none) → Below w.heap.size w w' → StartPost w g s row e w')) :=
    ⟨fun e w' => ⟨fun h1 h2 h3 => .inl ⟨h1, h2, h3⟩, fun h1 x a1 a2 a3 a4 a5 a6 => .inr ⟨h1, x, a1, a2, a3, a4, a5, a6⟩⟩⟩
  have hRP : Keep (RdP w w.heap.size A g.ps) := ⟨H0.out.r⟩
  generalize hQ : StartPost w g s row = Q at *
  clear hQ
  generalize hz : startE g s row = E at *
  clear hz
  generalize checkI g = C at *
  generalize termB g = tb at *
  obtain ⟨T, S, st, ps⟩ := g
  unfold grV at *
  dsimp only at *
  have B0 : Keep (Below w.heap.size w (w.alloc (.cells #[.int .i64 T, .int .i64 S, .int .i64 st, .slice A ps.length c] 24))) := ⟨(Below.refl _ _).alloc (Nat.le_refl _) _⟩
  have BG : Keep (Blk (w.alloc (.cells #[.int .i64 T, .int .i64 S, .int .i64 st, .slice A ps.length c] 24)) w.heap.size 24 #[.int .i64 T, .int .i64 S, .int .i64 st, .slice A ps.length c]) := ⟨Blk.new _ _ _⟩
  have hmm := @run_makeMap Try.prog
  go_enter Try.func31, Try.ntmps31
  go_wp2_with fail
  refine (K1.out _ B0.out).mono ?_
  rintro e w1 ⟨rfl, hb⟩
  have B1 : Keep (Below w.heap.size w w1) := ⟨below_step B0.out hb B0.out.size⟩
  have BG1 := Keep.mk (BG.out.below hb BG.out.lt)
  clear B0 BG hb K1
  by_cases hC : C = 0
  · subst hC
    have q0 := BG1.out.cell 0
    have q1 := BG1.out.cell 1
    have q2 := BG1.out.cell 2
    have q3 := BG1.out.cell 3
    simp at q0 q1 q2 q3
    have n1 := BG1.out.lt
    by_cases hs : 0 ≤ s ∧ s < S
    · obtain ⟨hs0, hs1⟩ := hs
      have hsd : decide (S ≤ s) = false := decide_eq_false (by omega)
      have hsd0 : decide (s < 0) = false := decide_eq_false (by omega)
      have hE2 : Keep (E = if row.all tb = false then 2 else if 64 < row.length then 3 else 0) := ⟨by rw [hE.out, if_neg (by simp), if_neg (by omega)]⟩
      clear hE
      go_wp2_with fail
      go_loopg [26] row.length (fun gg s26 wr => ∃ m : Nat, m ≤ row.length ∧ row.length - m ≤ gg ∧ s26 = .int .i64 (m : Int) ∧ Keep (wr = w1) ∧ Keep (∀ j (hj : j < row.length), j < m → tb row[j] = true))
      case atStart => exact ⟨0, Nat.zero_le _, by omega, rfl, ⟨rfl⟩, ⟨fun j _ hj => absurd hj (Nat.not_lt_zero _)⟩⟩
      case round =>
        obtain ⟨m, hm1, hgm, rfl, HW, HA⟩ := hrel
        have hw := HW.out
        subst hw
        clear HW
        by_cases hlt : m < row.length
        · obtain ⟨ad, e1, hb1, hc1⟩ := HR.out.int m hlt
          subst e1
          replace hc1 := cell_below hc1 B1.out (by rw [add_block]; exact hb1)
          have HT1 := Keep.mk (HT.out row[m])
          generalize hy : row[m] = y at *
          have Hy := Keep.mk hy
          clear hy
          have i1 : (0 : Int) ≤ m := by omega
          have i2 : (m : Int) < row.length := by omega
          by_cases hy0 : 0 ≤ y ∧ y < T
          · obtain ⟨y0, y1⟩ := hy0
            have d0 : decide (y < 0) = false := decide_eq_false (by omega)
            have d1 : decide (T ≤ y) = false := decide_eq_false (by omega)
            have ht1 : Keep (tb y = true) := ⟨by rw [HT1.out]; simp [y0, y1]⟩
            go_wp2_with fail
            go_roundg (row.length - (m + 1))
            case measure => omega
            case rel =>
              refine ⟨m + 1, by omega, by omega, by go_num, ⟨rfl⟩, ⟨fun j hj hjm => ?_⟩⟩
              by_cases e : j = m
              · subst e; rw [Hy.out]; exact ht1.out
              · exact HA.out j hj (by omega)
          · have ht1 : Keep (row.all tb = false) := ⟨List.all_eq_false.2 ⟨y, by rw [← Hy.out]; exact List.getElem_mem _, by rw [HT1.out]; simp; omega⟩⟩
            have hEv : Keep (E = 2) := ⟨by rw [hE2.out, if_pos ht1.out]⟩
            by_cases y0 : y < 0
            · have d0 : decide (y < 0) = true := decide_eq_true y0
              go_wp2_with fail
              try go_ret2
              exact (HP.out _ _).1 (by rw [hEv.out]; decide) (by first | (rw [hEv.out]; done) | (rw [hEv.out]; rfl)) B1.out
            · have d0 : decide (y < 0) = false := decide_eq_false y0
              have d1 : decide (T ≤ y) = true := decide_eq_true (by omega)
              have d2 : T ≤ y := by omega
              have d3 : 0 ≤ y := by omega
              go_wp2_with fail
              try go_ret2
              exact (HP.out _ _).1 (by rw [hEv.out]; decide) (by first | (rw [hEv.out]; done) | (rw [hEv.out]; rfl)) B1.out
        · have hall : Keep (row.all tb = true) := ⟨List.all_eq_true.2 (fun y hy => by
            obtain ⟨j, hj, rfl⟩ := List.getElem_of_mem hy
            exact HA.out j hj (by omega))⟩
          by_cases h64 : 64 < row.length
          · have hEv : Keep (E = 3) := ⟨by rw [hE2.out, if_neg (by rw [hall.out]; decide), if_pos h64]⟩
            have d0 : decide ((64 : Int) < row.length) = true := decide_eq_true (by omega)
            have d1 : (64 : Int) < row.length := by omega
            go_wp2_with fail
            try go_ret2
            exact (HP.out _ _).1 (by rw [hEv.out]; decide) (by first | (rw [hEv.out]; done) | (rw [hEv.out]; rfl)) B1.out
          · have hEv : Keep (E = 0) := ⟨by rw [hE2.out, if_neg (by rw [hall.out]; decide), if_neg h64]⟩
            have d0 : decide ((64 : Int) < row.length) = false := decide_eq_false (by omega)
            have d1 : ¬ (64 : Int) < row.length := by omega
            go_wp2_with fail
            try go_ret2
            have hB : Below w.heap.size w (((wr.alloc (.map #[] 0)).alloc (.map #[] 0)).alloc (.cells #[.int .i64 T, .int .i64 S, .int .i64 st, .slice A ps.length c, .slice Ar row.length cr, .map (some wr.heap.size), .map (some (wr.heap.size + 1))] 71)) :=
              ((B1.out.alloc B1.out.size _).alloc (by have := B1.out.size; simp; omega) _).alloc (by have := B1.out.size; simp; omega) _
            have hsz := B1.out.size
            refine (HP.out _ _).2 hEv.out ⟨⟨T, S, st, ps⟩, row, A, c, Ar, cr, wr.heap.size + 1 + 1, wr.heap.size, wr.heap.size + 1, w.heap.size⟩ rfl rfl rfl rfl ⟨Blk.newAt (by simp), hRP.out.below hB, HR.out.below hB, ?_, ?_, hsz, by show w.heap.size ≤ wr.heap.size + 1; omega, by show w.heap.size ≤ wr.heap.size + 1 + 1; omega, by show wr.heap.size + 1 + 1 ≠ wr.heap.size; omega, by show wr.heap.size + 1 + 1 ≠ wr.heap.size + 1; omega, by show wr.heap.size ≠ wr.heap.size + 1; omega⟩ hB
            · exact ((MapI.made stretchE _ boxK wr).alloc _).alloc _
            · have := (MapI.made stretchE 3 boxK (wr.alloc (.map #[] 0))).alloc (.cells #[.int .i64 T, .int .i64 S, .int .i64 st, .slice A ps.length c, .slice Ar row.length cr, .map (some wr.heap.size), .map (some (wr.heap.size + 1))] 71)
              rwa [World.size_alloc] at this
    · have hEv : Keep (E = 2) := ⟨by rw [hE.out, if_neg (by simp), if_pos hs]⟩
      by_cases s0 : s < 0
      · have d0 : decide (s < 0) = true := decide_eq_true s0
        go_wp2_with fail
        try go_ret2
        exact (HP.out _ _).1 (by rw [hEv.out]; decide) (by first | (rw [hEv.out]; done) | (rw [hEv.out]; rfl)) B1.out
      · have d0 : decide (s < 0) = false := decide_eq_false s0
        have d1 : decide (S ≤ s) = true := decide_eq_true (by omega)
        have d2 : S ≤ s := by omega
        go_wp2_with fail
        try go_ret2
        exact (HP.out _ _).1 (by rw [hEv.out]; decide) (by first | (rw [hEv.out]; done) | (rw [hEv.out]; rfl)) B1.out
  · have hEv : Keep (E = C) := ⟨by rw [hE.out, if_pos hC]⟩
    have d0 : ((C : Int) != 0) = true := by simp [hC]
    have hn : Keep (E ≠ 0) := ⟨by rw [hEv.out]; exact hC⟩
    clear hE hC
    go_wp2_with fail
    try go_ret2
    exact (HP.out _ _).1 hn.out (by first | (rw [hEv.out]; done) | (rw [hEv.out]; rfl)) B1.out

noncomputable def derR (g : Gr) (s : Int) (row : List Int) : Bool × Int := if startE g s row = 0 then (decide (0 < row.length) && decide (0 < numS g row s 0 row.length), 0) else (false, startE g s row)
noncomputable def countR (g : Gr) (s : Int) (row : List Int) : Int × Int := if startE g s row = 0 then (if row.length = 0 then (0, 0) else if 1073741824 < numS g row s 0 row.length then (0, 140) else (((numS g row s 0 row.length : Nat) : Int), 0)) else (0, startE g s row)
theorem cap_big {n : Nat} (h : 1073741824 < n) : 1073741824 < cap n := by unfold cap; omega
theorem cap_small {n : Nat} (h : ¬ 1073741824 < n) : cap n = (n : Int) ∧ ¬ 1073741824 < cap n := by unfold cap; omega
theorem body8 {g : Gr} (h : checkI g = 0) : ∀ q ∈ g.ps, q.body.length ≤ 8 := fun q hq => ((checkI_zero h).2.1 q hq).2
theorem kn_none (x : Cx) : Kn x (fun _ => none) := fun q v h => by cases h
/-- The symbol's count of the whole row, asked of a fresh chart. -/
theorem whole_any {g : Gr} {s : Int} {row : List Int} {w : World} {x : Cx} (hE : startE g s row = 0) (hg : x.g = g) (hrow : x.row = row) (hB : x.B0 = w.heap.size) {w1 : World} (hc : Ch x w1 (fun _ => none) (fun _ => none)) (hb : Below w.heap.size w w1) :
    Calls Try.prog 32 #[.pointer (some ⟨x.cB, 0, none⟩), .int .i64 s, .int .i64 0, .int .i64 row.length] w1 fun e w' => e = .returned (.int .i64 (cap (numS g row s 0 row.length))) ∧ Below w.heap.size w w' := by
  subst hg hrow
  obtain ⟨h1, h2, h3, h4⟩ := startE_zero hE
  refine (symbol_any x (GrD.of_check h1) h4 (body8 h1) s 0 x.row.length w1 _ _ h2.1 h2.2 (Nat.zero_le _) (Nat.le_refl _) hc (kn_none x)).mono ?_
  rintro e w2 ⟨rfl, k2, C2, _, G2⟩
  exact ⟨rfl, by rw [← hB] at hb ⊢; exact hb.trans (G2.low hc.nk hc.size)⟩

set_option maxRecDepth 100000 in
set_option maxHeartbeats 4000000 in
theorem derives_any (g : Gr) (s : Int) (row : List Int) (A Ar : Option Addr) (c cr : Nat) (w : World) (h : GrIn w g A c) (hr : Rd eI 1 w w.heap.size Ar row) (hl : row.length ≤ cr) (hm : row.length ≤ 9223372036854775807) :
    Calls Try.prog 11 #[grV g A c, .int .i64 s, .slice Ar row.length cr] w fun e w' => e = .returned (.tuple #[.bool (derR g s row).1, .int .i64 (derR g s row).2]) ∧ Below w.heap.size w w' := by
  have H0 := Keep.mk h
  have HR := Keep.mk hr
  clear h hr
  have K1 := Keep.mk fun W (hW : Below w.heap.size w W) => start_any g s row A Ar c cr W (H0.out.below hW) ((HR.out.below hW).mono hW.size) hl hm
  have hD : Keep (derR g s row = if startE g s row = 0 then (decide (0 < row.length) && decide (0 < numS g row s 0 row.length), 0) else (false, startE g s row)) := ⟨rfl⟩
  generalize derR g s row = R at *
  obtain ⟨R1, R2⟩ := R
  unfold grV at *
  have B0 : Keep (Below w.heap.size w (w.alloc (.cells #[.int .i64 g.T, .int .i64 g.S, .int .i64 g.st, .slice A g.ps.length c] 24))) := ⟨(Below.refl _ _).alloc (Nat.le_refl _) _⟩
  go_enter Try.func11, Try.ntmps11
  go_wp2_with fail
  refine (K1.out _ B0.out).mono ?_
  rintro e w1 (⟨hE, rfl, hb⟩ | ⟨hE, x, x1, x2, x3, rfl, hc, hb⟩)
  · have B1 : Keep (Below w.heap.size w w1) := ⟨below_step B0.out hb B0.out.size⟩
    have hD2 := hD.out
    rw [if_neg hE] at hD2
    simp only [Prod.mk.injEq] at hD2
    obtain ⟨he1, he2⟩ := hD2
    have HR1 := Keep.mk he1
    have HR2 := Keep.mk he2
    clear he1 he2
    have hn : ((startE g s row : Int) != 0) = true := by simp [hE]
    generalize startE g s row = E at *
    clear K1 hD hb hE
    go_wp2_with fail
    go_ret2
    exact ⟨by dsimp only; rw [HR1.out, HR2.out]; rfl, B1.out⟩
  · have KW := Keep.mk (whole_any hE x1 x2 x3 hc hb)
    have B1 : Keep (Below w.heap.size w w1) := ⟨below_step B0.out hb B0.out.size⟩
    have hD2 := hD.out
    rw [if_pos hE] at hD2
    simp only [Prod.mk.injEq] at hD2
    obtain ⟨he1, he2⟩ := hD2
    have HR1 := Keep.mk he1
    have HR2 := Keep.mk he2
    clear he1 he2
    have hcr := cap_range (numS g row s 0 row.length)
    have hcp := cap_pos (numS g row s 0 row.length)
    clear K1 hD hb hE hc x1 x2 x3
    by_cases hl0 : 0 < row.length
    · have t1 : decide ((0 : Int) < row.length) = true := decide_eq_true (by omega)
      have t2 : (0 : Int) < row.length := by omega
      have HD : Keep ((decide (0 < row.length) && decide (0 < numS g row s 0 row.length)) = decide (0 < cap (numS g row s 0 row.length))) := ⟨by rw [decide_eq_true hl0, Bool.true_and]; exact (decide_eq_decide.2 hcp).symm⟩
      rw [HD.out] at HR1
      clear HD hcp
      generalize cap (numS g row s 0 row.length) = cn at *
      go_wp2_with fail
      refine KW.out.mono ?_
      rintro e w2 ⟨rfl, hb2⟩
      have B2 : Keep (Below w.heap.size w w2) := ⟨below_step B0.out hb2 B0.out.size⟩
      clear hb2 KW
      go_wp2_with fail
      go_ret2
      exact ⟨by dsimp only; rw [HR1.out, HR2.out]; rfl, B2.out⟩
    · have t1 : decide ((0 : Int) < row.length) = false := decide_eq_false (by omega)
      have t2 : ¬ (0 : Int) < row.length := by omega
      rw [decide_eq_false hl0, Bool.false_and] at HR1
      go_wp2_with fail
      go_ret2
      exact ⟨by dsimp only; rw [HR1.out, HR2.out]; rfl, B1.out⟩

set_option maxRecDepth 100000 in
set_option maxHeartbeats 4000000 in
theorem count_any (g : Gr) (s : Int) (row : List Int) (A Ar : Option Addr) (c cr : Nat) (w : World) (h : GrIn w g A c) (hr : Rd eI 1 w w.heap.size Ar row) (hl : row.length ≤ cr) (hm : row.length ≤ 9223372036854775807) :
    Calls Try.prog 19 #[grV g A c, .int .i64 s, .slice Ar row.length cr] w fun e w' => e = .returned (.tuple #[.int .i64 (countR g s row).1, .int .i64 (countR g s row).2]) ∧ Below w.heap.size w w' := by
  have H0 := Keep.mk h
  have HR := Keep.mk hr
  clear h hr
  have K1 := Keep.mk fun W (hW : Below w.heap.size w W) => start_any g s row A Ar c cr W (H0.out.below hW) ((HR.out.below hW).mono hW.size) hl hm
  have hD : Keep (countR g s row = if startE g s row = 0 then (if row.length = 0 then (0, 0) else if 1073741824 < numS g row s 0 row.length then (0, 140) else (((numS g row s 0 row.length : Nat) : Int), 0)) else (0, startE g s row)) := ⟨rfl⟩
  generalize countR g s row = R at *
  obtain ⟨R1, R2⟩ := R
  unfold grV at *
  have B0 : Keep (Below w.heap.size w (w.alloc (.cells #[.int .i64 g.T, .int .i64 g.S, .int .i64 g.st, .slice A g.ps.length c] 24))) := ⟨(Below.refl _ _).alloc (Nat.le_refl _) _⟩
  go_enter Try.func19, Try.ntmps19
  go_wp2_with fail
  refine (K1.out _ B0.out).mono ?_
  rintro e w1 (⟨hE, rfl, hb⟩ | ⟨hE, x, x1, x2, x3, rfl, hc, hb⟩)
  · have B1 : Keep (Below w.heap.size w w1) := ⟨below_step B0.out hb B0.out.size⟩
    have hD2 := hD.out
    rw [if_neg hE] at hD2
    simp only [Prod.mk.injEq] at hD2
    obtain ⟨he1, he2⟩ := hD2
    have HR1 := Keep.mk he1
    have HR2 := Keep.mk he2
    clear he1 he2
    have hn : ((startE g s row : Int) != 0) = true := by simp [hE]
    generalize startE g s row = E at *
    clear K1 hD hb hE
    go_wp2_with fail
    go_ret2
    exact ⟨by dsimp only; rw [HR1.out, HR2.out]; rfl, B1.out⟩
  · have KW := Keep.mk (whole_any hE x1 x2 x3 hc hb)
    have B1 : Keep (Below w.heap.size w w1) := ⟨below_step B0.out hb B0.out.size⟩
    have hD2 := Keep.mk hD.out
    rw [if_pos hE] at hD2
    have hcr := cap_range (numS g row s 0 row.length)
    clear K1 hD hb hE hc x1 x2 x3
    by_cases hl0 : row.length = 0
    · have hD3 := hD2.out
      rw [if_pos hl0] at hD3
      simp only [Prod.mk.injEq] at hD3
      obtain ⟨he1, he2⟩ := hD3
      have HR1 := Keep.mk he1
      have HR2 := Keep.mk he2
      clear he1 he2
      have t1 : ((row.length : Int) == 0) = true := beq_iff_eq.2 (by omega)
      clear KW hD2 hl0
      go_wp2_with fail
      go_ret2
      exact ⟨by dsimp only; rw [HR1.out, HR2.out]; rfl, B1.out⟩
    · have t1 : ((row.length : Int) == 0) = false := beq_eq_false_iff_ne.2 (by omega)
      have hD3 := hD2.out
      rw [if_neg hl0] at hD3
      by_cases hN : 1073741824 < numS g row s 0 row.length
      · rw [if_pos hN] at hD3
        simp only [Prod.mk.injEq] at hD3
        obtain ⟨he1, he2⟩ := hD3
        have HR1 := Keep.mk he1
        have HR2 := Keep.mk he2
        clear he1 he2
        have t2 := cap_big hN
        clear hD2 hl0 hN
        generalize cap (numS g row s 0 row.length) = cn at *
        go_wp2_with fail
        refine KW.out.mono ?_
        rintro e w2 ⟨rfl, hb2⟩
        have B2 : Keep (Below w.heap.size w w2) := ⟨below_step B0.out hb2 B0.out.size⟩
        clear hb2 KW
        go_wp2_with fail
        go_ret2
        exact ⟨by dsimp only; rw [HR1.out, HR2.out]; rfl, B2.out⟩
      · rw [if_neg hN] at hD3
        simp only [Prod.mk.injEq] at hD3
        obtain ⟨he1, he2⟩ := hD3
        have HR1 := Keep.mk he1
        have HR2 := Keep.mk he2
        clear he1 he2
        obtain ⟨hcn, t2⟩ := cap_small hN
        rw [← hcn] at HR1
        clear hD2 hl0 hN hcn
        generalize cap (numS g row s 0 row.length) = cn at *
        go_wp2_with fail
        refine KW.out.mono ?_
        rintro e w2 ⟨rfl, hb2⟩
        have B2 : Keep (Below w.heap.size w w2) := ⟨below_step B0.out hb2 B0.out.size⟩
        clear hb2 KW
        go_wp2_with fail
        go_ret2
        exact ⟨by dsimp only; rw [HR1.out, HR2.out]; rfl, B2.out⟩
end Go.Proofs.Ytadabkkkalgehaa.H
