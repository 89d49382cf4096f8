import Derived.Test.YtadabkkkalgehaaPlL
import Derived.Test.YtadabkkkalgehaaAz
import Derived.Test.YtadabkkkalgehaaCi
import Derived.Test.YtadabkkkalgehaaPLix3
/-
  DeriveLong, walked.
-/
namespace Go.Proofs.Ytadabkkkalgehaa.PLi
open Go.RowKit Go.Proofs.YtadabkkkalgehaaW.PrintWords Go.Proofs.YtadabkkkalgehaaW.PrintLast Go.Proofs.YtadabkkkalgehaaW.PrintMore
set_option linter.unusedVariables false
set_option linter.unusedSimpArgs false
theorem sum_k (n : Int) (r : List Int) (k : Nat) (h : rootstocklaw14_Sum.f k n = some r) (W : World) :
    Calls Try.prog 28 #[.int .i64 n] W fun e w' => ∃ A c, e = .returned (.slice A r.length c) ∧ r.length ≤ c ∧ H.Rd H.eI 1 w' w'.heap.size A r ∧ Below W.heap.size W w' :=
  (rootstocklaw14_Sum.calls k n r W h).mono fun e w' ⟨v, he, hr, hb⟩ => by
    obtain ⟨A, c, rfl, hl, hC⟩ := Kd.R_reads hr
    exact ⟨A, c, he, hl, rdI_of hC, hb⟩
theorem sums_k (W : World) : Calls Try.prog 29 #[] W fun e w' => ∃ A c, e = .returned (.agg #[.int .i64 2, .int .i64 3, .int .i64 2, .slice A 2 c]) ∧ H.GrIn w' H.sumsG A c ∧ Below W.heap.size W w' :=
  (rootstocklaw14_Sums.calls 2 3 2 sumsL W rfl).mono fun e w' ⟨v, he, hr, hb⟩ => by
    obtain ⟨A, c, rfl, hl, hC⟩ := Kd.R_reads hr
    have := grIn_of (x := 2) (y := 3) (z := 2) hC hl
    exact ⟨A, c, he, this, hb⟩
theorem der_k (row : List Int) (b : Bool) (x : Int) (h : H.derR H.sumsG 2 row = (b, x)) {n : Nat} (hn : row.length = n) {A Ar : Option Addr} {c cr : Nat} (W : World) (hg : H.GrIn W H.sumsG A c) (hr : H.Rd H.eI 1 W W.heap.size Ar row) (hc : n ≤ cr) (hm : n ≤ 100000) :
    Calls Try.prog 11 #[.agg #[.int .i64 2, .int .i64 3, .int .i64 2, .slice A 2 c], .int .i64 2, .slice Ar n cr] W fun e w' => e = .returned (.tuple #[.bool b, .int .i64 x]) ∧ Below W.heap.size W w' := by
  subst hn
  have := H.derives_any H.sumsG 2 row A Ar c cr W hg hr hc (by omega)
  rw [h] at this
  exact this
theorem via_k (row : List Int) (b : Bool) (x : Int) (h : H.viaR H.sumsG row = (b, x)) {n : Nat} (hn : row.length = n) {A Ar : Option Addr} {c cr : Nat} (W : World) (hg : H.GrIn W H.sumsG A c) (hr : H.Rd H.eI 1 W W.heap.size Ar row) (hc : n ≤ cr) (hm : n ≤ 100000) :
    Calls Try.prog 15 #[.agg #[.int .i64 2, .int .i64 3, .int .i64 2, .slice A 2 c], .slice Ar n cr] W fun e w' => e = .returned (.tuple #[.bool b, .int .i64 x]) ∧ Below W.heap.size W w' := by
  subst hn
  have := H.viable_any H.sumsG row A Ar c cr W hg hr hc (by omega)
  rw [h] at this
  exact this
theorem cnt_k (row : List Int) (b : Int) (x : Int) (h : H.countR H.sumsG 2 row = (b, x)) {n : Nat} (hn : row.length = n) {A Ar : Option Addr} {c cr : Nat} (W : World) (hg : H.GrIn W H.sumsG A c) (hr : H.Rd H.eI 1 W W.heap.size Ar row) (hc : n ≤ cr) (hm : n ≤ 100000) :
    Calls Try.prog 19 #[.agg #[.int .i64 2, .int .i64 3, .int .i64 2, .slice A 2 c], .int .i64 2, .slice Ar n cr] W fun e w' => e = .returned (.tuple #[.int .i64 b, .int .i64 x]) ∧ Below W.heap.size W w' := by
  subst hn
  have := H.count_any H.sumsG 2 row A Ar c cr W hg hr hc (by omega)
  rw [h] at this
  exact this
theorem jdg_k (row : List Int) (h : H.derR H.sumsG 2 row = (false, 3)) {n : Nat} (hn : row.length = n) {A Ar : Option Addr} {c cr : Nat} (W : World) (hg : H.GrIn W H.sumsG A c) (hr : H.Rd H.eI 1 W W.heap.size Ar row) (hc : n ≤ cr) (hm : n ≤ 100000) :
    Calls Try.prog 17 #[.agg #[.int .i64 2, .int .i64 3, .int .i64 2, .slice A 2 c], .slice Ar n cr] W fun e w' => e = .returned (.tuple #[.agg #[.bool false, .int .i64 0], .int .i64 3]) ∧ Below W.heap.size W w' := by
  subst hn
  have hf : derive_Judge.f 0 2 3 2 sumsL row = some (false, 0, 3) := by
    unfold derive_Judge.f
    rw [der_s, h, Option.bind_some, if_neg (by decide)]
  exact derive_Judge.calls 0 2 3 2 A c sumsL Ar cr row false 0 3 W (rdP_to hg.r hg.l2 hg.b) hg.l (rdI_to hr (by omega)) hc hf
theorem sum33 : rootstocklaw14_Sum.f 40 33 = some (H.sumRow 65) := by decide +kernel
theorem sum10 : rootstocklaw14_Sum.f 40 10 = some (H.sumRow 19) := by decide +kernel
theorem row63 : (H.sumRow 65).take 63 = H.sumRow 63 := by decide +kernel
theorem rd63 {w : World} {B : Nat} {A : Option Addr} (h : H.Rd H.eI 1 w B A (H.sumRow 65)) : H.Rd H.eI 1 w B A (H.sumRow 63) := by
  rw [← row63]; exact h.take 63
set_option maxRecDepth 100000 in
set_option maxHeartbeats 8000000 in
theorem long_any (m : Int) (h0 : 0 ≤ m) (h1 : m ≤ 255) (w : World) :
    Calls Try.prog 5 #[.int .u8 m] w fun e w' => e = .returned (.bool true) ∧ Below w.heap.size w w' := by
  obtain ⟨p, rfl⟩ := Int.eq_ofNat_of_zero_le h0
  have P1 : p ≤ 255 := by omega
  have PL := H.Keep.mk P1
  have E1 : IntKind.i64.wrap (2 + (p : Int)) = ((2 + p : Nat) : Int) := by simp [IntKind.wrap, IntKind.bits, IntKind.signed]; omega
  have E1k := H.Keep.mk E1
  clear E1
  go_enter Try.func5, Try.ntmps5
  go_wp2_with fail
  refine (sum_k 33 _ 40 sum33 w).mono ?_
  rintro e w1 ⟨A1, c1, rfl, hl, hr, hb⟩
  rw [H.sumRow_len] at hl ⊢
  have R1 := H.Keep.mk (rd63 hr)
  have B1 : H.Keep (Below w.heap.size w w1) := ⟨hb⟩
  have L1 : H.Keep (63 ≤ c1) := ⟨by omega⟩
  clear hr hb
  go_wp2_with fail
  refine (sums_k w1).mono ?_
  rintro e w2 ⟨A2, c2, rfl, hg, hb⟩
  have G2 := H.Keep.mk hg
  have S2 : H.Keep (Below w1.heap.size w1 w2) := ⟨hb⟩
  clear hg hb
  go_wp2_with fail
  refine (der_k _ _ _ H.lo1 (H.sumRow_len 63) w2 G2.out ((R1.out.below S2.out).mono S2.out.size) L1.out (by decide)).mono ?_
  rintro e w3 ⟨rfl, hb⟩
  have S3 : H.Keep (Below w1.heap.size w1 w3) := ⟨H.below_step S2.out hb S2.out.size⟩
  clear hb G2 S2
  go_wp2_with fail
  have cp := H.copyInts_any A1 c1 (H.sumRow 63) w3 ((R1.out.below S3.out).mono S3.out.size) (by rw [H.sumRow_len]; decide)
  rw [H.sumRow_len] at cp
  refine cp.mono ?_
  clear cp
  rintro e w4 ⟨v4, rfl, ho, hb⟩
  have O4 := H.Keep.mk ho
  have S4 : H.Keep (Below w3.heap.size w3 w4) := ⟨hb⟩
  obtain ⟨A4, c4, e4, _⟩ := ho.open_
  rw [H.sumRow_len] at e4
  subst e4
  clear ho hb
  go_wp2_with (at_builtin; refine H.wpl_zeros _ rfl (.tmp 28) (.tmp 31) rfl w3.heap.size _ _ rfl O4.out (2 + p) ?c1 (by omega) ?c2 S4.out.size ?_)
  case c1 => exact (congrArg (Value.int IntKind.i64) (show (2 + (p : Int)) = ((2 + p : Nat) : Int) by omega))
  case c2 => rw [H.sumRow_len]; omega
  intro v6 w6 ho hg
  have S6 : H.Keep (Below w1.heap.size w1 w6) := ⟨H.below_step S3.out (S4.out.trans ((Below.refl _ _).grown hg S4.out.size (fun b hb => O4.out.blk b hb))) S3.out.size⟩
  have HN : (H.sumRow 63 ++ List.replicate (2 + p) 0).length = 65 + p := by rw [List.length_append, H.sumRow_len, List.length_replicate]; omega
  obtain ⟨A6, c6, e6, hl6, _, hr6, _⟩ := ho.open_
  rw [HN] at e6 hl6
  subst e6
  have R6 := H.Keep.mk hr6
  have L6 := H.Keep.mk hl6
  have HNk := H.Keep.mk HN
  clear ho hg hr6 hl6 HN O4 S4
  go_wp2_with fail
  refine (sums_k w6).mono ?_
  rintro e x1 ⟨A7, c7, rfl, hg, hb⟩
  have G := H.Keep.mk hg
  have T : H.Keep (Below w6.heap.size w6 x1) := ⟨hb⟩
  clear hg hb
  go_wp2_with fail
  refine (der_k _ _ _ (H.lo2 (by omega)) HNk.out x1 G.out ((R6.out.below T.out).mono T.out.size) L6.out (by omega)).mono ?_
  rintro e x2 ⟨rfl, hb⟩
  have T2 : H.Keep (Below w6.heap.size w6 x2) := ⟨H.below_step T.out hb T.out.size⟩
  clear hb G T
  go_wp2_with fail
  refine (sums_k x2).mono ?_
  rintro e x3 ⟨A8, c8, rfl, hg, hb⟩
  have G := H.Keep.mk hg
  have T : H.Keep (Below w6.heap.size w6 x3) := ⟨H.below_step T2.out hb T2.out.size⟩
  clear hg hb T2
  go_wp2_with fail
  refine (via_k _ _ _ (H.lo3 (by omega)) HNk.out x3 G.out ((R6.out.below T.out).mono T.out.size) L6.out (by omega)).mono ?_
  rintro e x4 ⟨rfl, hb⟩
  have T2 : H.Keep (Below w6.heap.size w6 x4) := ⟨H.below_step T.out hb T.out.size⟩
  clear hb G T
  go_wp2_with fail
  refine (sums_k x4).mono ?_
  rintro e x5 ⟨A9, c9, rfl, hg, hb⟩
  have G := H.Keep.mk hg
  have T : H.Keep (Below w6.heap.size w6 x5) := ⟨H.below_step T2.out hb T2.out.size⟩
  clear hg hb T2
  go_wp2_with fail
  refine (jdg_k _ (H.lo2 (by omega)) HNk.out x5 G.out ((R6.out.below T.out).mono T.out.size) L6.out (by omega)).mono ?_
  rintro e x6 ⟨rfl, hb⟩
  have T2 : H.Keep (Below w6.heap.size w6 x6) := ⟨H.below_step T.out hb T.out.size⟩
  clear hb G T
  go_wp2_with fail
  refine (sums_k _).mono ?_
  rintro e x7 ⟨Aa, ca, rfl, hg, hb⟩
  have G := H.Keep.mk hg
  have T : H.Keep (Below w6.heap.size w6 x7) := ⟨H.below_step (T2.out.alloc T2.out.size _) hb (by have := T2.out.size; simp; omega)⟩
  clear hg hb T2
  go_wp2_with fail
  refine (cnt_k _ _ _ (H.lo4 (by omega)) HNk.out x7 G.out ((R6.out.below T.out).mono T.out.size) L6.out (by omega)).mono ?_
  rintro e x8 ⟨rfl, hb⟩
  have T2 : H.Keep (Below w1.heap.size w1 x8) := ⟨H.below_step S6.out (H.below_step T.out hb T.out.size) S6.out.size⟩
  clear hb G T
  go_wp2_with fail
  refine (sums_k x8).mono ?_
  rintro e x9 ⟨Ab, cb, rfl, hg, hb⟩
  have G := H.Keep.mk hg
  have T : H.Keep (Below w1.heap.size w1 x9) := ⟨H.below_step T2.out hb T2.out.size⟩
  clear hg hb T2
  go_wp2_with fail
  refine (cnt_k _ _ _ H.lo5 (H.sumRow_len 63) x9 G.out ((R1.out.below T.out).mono T.out.size) L1.out (by decide)).mono ?_
  rintro e y1 ⟨rfl, hb⟩
  have T2 : H.Keep (Below w1.heap.size w1 y1) := ⟨H.below_step T.out hb T.out.size⟩
  clear hb G T
  go_wp2_with fail
  refine (sums_k y1).mono ?_
  rintro e y2 ⟨Ac, cc, rfl, hg, hb⟩
  have G := H.Keep.mk hg
  have T : H.Keep (Below w1.heap.size w1 y2) := ⟨H.below_step T2.out hb T2.out.size⟩
  clear hg hb T2
  go_wp2_with fail
  refine (sum_k 10 _ 40 sum10 y2).mono ?_
  rintro e y3 ⟨Ad, cd, rfl, hl, hr, hb⟩
  rw [H.sumRow_len] at hl ⊢
  have G2 := H.Keep.mk (G.out.below hb)
  have R2 := H.Keep.mk hr
  have L2 := H.Keep.mk hl
  have T2 : H.Keep (Below w1.heap.size w1 y3) := ⟨H.below_step T.out hb T.out.size⟩
  clear hb G T hl hr
  go_wp2_with fail
  refine (cnt_k _ _ _ H.lo6 (H.sumRow_len 19) y3 G2.out R2.out L2.out (by decide)).mono ?_
  rintro e y4 ⟨rfl, hb⟩
  have T : H.Keep (Below w.heap.size w y4) := ⟨H.below_step B1.out (H.below_step T2.out hb T2.out.size) B1.out.size⟩
  clear hb G2 T2
  go_wp2_with fail
  refine (H.lives_any y4).mono ?_
  rintro e y5 ⟨rfl, hb⟩
  have T2 : H.Keep (Below w.heap.size w y5) := ⟨H.below_step T.out hb T.out.size⟩
  clear hb
  go_wp2
  go_ret
  exact ⟨rfl, T2.out⟩
end Go.Proofs.Ytadabkkkalgehaa.PLi
