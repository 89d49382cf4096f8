-- printed by wip/eprint.py of this session's repo, out of the translation and contracts proved by hand
import Derived.Test.YtadabkkkalgehaaPTrx0
import Derived.Test.YtadabkkkalgehaaPTrx1
import Derived.Test.YtadabkkkalgehaaPTrx2
namespace Go.Proofs.Ytadabkkkalgehaa.PTr
open Go.RowKit Go.Proofs.YtadabkkkalgehaaW.PrintWords Go.Proofs.YtadabkkkalgehaaW.PrintLast Go.Proofs.YtadabkkkalgehaaW.PrintMore
attribute [local go_sem] max2_int min2_int max_two min_two max_three min_three max_four min_four   -- for this text's walks alone
set_option linter.unusedVariables false
set_option linter.unusedSimpArgs false

/-! ### derive_Fits: function 22 -/
noncomputable def derive_Fits.f (k : Nat) (a0_0 : Int) (a0_1 : Int) (a0_2 : Int) (l0_3 : List (S55)) (a1_0 : Int) (a1_1 : Int) (l1_2 : List (S43)) : Option (Int) := (grams_Check.f a0_0 a0_1 a0_2 l0_3).bind fun t119 => (if t119 = 0 then ((derive_fits.f k a0_0 a0_1 a0_2 l0_3 a1_0 a1_1 l1_2).bind fun t120 => (some t120)) else (some t119))
theorem derive_Fits.mono : ∀ a0 a1 a2 a3 a4 a5 a6 k, LeO (derive_Fits.f k a0 a1 a2 a3 a4 a5 a6) (derive_Fits.f (k + 1) a0 a1 a2 a3 a4 a5 a6) := by
 intro a0 a1 a2 a3 a4 a5 a6 k
 unfold derive_Fits.f
 repeat' first
  | (with_reducible exact derive_fits.mono _ _ _ _ _ _ _ _)
  | (with_reducible exact LeO.refl _)
  | (with_reducible exact LeO.none _)
  | (with_reducible refine LeO.ite ?_ ?_)
  | (with_reducible refine LeO.bind ?_ (fun _ => ?_))
  | exact derive_fits.mono _ _ _ _ _ _ _ _
  | exact LeO.none _
  | refine LeO.ite ?_ ?_
  | refine LeO.bind ?_ (fun _ => ?_)
set_option maxHeartbeats 8000000 in
set_option maxRecDepth 100000 in
theorem derive_Fits.calls (k : Nat) (a0_0 : Int) (a0_1 : Int) (a0_2 : Int) (A0_3 : Option Addr) (c0_3 : Nat) (l0_3 : List (S55)) (a1_0 : Int) (a1_1 : Int) (A1_2 : Option Addr) (c1_2 : Nat) (l1_2 : List (S43)) (r : Int) (w : World) (hr0_3 : Kd.C k55 w A0_3 l0_3.length l0_3) (hc0_3 : l0_3.length ≤ c0_3) (hr1_2 : Kd.C k43 w A1_2 l1_2.length l1_2) (hc1_2 : l1_2.length ≤ c1_2) (h : derive_Fits.f k a0_0 a0_1 a0_2 l0_3 a1_0 a1_1 l1_2 = some r) :
    Calls Try.prog 22 #[.agg #[.int .i64 a0_0, .int .i64 a0_1, .int .i64 a0_2, .slice A0_3 l0_3.length c0_3], .agg #[.int .i64 a1_0, .int .i64 a1_1, .slice A1_2 l1_2.length c1_2]] w fun e w' => e = .returned (.int .i64 r) ∧ Below w.heap.size w w' := by
 have hu24 := Try.underlying24
 have hu43 := Try.underlying43
 have HR0_3 := Aside0.mk hr0_3
 have HC0_3 := Aside0.mk hc0_3
 clear hr0_3 hc0_3
 have HR1_2 := Aside0.mk hr1_2
 have HC1_2 := Aside0.mk hc1_2
 clear hr1_2 hc1_2
 have HB := Aside0.mk (Below.refl w.heap.size w)
 have H : ((grams_Check.f a0_0 a0_1 a0_2 l0_3).bind fun t119 => (if t119 = 0 then ((derive_fits.f k a0_0 a0_1 a0_2 l0_3 a1_0 a1_1 l1_2).bind fun t120 => (some t120)) else (some t119))) = some r := h
 clear h
 replace H := Option.bind_eq_some_iff.mp H
 obtain ⟨t119, A30, H⟩ := H
 replace H : (if t119 = 0 then ((derive_fits.f k a0_0 a0_1 a0_2 l0_3 a1_0 a1_1 l1_2).bind fun t120 => (some t120)) else (some t119)) = some r := H
 have A3 := Aside0.mk A30
 clear A30
 by_cases c4 : t119 = 0
 rotate_left
 · rw [if_neg c4] at H
   have c4b0 : (t119 == 0) = false := beq_eq_false_iff_ne.mpr c4
   have c4b1 : (t119 != 0) = true := bne_iff_ne.mpr c4
   as_aux_lemma =>
    obtain rfl := Option.some.inj H
    go_enter Try.func22, Try.ntmps22
    go_wp2_with (first | ((with_reducible refine gate_dst (N := 2) rfl ?_); refine box_event ?hg (N := 2) ?hd (cs := #[.int .i64 a0_0, .int .i64 a0_1, .int .i64 a0_2, .slice A0_3 l0_3.length c0_3]) (t := 24) ?hr ?_; (case hd => rfl); (case hg => rfl); (case hr => first | (go_simp; done) | (go_simp; rfl)); intro gb117 hg w14 hbox hb; have n0_ := Aside0.mk (below_step (by repeat (first | (with_reducible first | exact HB.out | apply below_alloc | apply pw_below_drewN | apply below_drew1) | exact HB.out)) hb); have n1_ := Aside0.mk (hbox); have n2_ := Aside0.mk ((by rw [hg]; exact (below_size (by repeat (first | (with_reducible first | exact HB.out | apply below_alloc | apply pw_below_drewN | apply below_drew1) | exact HB.out))) : w.heap.size ≤ gb117)); have n3_ := Aside0.mk ((by rw [hg]; exact (below_size (by repeat (first | (with_reducible first | exact HB.out | apply below_alloc | apply pw_below_drewN | apply below_drew1) | exact HB.out))) : w.heap.size ≤ gb117)); clear HB; have HB := n0_; have BK117 := n1_; have GW117 := n2_; have GE117 := n3_; clear n0_ n1_ n2_ n3_; clear hb hbox hg) | ((with_reducible refine gate_dst (N := 3) rfl ?_); refine box_event ?hg (N := 3) ?hd (cs := #[.int .i64 a1_0, .int .i64 a1_1, .slice A1_2 l1_2.length c1_2]) (t := 43) ?hr ?_; (case hd => rfl); (case hg => rfl); (case hr => first | (go_simp; done) | (go_simp; rfl)); intro gb118 hg w15 hbox hb; have n0_ := Aside0.mk (blk_below (g := gb117) (o := .cells #[.int .i64 a0_0, .int .i64 a0_1, .int .i64 a0_2, .slice A0_3 l0_3.length c0_3] 24 (0, 0)) (by (with_reducible repeat (first | refine blk_drewN ?_ _ | refine blk_drew ?_ | refine blk_alloc ?_ _)); exact BK117.out) hb); have n1_ := Aside0.mk (below_step (by repeat (first | (with_reducible first | exact HB.out | apply below_alloc | apply pw_below_drewN | apply below_drew1 | refine below_set ?_ GE117.out) | exact HB.out)) hb); have n2_ := Aside0.mk (hbox); have n3_ := Aside0.mk ((by rw [hg]; exact (below_size (by repeat (first | (with_reducible first | exact HB.out | apply below_alloc | apply pw_below_drewN | apply below_drew1 | refine below_set ?_ GE117.out) | exact HB.out))) : w.heap.size ≤ gb118)); have n4_ := Aside0.mk ((by rw [hg]; exact (below_size (by repeat (first | (with_reducible first | exact HB.out | apply below_alloc | apply pw_below_drewN | apply below_drew1 | refine below_set ?_ GE117.out) | exact HB.out))) : w.heap.size ≤ gb118)); have n5_ := Aside0.mk ((by rw [hg]; exact Nat.ne_of_lt (blk_lt (g := gb117) (o := .cells #[.int .i64 a0_0, .int .i64 a0_1, .int .i64 a0_2, .slice A0_3 l0_3.length c0_3] 24 (0, 0)) (by (with_reducible repeat (first | refine blk_drewN ?_ _ | refine blk_drew ?_ | refine blk_alloc ?_ _)); exact BK117.out)) : gb117 ≠ gb118)); have n6_ := Aside0.mk ((by rw [hg]; exact Nat.ne_of_gt (blk_lt (g := gb117) (o := .cells #[.int .i64 a0_0, .int .i64 a0_1, .int .i64 a0_2, .slice A0_3 l0_3.length c0_3] 24 (0, 0)) (by (with_reducible repeat (first | refine blk_drewN ?_ _ | refine blk_drew ?_ | refine blk_alloc ?_ _)); exact BK117.out)) : gb118 ≠ gb117)); clear BK117; clear HB; have BK117 := n0_; have HB := n1_; have BK118 := n2_; have GW118 := n3_; have GE118 := n4_; have NB117_118 := n5_; have NB118_117 := n6_; clear n0_ n1_ n2_ n3_ n4_ n5_ n6_; clear hb hbox hg; have hnb16 := NB117_118.out; have hnc16 := NB118_117.out; have hcz17_0 : w15.cell? ⟨gb117, 0, none⟩ = some (.int .i64 a0_0) := (blk_cell BK117.out 0).trans rfl; have hcz17_1 : w15.cell? ⟨gb117, 1, none⟩ = some (.int .i64 a0_1) := (blk_cell BK117.out 1).trans rfl; have hcz17_2 : w15.cell? ⟨gb117, 2, none⟩ = some (.int .i64 a0_2) := (blk_cell BK117.out 2).trans rfl; have hcz17_3 : w15.cell? ⟨gb117, 3, none⟩ = some (.slice A0_3 l0_3.length c0_3) := (blk_cell BK117.out 3).trans rfl; have hfz17_0 := blk_frozen BK117.out 0; have hfz17_1 := blk_frozen BK117.out 1; have hfz17_2 := blk_frozen BK117.out 2; have hfz17_3 := blk_frozen BK117.out 3) | ((with_reducible refine gate_callee (f := 38) rfl ?_); refine goesL_ (some 7) rfl rfl Try.func38 (by kernel_rfl) rfl #[.agg #[.int .i64 a0_0, .int .i64 a0_1, .int .i64 a0_2, .slice A0_3 l0_3.length c0_3]] rfl (by (try simp only [List.map_toArray, List.map_cons, List.map_nil]); first | done | rfl | (simp only [List.length_drop, List.length_take]; rfl)) ?_; (with_reducible refine (grams_Check.calls a0_0 a0_1 a0_2 _ _ l0_3 t119 _ ?side1 ?side2 A3.out).mono ?_); (case side1 => repeat (first | exact (Kd.C_below HR0_3.out HB.out) | (with_reducible refine Kd.C_alloc ?_ _) | (with_reducible refine Kd.C_drewN ?_ _) | (with_reducible refine Kd.C_drew ?_))); (case side2 => exact HC0_3.out); rintro e w18 ⟨rfl, hb⟩; refine ⟨_, rfl, ?_⟩; have n0_ := Aside0.mk (blk_below (g := gb117) (o := .cells #[.int .i64 a0_0, .int .i64 a0_1, .int .i64 a0_2, .slice A0_3 l0_3.length c0_3] 24 (0, 0)) (by (with_reducible repeat (first | refine blk_drewN ?_ _ | refine blk_drew ?_ | refine blk_alloc ?_ _)); exact BK117.out) hb); have n1_ := Aside0.mk (blk_below (g := gb118) (o := .cells #[.int .i64 a1_0, .int .i64 a1_1, .slice A1_2 l1_2.length c1_2] 43 (0, 0)) (by (with_reducible repeat (first | refine blk_drewN ?_ _ | refine blk_drew ?_ | refine blk_alloc ?_ _)); exact BK118.out) hb); have n2_ := Aside0.mk (below_step (by repeat (first | (with_reducible first | exact HB.out | apply below_alloc | apply pw_below_drewN | apply below_drew1 | refine below_set ?_ GE117.out | refine below_set ?_ GE118.out) | exact HB.out)) hb); clear BK117; clear BK118; clear HB; have BK117 := n0_; have BK118 := n1_; have HB := n2_; clear n0_ n1_ n2_; (try clear hb); (try clear hb2); (try clear hk); (try clear hi)))
    go_ret
    exact ⟨by first | rfl | (simp [errW_none, errW_some] <;> rfl) | (simp [*, errW_none, errW_some] <;> rfl), by repeat (first | (with_reducible first | exact HB.out | apply below_alloc | apply pw_below_drewN | apply below_drew1 | refine below_set ?_ GE117.out | refine below_set ?_ GE118.out) | exact HB.out)⟩
 rw [if_pos c4] at H
 have c4b0 : (t119 == 0) = true := beq_iff_eq.mpr c4
 have c4b1 : (t119 != 0) = false := bne_eq_false_iff_eq.mpr c4
 clear c4
 replace H := Option.bind_eq_some_iff.mp H
 obtain ⟨t120, A50, H⟩ := H
 replace H : (some t120) = some r := H
 have A5 := Aside0.mk A50
 clear A50
 as_aux_lemma =>
  obtain rfl := Option.some.inj H
  go_enter Try.func22, Try.ntmps22
  go_wp2_with (first | ((with_reducible refine gate_dst (N := 2) rfl ?_); refine box_event ?hg (N := 2) ?hd (cs := #[.int .i64 a0_0, .int .i64 a0_1, .int .i64 a0_2, .slice A0_3 l0_3.length c0_3]) (t := 24) ?hr ?_; (case hd => rfl); (case hg => rfl); (case hr => first | (go_simp; done) | (go_simp; rfl)); intro gb117 hg w6 hbox hb; have n0_ := Aside0.mk (below_step (by repeat (first | (with_reducible first | exact HB.out | apply below_alloc | apply pw_below_drewN | apply below_drew1) | exact HB.out)) hb); have n1_ := Aside0.mk (hbox); have n2_ := Aside0.mk ((by rw [hg]; exact (below_size (by repeat (first | (with_reducible first | exact HB.out | apply below_alloc | apply pw_below_drewN | apply below_drew1) | exact HB.out))) : w.heap.size ≤ gb117)); have n3_ := Aside0.mk ((by rw [hg]; exact (below_size (by repeat (first | (with_reducible first | exact HB.out | apply below_alloc | apply pw_below_drewN | apply below_drew1) | exact HB.out))) : w.heap.size ≤ gb117)); clear HB; have HB := n0_; have BK117 := n1_; have GW117 := n2_; have GE117 := n3_; clear n0_ n1_ n2_ n3_; clear hb hbox hg) | ((with_reducible refine gate_dst (N := 3) rfl ?_); refine box_event ?hg (N := 3) ?hd (cs := #[.int .i64 a1_0, .int .i64 a1_1, .slice A1_2 l1_2.length c1_2]) (t := 43) ?hr ?_; (case hd => rfl); (case hg => rfl); (case hr => first | (go_simp; done) | (go_simp; rfl)); intro gb118 hg w7 hbox hb; have n0_ := Aside0.mk (blk_below (g := gb117) (o := .cells #[.int .i64 a0_0, .int .i64 a0_1, .int .i64 a0_2, .slice A0_3 l0_3.length c0_3] 24 (0, 0)) (by (with_reducible repeat (first | refine blk_drewN ?_ _ | refine blk_drew ?_ | refine blk_alloc ?_ _)); exact BK117.out) hb); have n1_ := Aside0.mk (below_step (by repeat (first | (with_reducible first | exact HB.out | apply below_alloc | apply pw_below_drewN | apply below_drew1 | refine below_set ?_ GE117.out) | exact HB.out)) hb); have n2_ := Aside0.mk (hbox); have n3_ := Aside0.mk ((by rw [hg]; exact (below_size (by repeat (first | (with_reducible first | exact HB.out | apply below_alloc | apply pw_below_drewN | apply below_drew1 | refine below_set ?_ GE117.out) | exact HB.out))) : w.heap.size ≤ gb118)); have n4_ := Aside0.mk ((by rw [hg]; exact (below_size (by repeat (first | (with_reducible first | exact HB.out | apply below_alloc | apply pw_below_drewN | apply below_drew1 | refine below_set ?_ GE117.out) | exact HB.out))) : w.heap.size ≤ gb118)); have n5_ := Aside0.mk ((by rw [hg]; exact Nat.ne_of_lt (blk_lt (g := gb117) (o := .cells #[.int .i64 a0_0, .int .i64 a0_1, .int .i64 a0_2, .slice A0_3 l0_3.length c0_3] 24 (0, 0)) (by (with_reducible repeat (first | refine blk_drewN ?_ _ | refine blk_drew ?_ | refine blk_alloc ?_ _)); exact BK117.out)) : gb117 ≠ gb118)); have n6_ := Aside0.mk ((by rw [hg]; exact Nat.ne_of_gt (blk_lt (g := gb117) (o := .cells #[.int .i64 a0_0, .int .i64 a0_1, .int .i64 a0_2, .slice A0_3 l0_3.length c0_3] 24 (0, 0)) (by (with_reducible repeat (first | refine blk_drewN ?_ _ | refine blk_drew ?_ | refine blk_alloc ?_ _)); exact BK117.out)) : gb118 ≠ gb117)); clear BK117; clear HB; have BK117 := n0_; have HB := n1_; have BK118 := n2_; have GW118 := n3_; have GE118 := n4_; have NB117_118 := n5_; have NB118_117 := n6_; clear n0_ n1_ n2_ n3_ n4_ n5_ n6_; clear hb hbox hg; have hnb8 := NB117_118.out; have hnc8 := NB118_117.out; have hcz9_0 : w7.cell? ⟨gb117, 0, none⟩ = some (.int .i64 a0_0) := (blk_cell BK117.out 0).trans rfl; have hcz9_1 : w7.cell? ⟨gb117, 1, none⟩ = some (.int .i64 a0_1) := (blk_cell BK117.out 1).trans rfl; have hcz9_2 : w7.cell? ⟨gb117, 2, none⟩ = some (.int .i64 a0_2) := (blk_cell BK117.out 2).trans rfl; have hcz9_3 : w7.cell? ⟨gb117, 3, none⟩ = some (.slice A0_3 l0_3.length c0_3) := (blk_cell BK117.out 3).trans rfl; have hfz9_0 := blk_frozen BK117.out 0; have hfz9_1 := blk_frozen BK117.out 1; have hfz9_2 := blk_frozen BK117.out 2; have hfz9_3 := blk_frozen BK117.out 3) | ((with_reducible refine gate_callee (f := 38) rfl ?_); refine goesL_ (some 7) rfl rfl Try.func38 (by kernel_rfl) rfl #[.agg #[.int .i64 a0_0, .int .i64 a0_1, .int .i64 a0_2, .slice A0_3 l0_3.length c0_3]] rfl (by (try simp only [List.map_toArray, List.map_cons, List.map_nil]); first | done | rfl | (simp only [List.length_drop, List.length_take]; rfl)) ?_; (with_reducible refine (grams_Check.calls a0_0 a0_1 a0_2 _ _ l0_3 t119 _ ?side1 ?side2 A3.out).mono ?_); (case side1 => repeat (first | exact (Kd.C_below HR0_3.out HB.out) | (with_reducible refine Kd.C_alloc ?_ _) | (with_reducible refine Kd.C_drewN ?_ _) | (with_reducible refine Kd.C_drew ?_))); (case side2 => exact HC0_3.out); rintro e w10 ⟨rfl, hb⟩; refine ⟨_, rfl, ?_⟩; have n0_ := Aside0.mk (blk_below (g := gb117) (o := .cells #[.int .i64 a0_0, .int .i64 a0_1, .int .i64 a0_2, .slice A0_3 l0_3.length c0_3] 24 (0, 0)) (by (with_reducible repeat (first | refine blk_drewN ?_ _ | refine blk_drew ?_ | refine blk_alloc ?_ _)); exact BK117.out) hb); have n1_ := Aside0.mk (blk_below (g := gb118) (o := .cells #[.int .i64 a1_0, .int .i64 a1_1, .slice A1_2 l1_2.length c1_2] 43 (0, 0)) (by (with_reducible repeat (first | refine blk_drewN ?_ _ | refine blk_drew ?_ | refine blk_alloc ?_ _)); exact BK118.out) hb); have n2_ := Aside0.mk (below_step (by repeat (first | (with_reducible first | exact HB.out | apply below_alloc | apply pw_below_drewN | apply below_drew1 | refine below_set ?_ GE117.out | refine below_set ?_ GE118.out) | exact HB.out)) hb); clear BK117; clear BK118; clear HB; have BK117 := n0_; have BK118 := n1_; have HB := n2_; clear n0_ n1_ n2_; (try clear hb); (try clear hb2); (try clear hk); (try clear hi); have hcz11_0 : w10.cell? ⟨gb117, 0, none⟩ = some (.int .i64 a0_0) := (blk_cell BK117.out 0).trans rfl; have hcz11_1 : w10.cell? ⟨gb117, 1, none⟩ = some (.int .i64 a0_1) := (blk_cell BK117.out 1).trans rfl; have hcz11_2 : w10.cell? ⟨gb117, 2, none⟩ = some (.int .i64 a0_2) := (blk_cell BK117.out 2).trans rfl; have hcz11_3 : w10.cell? ⟨gb117, 3, none⟩ = some (.slice A0_3 l0_3.length c0_3) := (blk_cell BK117.out 3).trans rfl; have hfz11_0 := blk_frozen BK117.out 0; have hfz11_1 := blk_frozen BK117.out 1; have hfz11_2 := blk_frozen BK117.out 2; have hfz11_3 := blk_frozen BK117.out 3; have hcz12_0 : w10.cell? ⟨gb118, 0, none⟩ = some (.int .i64 a1_0) := (blk_cell BK118.out 0).trans rfl; have hcz12_1 : w10.cell? ⟨gb118, 1, none⟩ = some (.int .i64 a1_1) := (blk_cell BK118.out 1).trans rfl; have hcz12_2 : w10.cell? ⟨gb118, 2, none⟩ = some (.slice A1_2 l1_2.length c1_2) := (blk_cell BK118.out 2).trans rfl; have hfz12_0 := blk_frozen BK118.out 0; have hfz12_1 := blk_frozen BK118.out 1; have hfz12_2 := blk_frozen BK118.out 2) | ((with_reducible refine gate_callee (f := 39) rfl ?_); refine goesL_ (some 13) rfl rfl Try.func39 (by kernel_rfl) rfl #[.agg #[.int .i64 a0_0, .int .i64 a0_1, .int .i64 a0_2, .slice A0_3 l0_3.length c0_3], .agg #[.int .i64 a1_0, .int .i64 a1_1, .slice A1_2 l1_2.length c1_2]] rfl (by (try simp only [List.map_toArray, List.map_cons, List.map_nil]); first | done | rfl | (simp only [List.length_drop, List.length_take]; rfl)) ?_; (with_reducible refine (derive_fits.calls k a0_0 a0_1 a0_2 _ _ l0_3 a1_0 a1_1 _ _ l1_2 t120 _ ?side1 ?side2 ?side3 ?side4 A5.out).mono ?_); (case side1 => repeat (first | exact (Kd.C_below HR0_3.out HB.out) | (with_reducible refine Kd.C_alloc ?_ _) | (with_reducible refine Kd.C_drewN ?_ _) | (with_reducible refine Kd.C_drew ?_))); (case side2 => exact HC0_3.out); (case side3 => repeat (first | exact (Kd.C_below HR1_2.out HB.out) | (with_reducible refine Kd.C_alloc ?_ _) | (with_reducible refine Kd.C_drewN ?_ _) | (with_reducible refine Kd.C_drew ?_))); (case side4 => exact HC1_2.out); rintro e w13 ⟨rfl, hb⟩; refine ⟨_, rfl, ?_⟩; have n0_ := Aside0.mk (blk_below (g := gb117) (o := .cells #[.int .i64 a0_0, .int .i64 a0_1, .int .i64 a0_2, .slice A0_3 l0_3.length c0_3] 24 (0, 0)) (by (with_reducible repeat (first | refine blk_drewN ?_ _ | refine blk_drew ?_ | refine blk_alloc ?_ _)); exact BK117.out) hb); have n1_ := Aside0.mk (blk_below (g := gb118) (o := .cells #[.int .i64 a1_0, .int .i64 a1_1, .slice A1_2 l1_2.length c1_2] 43 (0, 0)) (by (with_reducible repeat (first | refine blk_drewN ?_ _ | refine blk_drew ?_ | refine blk_alloc ?_ _)); exact BK118.out) hb); have n2_ := Aside0.mk (below_step (by repeat (first | (with_reducible first | exact HB.out | apply below_alloc | apply pw_below_drewN | apply below_drew1 | refine below_set ?_ GE117.out | refine below_set ?_ GE118.out) | exact HB.out)) hb); clear BK117; clear BK118; clear HB; have BK117 := n0_; have BK118 := n1_; have HB := n2_; clear n0_ n1_ n2_; (try clear hb); (try clear hb2); (try clear hk); (try clear hi)))
  go_ret
  exact ⟨by first | rfl | (simp [errW_none, errW_some] <;> rfl) | (simp [*, errW_none, errW_some] <;> rfl), by repeat (first | (with_reducible first | exact HB.out | apply below_alloc | apply pw_below_drewN | apply below_drew1 | refine below_set ?_ GE117.out | refine below_set ?_ GE118.out) | exact HB.out)⟩

/-! ### derive_Yield: function 26 -/
mutual
/-- A tree's leaves. -/
def yl : S43 → List Int
  | ⟨s, _, l⟩ => if l.isEmpty then s :: yls l else yls l
def yls : List S43 → List Int
  | [] => []
  | t :: l => yl t ++ yls l
end
theorem yls_snoc (l : List S43) (t : S43) : yls (l ++ [t]) = yls l ++ yl t := by
  induction l with
  | nil => simp [yls]
  | cons x l ih => simp only [List.cons_append, yls]; rw [ih, List.append_assoc]
theorem yls_take_le (l : List S43) (m : Nat) : (yls (l.take m)).length ≤ (yls l).length := by
  induction l generalizing m with
  | nil => simp
  | cons x l ih =>
    cases m with
    | zero => simp [yls]
    | succ m =>
      have := ih m
      simp only [List.take_succ_cons, yls, List.length_append] at *
      omega
/-- The world has grown, but for what lies from B on and one cell. -/
structure Gy (g B : Nat) (w w' : World) : Prop where
  os : w'.os = w.os
  tape : w'.tape = w.tape
  output : w'.output = w.output
  size : w.heap.size ≤ w'.heap.size
  block : ∀ i, i < B → i ≠ g → w'.heap[i]? = w.heap[i]?
theorem Gy.trans {g B : Nat} {a b c : World} (h : Gy g B a b) (k : Gy g B b c) : Gy g B a c :=
  ⟨k.os.trans h.os, k.tape.trans h.tape, k.output.trans h.output, Nat.le_trans h.size k.size, fun i hi h1 => (k.block i hi h1).trans (h.block i hi h1)⟩
theorem Gy.below {g B : Nat} {w w' : World} (h : Below B w w') : Gy g B w w' := ⟨h.os, h.tape, h.output, h.size, fun i hi _ => h.block i hi⟩
theorem Gy.set {g B : Nat} (w : World) (u : Value) : Gy g B w (w.setCell ⟨g, 0, none⟩ u) := by
  have h : Below (⟨g, 0, none⟩ : Addr).block w (w.setCell ⟨g, 0, none⟩ u) := Below.setCell (Below.refl _ _) (Nat.le_refl _) u
  exact ⟨h.os, h.tape, h.output, by simp, fun i _ hi => Below.heap_setCell w ⟨g, 0, none⟩ u i hi⟩
theorem Gy.low {g B b : Nat} {w w' : World} (h : Gy g B w w') (hg : b ≤ g) (hB : b ≤ B) : Below b w w' := ⟨h.os, h.tape, h.output, h.size, fun i hi => h.block i (by omega) (by omega)⟩
theorem Gy.blk {g B b : Nat} {w w' : World} {t : TypeId} {cs : Array Value} (h : Gy g B w w') (hb : H.Blk w b t cs) (h1 : b < B) (h2 : b ≠ g) : H.Blk w' b t cs := (h.block b h1 h2).trans hb
theorem own_far {w : World} {B g : Nat} {v u : Value} {xs : List Int} (h : H.OwnI w B v xs) (hg : g < B) : H.OwnI (w.setCell ⟨g, 0, none⟩ u) B v xs := by
  obtain ⟨h1, h2⟩ := h
  refine ⟨h1, ?_⟩
  rcases h2 with h0 | ⟨b, cap, cur, hv, hB, hh, hr⟩
  · exact .inl h0
  · exact .inr ⟨b, cap, cur, hv, hB, (Below.heap_setCell w ⟨g, 0, none⟩ u b (by show b ≠ g; omega)).trans hh, hr⟩
def RetY (gO B : Nat) (t : S43) (xs : List Int) (w : World) (e : Ending) (w' : World) : Prop :=
  e = .returned (.tuple #[]) ∧ ∃ v', H.Blk w' gO 25 #[v'] ∧ H.OwnI w' B v' (xs ++ yl t) ∧ Gy gO B w w'

set_option maxRecDepth 100000 in
set_option maxHeartbeats 4000000 in
theorem yield_walk (w0 : World) (gO gW B : Nat) (h0 : w0.heap.size ≤ gO) (h1 : gO < B) (h2 : gW < B) (h3 : gW ≠ gO) : ∀ (N : Nat) (t : S43), SizeOf.sizeOf t < N → ∀ (A : Option Addr) (c : Nat) (w : World) (v : Value) (xs : List Int), Kd.C k43 w0 A t.f2.length t.f2 → t.f2.length ≤ c → Below w0.heap.size w0 w → B ≤ w.heap.size →
    H.Blk w gO 25 #[v] → H.Blk w gW 68 #[.func (.func 42) #[] #[.pointer (some ⟨gO, 0, none⟩), .pointer (some ⟨gW, 0, none⟩)]] → H.OwnI w B v xs → xs.length + (yl t).length < 8796093022208 →
    Calls Try.prog 42 #[.agg #[.int .i64 t.f0, .int .i64 t.f1, .slice A t.f2.length c], .pointer (some ⟨gO, 0, none⟩), .pointer (some ⟨gW, 0, none⟩)] w (RetY gO B t xs w) := by
  intro N
  induction N with
  | zero => intro t h; exact absurd h (Nat.not_lt_zero _)
  | succ N ih =>
    intro t hN A c w v xs hC hc hb0 hBw BO BW HO hl
    have HC := H.Keep.mk hC
    have HB0 := H.Keep.mk hb0
    have KBO := H.Keep.mk BO
    have KBW := H.Keep.mk BW
    have KHO := H.Keep.mk HO
    have nO := BO.lt
    have nW := BW.lt
    have hm := Kd.C_max hC
    obtain ⟨s, p, l⟩ := t
    dsimp only at *
    have HK : H.Keep (∀ m (hm : m < l.length), ∀ (A' : Option Addr) (c' : Nat) (W : World) (v' : Value) (ys : List Int), Kd.C k43 w0 A' (rd_T43 l (m : Int)).f2.length (rd_T43 l (m : Int)).f2 → (rd_T43 l (m : Int)).f2.length ≤ c' → Below w0.heap.size w0 W → B ≤ W.heap.size → H.Blk W gO 25 #[v'] → H.Blk W gW 68 #[.func (.func 42) #[] #[.pointer (some ⟨gO, 0, none⟩), .pointer (some ⟨gW, 0, none⟩)]] → H.OwnI W B v' ys → ys.length + (yl (rd_T43 l (m : Int))).length < 8796093022208 →
        Calls Try.prog 42 #[.agg #[.int .i64 (rd_T43 l (m : Int)).f0, .int .i64 (rd_T43 l (m : Int)).f1, .slice A' (rd_T43 l (m : Int)).f2.length c'], .pointer (some ⟨gO, 0, none⟩), .pointer (some ⟨gW, 0, none⟩)] W (RetY gO B (rd_T43 l (m : Int)) ys W)) := ⟨fun m hm => by
      have hx : rd_T43 l (m : Int) = l[m] := by simp [rd_T43, List.getD_eq_getElem?_getD, hm]
      rw [hx]
      have := List.sizeOf_lt_of_mem (List.getElem_mem hm)
      exact ih _ (by simp at hN; omega)⟩
    have HY : H.Keep (∀ m (hm : m < l.length), yls (l.take (m + 1)) = yls (l.take m) ++ yl (rd_T43 l (m : Int))) := ⟨fun m hm => by
      have hx : rd_T43 l (m : Int) = l[m] := by simp [rd_T43, List.getD_eq_getElem?_getD, hm]
      rw [hx, List.take_add_one, List.getElem?_eq_getElem hm, Option.toList_some, yls_snoc]⟩
    have HYL : H.Keep (∀ m, xs.length + (if l.isEmpty then 1 else 0) + (yls (l.take m)).length < 8796093022208 ∧ ∀ (hm : m < l.length), xs.length + (if l.isEmpty then 1 else 0) + (yls (l.take m)).length + (yl (rd_T43 l (m : Int))).length < 8796093022208) := ⟨fun m => by
      have e : (yl ⟨s, p, l⟩).length = (if l.isEmpty then 1 else 0) + (yls l).length := by
        unfold yl
        cases l.isEmpty <;> simp <;> omega
      rw [e] at hl
      refine ⟨by have := yls_take_le l m; omega, fun hm => ?_⟩
      have := yls_take_le l (m + 1)
      rw [HY.out m hm, List.length_append] at this
      omega⟩
    have HFIN : H.Keep (∀ e w' v', e = .returned (.tuple #[]) → H.Blk w' gO 25 #[v'] → H.OwnI w' B v' ((if l.isEmpty then xs ++ [s] else xs) ++ yls (l.take l.length)) → Gy gO B w w' → RetY gO B ⟨s, p, l⟩ xs w e w') := ⟨fun e w' v' h1 h2 h3 h4 => ⟨h1, v', h2, by
      rw [List.take_length] at h3
      unfold yl
      cases hle : l.isEmpty <;> rw [hle] at h3 <;> simp at h3 ⊢ <;> exact h3, h4⟩⟩
    have HBo : H.Keep (Below B w (w.alloc (.cells #[.int .i64 s, .int .i64 p, .slice A l.length c] 43))) := ⟨(Below.refl _ _).alloc hBw _⟩
    generalize hQ : RetY gO B ⟨s, p, l⟩ xs w = Q at *
    clear ih hN hl hC hb0 hQ
    go_enter Try.func42, Try.ntmps42
    by_cases hle : l.length = 0
    · obtain rfl : l = [] := List.eq_nil_of_length_eq_zero hle
      have HL := H.Keep.mk (HYL.out 0).1
      have qo := KBO.out.cell 0
      simp at qo
      go_wp2_with (at_builtin; refine H.wpl_append_int _ rfl (.tmp 10) (.tmp 13) rfl B _ xs rfl ((KHO.out.below (((Below.refl _ _).alloc (Nat.le_refl _) _).alloc (by simp) _))) (w.heap.size + 1) s rfl ?c1 ?c2 ?c3 ?_)
      case c1 => simp [World.cell?_alloc_at]
      case c2 => have := HL.out; simp at this; omega
      case c3 => simp; omega
      intro v' w7 hGr
      obtain ⟨A8, c8, e8, _⟩ := hGr.own.open_
      generalize (xs ++ [s]).length = n8 at e8
      subst e8
      generalize hv' : Value.slice A8 n8 c8 = v' at *
      have B7 : H.Keep (H.Blk w7 gO 25 #[v]) := ⟨hGr.blk gO _ _ ((KBO.out.alloc _).alloc _) (by decide)⟩
      have L7 : H.Keep (Below B w w7) := ⟨(((Below.refl _ _).alloc hBw _).alloc (by simp; omega) _).trans hGr.low⟩
      have O7 := H.Keep.mk hGr.own
      have n7 : gO < w7.heap.size := B7.out.lt
      have q7 := B7.out.cell 0
      have f7 := B7.out.frozen 0
      simp at q7
      have B8 : H.Keep (H.Blk (w7.setCell ⟨gO, 0, none⟩ v') gO 25 #[v']) := ⟨by have := B7.out.set_ 0 v'; simpa using this⟩
      have O8 : H.Keep (H.OwnI (w7.setCell ⟨gO, 0, none⟩ v') B v' (xs ++ [s])) := ⟨own_far O7.out h1⟩
      have BT : H.Keep (H.Blk w7 w.heap.size 43 #[.int .i64 s, .int .i64 p, .slice A 0 c]) := ⟨hGr.blk _ _ _ ((H.Blk.new _ _ _).alloc _) (by decide)⟩
      have nT := BT.out.lt
      have rT := (BT.out.far (p := ⟨gO, 0, none⟩) (by show w.heap.size ≠ gO; omega) v').cell 2
      simp at rT
      have G8 : H.Keep (Gy gO B w (w7.setCell ⟨gO, 0, none⟩ v')) := ⟨(Gy.below L7.out).trans (Gy.set _ _)⟩
      clear hGr qo BO HO
      subst hv'
      go_wp2
      go_loopg [18] 0 (fun gg s18 wr => s18 = .int .i64 0 ∧ wr = w7.setCell ⟨gO, 0, none⟩ (Value.slice A8 n8 c8))
      case atStart => exact ⟨rfl, rfl⟩
      case round =>
        obtain ⟨rfl, rfl⟩ := hrel
        go_wp2
        try go_end0
        exact HFIN.out _ _ _ rfl B8.out (by simpa [yls] using O8.out) G8.out
    · have t1 : ((l.length : Int) == 0) = false := beq_eq_false_iff_ne.2 (by omega)
      have hie : l.isEmpty = false := by cases l with | nil => simp at hle | cons => rfl
      rw [hie] at HFIN HYL
      simp only [Bool.false_eq_true, if_false] at HFIN HYL
      go_wp2
      go_loopg [18] l.length (fun gg s18 wr => ∃ (m : Nat) (v' : Value), m ≤ l.length ∧ l.length - m ≤ gg ∧ s18 = .int .i64 (m : Int) ∧ H.Keep (H.Blk wr gO 25 #[v']) ∧ H.Keep (H.OwnI wr B v' (xs ++ yls (l.take m))) ∧ H.Keep (Gy gO B w wr))
      case atStart => exact ⟨0, v, Nat.zero_le _, by omega, rfl, ⟨KBO.out.below HBo.out h1⟩, ⟨by simp [yls]; exact KHO.out.below ((Below.refl _ _).alloc (Nat.le_refl _) _)⟩, ⟨Gy.below HBo.out⟩⟩
      case round =>
        clear KBO KHO
        obtain ⟨m, v', hm1, hgm, rfl, QBO, QHO, QG⟩ := hrel
        have QB0 : H.Keep (Below w0.heap.size w0 wr) := ⟨HB0.out.trans (QG.out.low h0 (by omega))⟩
        by_cases hlt : m < l.length
        · obtain ⟨ad, A2, c2, eA, k0, k1, k2, hc2, hC2⟩ := at_T43 HC.out (m : Int) (by omega) (by omega)
          have HCm := H.Keep.mk hC2
          simp only [Int.toNat_natCast] at k0 k1 k2
          have hbl : ad.block < w0.heap.size := by have := H.cell_lt k0; rwa [H.add_block] at this
          replace k0 := H.cell_below k0 QB0.out (by rw [H.add_block]; exact hbl)
          replace k1 := H.cell_below k1 QB0.out (by show (ad.add (m * 3)).block < _; rw [H.add_block]; exact hbl)
          replace k2 := H.cell_below k2 QB0.out (by show (ad.add (m * 3)).block < _; rw [H.add_block]; exact hbl)
          have HKm := H.Keep.mk (HK.out m hlt)
          have HYm := H.Keep.mk (HY.out m hlt)
          have HLm := H.Keep.mk ((HYL.out m).2 hlt)
          subst eA
          generalize rd_T43 l (m : Int) = t at *
          obtain ⟨s2, p2, l2⟩ := t
          dsimp only at *
          have i1 : (0 : Int) ≤ m := by omega
          have i2 : (m : Int) < l.length := by omega
          obtain ⟨wo, rfl⟩ : ∃ wo : World, wo = wr := ⟨_, rfl⟩
          have nw := QG.out.size
          have HBi : H.Keep (Below B wo (wo.alloc (.cells #[.int .i64 s2, .int .i64 p2, .slice A2 l2.length c2] 43))) := ⟨(Below.refl _ _).alloc (by omega) _⟩
          have QBW : H.Keep (H.Blk (wo.alloc (.cells #[.int .i64 s2, .int .i64 p2, .slice A2 l2.length c2] 43)) gW 68 #[.func (.func 42) #[] #[.pointer (some ⟨gO, 0, none⟩), .pointer (some ⟨gW, 0, none⟩)]]) := ⟨(QG.out.blk KBW.out h2 h3).below HBi.out h2⟩
          have qw := QBW.out.cell 0
          simp at qw
          have KC := H.Keep.mk (HKm.out A2 c2 (wo.alloc (.cells #[.int .i64 s2, .int .i64 p2, .slice A2 l2.length c2] 43)) v' (xs ++ yls (l.take m)) HCm.out hc2 (QB0.out.trans (((Below.refl _ _).alloc (by have := HB0.out.size; omega) _))) (by simp; omega) (QBO.out.below HBi.out h1) QBW.out (QHO.out.below ((Below.refl _ _).alloc (Nat.le_refl _) _)) (by rw [List.length_append]; have := HLm.out; omega))
          go_wp2_with fail
          refine KC.out.mono ?_
          rintro e w3 ⟨rfl, v3, R1, R2, R3⟩
          have T1 := H.Keep.mk R1
          have T2 : H.Keep (H.OwnI w3 B v3 (xs ++ yls (l.take (m + 1)))) := ⟨by rw [HYm.out, ← List.append_assoc]; exact R2⟩
          have T3 : H.Keep (Gy gO B w w3) := ⟨(QG.out.trans (Gy.below HBi.out)).trans R3⟩
          clear R1 R2 R3 KC k0 k1 k2 qw
          go_wp2
          go_roundg (l.length - (m + 1))
          case measure => omega
          case rel => exact ⟨m + 1, v3, by omega, by omega, by go_num, T1, T2, T3⟩
        · obtain rfl : m = l.length := by omega
          go_wp2
          try go_end0
          exact HFIN.out _ _ v' rfl QBO.out QHO.out QG.out

set_option maxRecDepth 100000 in
set_option maxHeartbeats 4000000 in
theorem yield_any (t : S43) (A : Option Addr) (c : Nat) (w : World) (hC : Kd.C k43 w A t.f2.length t.f2) (hc : t.f2.length ≤ c) (hl : (yl t).length < 8796093022208) :
    Calls Try.prog 26 #[.agg #[.int .i64 t.f0, .int .i64 t.f1, .slice A t.f2.length c]] w fun e w' => ∃ v', e = .returned v' ∧ H.OwnI w' w.heap.size v' (yl t) ∧ Below w.heap.size w w' := by
  obtain ⟨W1, hW1⟩ : ∃ W1, W1 = ((w.alloc (.cells #[.int .i64 t.f0, .int .i64 t.f1, .slice A t.f2.length c] 43)).alloc (.cells #[.slice none 0 0] 25)).alloc (.cells #[.nilFunc] 68) := ⟨_, rfl⟩
  have s1 : W1.heap.size = w.heap.size + 3 := by rw [hW1]; simp
  have b1 : Below w.heap.size w W1 := by rw [hW1]; exact ((Below.refl _ _).alloc (Nat.le_refl _) _).alloc (by simp) _ |>.alloc (by simp; omega) _
  have o1 : H.Blk W1 (w.heap.size + 1) 25 #[.slice none 0 0] := by rw [hW1]; exact (H.Blk.newAt (by simp)).alloc _
  have p1 : H.Blk W1 (w.heap.size + 2) 68 #[.nilFunc] := by rw [hW1]; exact H.Blk.newAt (by simp)
  have q1 := p1.cell 0
  have f1 := p1.frozen 0
  simp at q1
  have B0 : H.Keep (Below w.heap.size w (W1.setCell ⟨w.heap.size + 2, 0, none⟩ (.func (.func 42) #[] #[.pointer (some ⟨w.heap.size + 1, 0, none⟩), .pointer (some ⟨w.heap.size + 2, 0, none⟩)]))) := ⟨b1.setCell (by show w.heap.size ≤ w.heap.size + 2; omega) _⟩
  have K := H.Keep.mk (yield_walk w (w.heap.size + 1) (w.heap.size + 2) (w.heap.size + 3) (by omega) (by omega) (by omega) (by omega) _ t (Nat.lt_succ_self _) A c _ (.slice none 0 0) [] hC hc B0.out (by simp [s1]) (o1.far (by show w.heap.size + 1 ≠ w.heap.size + 2; omega) _) (by have := p1.set_ 0 (.func (.func 42) #[] #[.pointer (some ⟨w.heap.size + 1, 0, none⟩), .pointer (some ⟨w.heap.size + 2, 0, none⟩)]); simpa using this) (H.OwnI.nil _ _) (by simpa using hl))
  have BT : H.Keep (H.Blk (W1.setCell ⟨w.heap.size + 2, 0, none⟩ (.func (.func 42) #[] #[.pointer (some ⟨w.heap.size + 1, 0, none⟩), .pointer (some ⟨w.heap.size + 2, 0, none⟩)])) w.heap.size 43 #[.int .i64 t.f0, .int .i64 t.f1, .slice A t.f2.length c]) := ⟨by rw [hW1]; exact ((H.Blk.new _ _ _).alloc _ |>.alloc _).far (by show w.heap.size ≠ w.heap.size + 2; omega) _⟩
  have t0 := BT.out.cell 0
  have t1 := BT.out.cell 1
  have t2 := BT.out.cell 2
  simp at t0 t1 t2
  have nT := BT.out.lt
  have BF : H.Keep (H.Blk (W1.setCell ⟨w.heap.size + 2, 0, none⟩ (.func (.func 42) #[] #[.pointer (some ⟨w.heap.size + 1, 0, none⟩), .pointer (some ⟨w.heap.size + 2, 0, none⟩)])) (w.heap.size + 2) 68 #[(.func (.func 42) #[] #[.pointer (some ⟨w.heap.size + 1, 0, none⟩), .pointer (some ⟨w.heap.size + 2, 0, none⟩)])]) := ⟨by have := p1.set_ 0 (.func (.func 42) #[] #[.pointer (some ⟨w.heap.size + 1, 0, none⟩), .pointer (some ⟨w.heap.size + 2, 0, none⟩)]); simpa using this⟩
  have tF := BF.out.cell 0
  simp at tF
  clear hC hl o1 p1 b1
  have HW := H.Keep.mk hW1
  go_enter Try.func26, Try.ntmps26
  go_upto_region 3 with fail
  rw [← hW1]
  clear hW1
  simp only [show w.heap.size + 1 + 1 = w.heap.size + 2 from rfl]
  go_wp2_with fail
  refine K.out.mono ?_
  rintro e w3 ⟨rfl, v3, R1, R2, R3⟩
  have B3 : H.Keep (Below w.heap.size w w3) := ⟨B0.out.trans (R3.low (by omega) (by omega))⟩
  have R2' := H.Keep.mk (R2.mono (show w.heap.size ≤ w.heap.size + 3 by omega))
  have r3 := R1.cell 0
  have n3 := R1.lt
  simp at r3
  clear R1 R2 R3 K
  go_wp2_with fail
  go_ret
  exact ⟨v3, rfl, by simpa using R2'.out, B3.out⟩
noncomputable def derive_Yield.f (a0_0 : Int) (a0_1 : Int) (l0_2 : List (S43)) : Option (List Int) := if (yl ⟨a0_0, a0_1, l0_2⟩).length < 8796093022208 then some (yl ⟨a0_0, a0_1, l0_2⟩) else none
theorem derive_Yield.calls (a0_0 : Int) (a0_1 : Int) (A0_2 : Option Addr) (c0_2 : Nat) (l0_2 : List (S43)) (r : List Int) (w : World) (hr0_2 : Kd.C k43 w A0_2 l0_2.length l0_2) (hc0_2 : l0_2.length ≤ c0_2) (h : derive_Yield.f a0_0 a0_1 l0_2 = some r) :
    Calls Try.prog 26 #[.agg #[.int .i64 a0_0, .int .i64 a0_1, .slice A0_2 l0_2.length c0_2]] w fun e w' => ∃ v0_ : Value, e = .returned (v0_) ∧ Kd.R (Kd.int .i64) 3 w' w.heap.size (fun _ => True) v0_ r ∧ Below w.heap.size w w' := by
  unfold derive_Yield.f at h
  by_cases hl : (yl ⟨a0_0, a0_1, l0_2⟩).length < 8796093022208
  · rw [if_pos hl] at h
    obtain rfl := Option.some.inj h
    exact (yield_any ⟨a0_0, a0_1, l0_2⟩ A0_2 c0_2 w hr0_2 hc0_2 hl).mono fun e w' ⟨v, he, ho, hb⟩ => ⟨v, he, Kd.R_of_own ho (fun _ _ => trivial), hb⟩
  · rw [if_neg hl] at h
    cases h

/-! ### rootstocklaw14_DeriveTrees: function 6 -/
mutual
noncomputable def rootstocklaw14_DeriveTrees.j0 : Nat → Bool → Int → Int → Int → List (S55) → Int → Int → List (S43) → Option (Bool)
  | 0, _, _, _, _, _, _, _, _ => none
  | k + 1, x25, x122000, x122001, x122002, x122003, x123000, x123001, x123002 => if x25 = true then ((rootstocklaw14_lives.f).bind fun t126 => (some t126)) else ((derive_Yield.f x123000 x123001 x123002).bind fun t127 => (if (t127.length : Int) > 12 then ((rootstocklaw14_lives.f).bind fun t130 => (some t130)) else ((derive_Derives.f x122000 x122001 x122002 x122003 x123000 t127).bind fun bt131 => ((derive_Count.f x122000 x122001 x122002 x122003 x123000 t127).bind fun bt133 => (if bt131.1 = true then (if bt131.2 = 0 then (if bt133.2 = 0 then (if bt133.1 < 1 then (rootstocklaw14_DeriveTrees.j1 k t127 true x122000 x122001 x122002 x122003 x123000 x123001 x123002) else (rootstocklaw14_DeriveTrees.j1 k t127 false x122000 x122001 x122002 x122003 x123000 x123001 x123002)) else (rootstocklaw14_DeriveTrees.j1 k t127 (bt133.2 != 140) x122000 x122001 x122002 x122003 x123000 x123001 x123002)) else (rootstocklaw14_DeriveTrees.j1 k t127 true x122000 x122001 x122002 x122003 x123000 x123001 x123002)) else (rootstocklaw14_DeriveTrees.j1 k t127 true x122000 x122001 x122002 x122003 x123000 x123001 x123002))))))
noncomputable def rootstocklaw14_DeriveTrees.j1 : Nat → List Int → Bool → Int → Int → Int → List (S55) → Int → Int → List (S43) → Option (Bool)
  | 0, _, _, _, _, _, _, _, _, _ => none
  | k + 1, x5, x70, x122000, x122001, x122002, x122003, x123000, x123001, x123002 => if x70 = true then (some false) else (rootstocklaw14_DeriveTrees.l0 k x5 0 x122000 x122001 x122002 x122003 x123000 x123001 x123002)
noncomputable def rootstocklaw14_DeriveTrees.l0 : Nat → List Int → Int → Int → Int → Int → List (S55) → Int → Int → List (S43) → Option (Bool)
  | 0, _, _, _, _, _, _, _, _, _ => none
  | k + 1, x5, x10, x122000, x122001, x122002, x122003, x123000, x123001, x123002 => if x10 ≤ (x5.length : Int) then (rootstocklaw14_DeriveTrees.j3 k x5 x10 (x123000 == x122002) x122000 x122001 x122002 x122003 x123000 x123001 x123002) else (rootstocklaw14_DeriveTrees.j3 k x5 x10 false x122000 x122001 x122002 x122003 x123000 x123001 x123002)
noncomputable def rootstocklaw14_DeriveTrees.j3 : Nat → List Int → Int → Bool → Int → Int → Int → List (S55) → Int → Int → List (S43) → Option (Bool)
  | 0, _, _, _, _, _, _, _, _, _, _ => none
  | k + 1, x5, x10, x81, x122000, x122001, x122002, x122003, x123000, x123001, x123002 => if x81 = true then (if 0 ≤ x10 then (if x10 ≤ (x5.length : Int) then ((derive_Viable.f x122000 x122001 x122002 x122003 (x5.take (x10 : Int).toNat)).bind fun bt139 => (if bt139.1 = true then (if bt139.2 = 0 then (rootstocklaw14_DeriveTrees.l0 k x5 (wrap64 (x10 + 1)) x122000 x122001 x122002 x122003 x123000 x123001 x123002) else (some false)) else (some false))) else (none)) else (none)) else ((rootstocklaw14_lives.f).bind fun t141 => (some t141))
end
noncomputable def rootstocklaw14_DeriveTrees.f (k : Nat) (a0_0 : Int) (a0_1 : Int) (a0_2 : Int) (l0_3 : List (S55)) (a1_0 : Int) (a1_1 : Int) (l1_2 : List (S43)) : Option (Bool) := (rootstocklaw14_Great.f k a0_0 a0_1 a0_2 l0_3).bind fun t123 => (if t123 = true then (rootstocklaw14_DeriveTrees.j0 k true a0_0 a0_1 a0_2 l0_3 a1_0 a1_1 l1_2) else ((rootstocklaw14_Nodes.f k a1_0 a1_1 l1_2 60).bind fun t124 => (if t124 > 60 then (rootstocklaw14_DeriveTrees.j0 k true a0_0 a0_1 a0_2 l0_3 a1_0 a1_1 l1_2) else ((derive_Fits.f k a0_0 a0_1 a0_2 l0_3 a1_0 a1_1 l1_2).bind fun t125 => (rootstocklaw14_DeriveTrees.j0 k (t125 != 0) a0_0 a0_1 a0_2 l0_3 a1_0 a1_1 l1_2)))))
theorem rootstocklaw14_DeriveTrees.mono_l : ∀ k, (∀ y0 y1 y2 y3 y4 y5 y6 y7, LeO (rootstocklaw14_DeriveTrees.j0 k y0 y1 y2 y3 y4 y5 y6 y7) (rootstocklaw14_DeriveTrees.j0 (k + 1) y0 y1 y2 y3 y4 y5 y6 y7)) ∧ (∀ y0 y1 y2 y3 y4 y5 y6 y7 y8, LeO (rootstocklaw14_DeriveTrees.j1 k y0 y1 y2 y3 y4 y5 y6 y7 y8) (rootstocklaw14_DeriveTrees.j1 (k + 1) y0 y1 y2 y3 y4 y5 y6 y7 y8)) ∧ (∀ y0 y1 y2 y3 y4 y5 y6 y7 y8, LeO (rootstocklaw14_DeriveTrees.l0 k y0 y1 y2 y3 y4 y5 y6 y7 y8) (rootstocklaw14_DeriveTrees.l0 (k + 1) y0 y1 y2 y3 y4 y5 y6 y7 y8)) ∧ (∀ y0 y1 y2 y3 y4 y5 y6 y7 y8 y9, LeO (rootstocklaw14_DeriveTrees.j3 k y0 y1 y2 y3 y4 y5 y6 y7 y8 y9) (rootstocklaw14_DeriveTrees.j3 (k + 1) y0 y1 y2 y3 y4 y5 y6 y7 y8 y9))
  | 0 => ⟨fun _ _ _ _ _ _ _ _ r h => by simp [rootstocklaw14_DeriveTrees.j0] at h, fun _ _ _ _ _ _ _ _ _ r h => by simp [rootstocklaw14_DeriveTrees.j1] at h, fun _ _ _ _ _ _ _ _ _ r h => by simp [rootstocklaw14_DeriveTrees.l0] at h, fun _ _ _ _ _ _ _ _ _ _ r h => by simp [rootstocklaw14_DeriveTrees.j3] at h⟩
  | k + 1 => by
    obtain ⟨ih0, ih1, ih2, ih3⟩ := rootstocklaw14_DeriveTrees.mono_l k
    refine ⟨?_, ?_, ?_, ?_⟩
    · intro y0 y1 y2 y3 y4 y5 y6 y7
      unfold rootstocklaw14_DeriveTrees.j0
      repeat' first
      | (with_reducible exact ih0 _ _ _ _ _ _ _ _)
      | (with_reducible exact ih1 _ _ _ _ _ _ _ _ _)
      | (with_reducible exact ih2 _ _ _ _ _ _ _ _ _)
      | (with_reducible exact ih3 _ _ _ _ _ _ _ _ _ _)
      | (with_reducible exact derive_Fits.mono _ _ _ _ _ _ _ _)
      | (with_reducible exact rootstocklaw14_Great.mono _ _ _ _ _)
      | (with_reducible exact rootstocklaw14_Nodes.mono _ _ _ _ _)
      | (with_reducible exact LeO.refl _)
      | (with_reducible exact LeO.none _)
      | (with_reducible refine LeO.ite ?_ ?_)
      | (with_reducible refine LeO.bind ?_ (fun _ => ?_))
      | exact ih0 _ _ _ _ _ _ _ _
      | exact ih1 _ _ _ _ _ _ _ _ _
      | exact ih2 _ _ _ _ _ _ _ _ _
      | exact ih3 _ _ _ _ _ _ _ _ _ _
      | exact derive_Fits.mono _ _ _ _ _ _ _ _
      | exact rootstocklaw14_Great.mono _ _ _ _ _
      | exact rootstocklaw14_Nodes.mono _ _ _ _ _
      | exact LeO.none _
      | refine LeO.ite ?_ ?_
      | refine LeO.bind ?_ (fun _ => ?_)
    · intro y0 y1 y2 y3 y4 y5 y6 y7 y8
      unfold rootstocklaw14_DeriveTrees.j1
      repeat' first
      | (with_reducible exact ih0 _ _ _ _ _ _ _ _)
      | (with_reducible exact ih1 _ _ _ _ _ _ _ _ _)
      | (with_reducible exact ih2 _ _ _ _ _ _ _ _ _)
      | (with_reducible exact ih3 _ _ _ _ _ _ _ _ _ _)
      | (with_reducible exact derive_Fits.mono _ _ _ _ _ _ _ _)
      | (with_reducible exact rootstocklaw14_Great.mono _ _ _ _ _)
      | (with_reducible exact rootstocklaw14_Nodes.mono _ _ _ _ _)
      | (with_reducible exact LeO.refl _)
      | (with_reducible exact LeO.none _)
      | (with_reducible refine LeO.ite ?_ ?_)
      | (with_reducible refine LeO.bind ?_ (fun _ => ?_))
      | exact ih0 _ _ _ _ _ _ _ _
      | exact ih1 _ _ _ _ _ _ _ _ _
      | exact ih2 _ _ _ _ _ _ _ _ _
      | exact ih3 _ _ _ _ _ _ _ _ _ _
      | exact derive_Fits.mono _ _ _ _ _ _ _ _
      | exact rootstocklaw14_Great.mono _ _ _ _ _
      | exact rootstocklaw14_Nodes.mono _ _ _ _ _
      | exact LeO.none _
      | refine LeO.ite ?_ ?_
      | refine LeO.bind ?_ (fun _ => ?_)
    · intro y0 y1 y2 y3 y4 y5 y6 y7 y8
      unfold rootstocklaw14_DeriveTrees.l0
      repeat' first
      | (with_reducible exact ih0 _ _ _ _ _ _ _ _)
      | (with_reducible exact ih1 _ _ _ _ _ _ _ _ _)
      | (with_reducible exact ih2 _ _ _ _ _ _ _ _ _)
      | (with_reducible exact ih3 _ _ _ _ _ _ _ _ _ _)
      | (with_reducible exact derive_Fits.mono _ _ _ _ _ _ _ _)
      | (with_reducible exact rootstocklaw14_Great.mono _ _ _ _ _)
      | (with_reducible exact rootstocklaw14_Nodes.mono _ _ _ _ _)
      | (with_reducible exact LeO.refl _)
      | (with_reducible exact LeO.none _)
      | (with_reducible refine LeO.ite ?_ ?_)
      | (with_reducible refine LeO.bind ?_ (fun _ => ?_))
      | exact ih0 _ _ _ _ _ _ _ _
      | exact ih1 _ _ _ _ _ _ _ _ _
      | exact ih2 _ _ _ _ _ _ _ _ _
      | exact ih3 _ _ _ _ _ _ _ _ _ _
      | exact derive_Fits.mono _ _ _ _ _ _ _ _
      | exact rootstocklaw14_Great.mono _ _ _ _ _
      | exact rootstocklaw14_Nodes.mono _ _ _ _ _
      | exact LeO.none _
      | refine LeO.ite ?_ ?_
      | refine LeO.bind ?_ (fun _ => ?_)
    · intro y0 y1 y2 y3 y4 y5 y6 y7 y8 y9
      unfold rootstocklaw14_DeriveTrees.j3
      repeat' first
      | (with_reducible exact ih0 _ _ _ _ _ _ _ _)
      | (with_reducible exact ih1 _ _ _ _ _ _ _ _ _)
      | (with_reducible exact ih2 _ _ _ _ _ _ _ _ _)
      | (with_reducible exact ih3 _ _ _ _ _ _ _ _ _ _)
      | (with_reducible exact derive_Fits.mono _ _ _ _ _ _ _ _)
      | (with_reducible exact rootstocklaw14_Great.mono _ _ _ _ _)
      | (with_reducible exact rootstocklaw14_Nodes.mono _ _ _ _ _)
      | (with_reducible exact LeO.refl _)
      | (with_reducible exact LeO.none _)
      | (with_reducible refine LeO.ite ?_ ?_)
      | (with_reducible refine LeO.bind ?_ (fun _ => ?_))
      | exact ih0 _ _ _ _ _ _ _ _
      | exact ih1 _ _ _ _ _ _ _ _ _
      | exact ih2 _ _ _ _ _ _ _ _ _
      | exact ih3 _ _ _ _ _ _ _ _ _ _
      | exact derive_Fits.mono _ _ _ _ _ _ _ _
      | exact rootstocklaw14_Great.mono _ _ _ _ _
      | exact rootstocklaw14_Nodes.mono _ _ _ _ _
      | exact LeO.none _
      | refine LeO.ite ?_ ?_
      | refine LeO.bind ?_ (fun _ => ?_)
theorem rootstocklaw14_DeriveTrees.mono : ∀ a0 a1 a2 a3 a4 a5 a6 k, LeO (rootstocklaw14_DeriveTrees.f k a0 a1 a2 a3 a4 a5 a6) (rootstocklaw14_DeriveTrees.f (k + 1) a0 a1 a2 a3 a4 a5 a6) := by
 intro a0 a1 a2 a3 a4 a5 a6 k
 obtain ⟨ih0, ih1, ih2, ih3⟩ := rootstocklaw14_DeriveTrees.mono_l k
 unfold rootstocklaw14_DeriveTrees.f
 repeat' first
  | (with_reducible exact ih0 _ _ _ _ _ _ _ _)
  | (with_reducible exact ih1 _ _ _ _ _ _ _ _ _)
  | (with_reducible exact ih2 _ _ _ _ _ _ _ _ _)
  | (with_reducible exact ih3 _ _ _ _ _ _ _ _ _ _)
  | (with_reducible exact derive_Fits.mono _ _ _ _ _ _ _ _)
  | (with_reducible exact rootstocklaw14_Great.mono _ _ _ _ _)
  | (with_reducible exact rootstocklaw14_Nodes.mono _ _ _ _ _)
  | (with_reducible exact LeO.refl _)
  | (with_reducible exact LeO.none _)
  | (with_reducible refine LeO.ite ?_ ?_)
  | (with_reducible refine LeO.bind ?_ (fun _ => ?_))
  | exact ih0 _ _ _ _ _ _ _ _
  | exact ih1 _ _ _ _ _ _ _ _ _
  | exact ih2 _ _ _ _ _ _ _ _ _
  | exact ih3 _ _ _ _ _ _ _ _ _ _
  | exact derive_Fits.mono _ _ _ _ _ _ _ _
  | exact rootstocklaw14_Great.mono _ _ _ _ _
  | exact rootstocklaw14_Nodes.mono _ _ _ _ _
  | exact LeO.none _
  | refine LeO.ite ?_ ?_
  | refine LeO.bind ?_ (fun _ => ?_)
def rootstocklaw14_DeriveTrees.T13 : Bool × List (List Nat × List Nat) := (true, [([], []), ([], []), ([], []), ([1, 2], [1, 2]), ([0, 3], [0, 3]), ([4], [4]), ([5], [5]), ([5], [5]), ([6, 4, 0, 1, 2, 3, 4, 5, 6], [6]), ([7, 8, 0, 1, 2, 3, 4, 5, 6, 7, 8], [7])])
def rootstocklaw14_DeriveTrees.B13 : List Nat := [0, 0, 0, 6, 15, 31, 63, 63, 127, 511]
theorem rootstocklaw14_DeriveTrees.tab13 : rtab .any (opsOf Try.f6 13) = rootstocklaw14_DeriveTrees.T13 := by kernel_rfl
theorem rootstocklaw14_DeriveTrees.bits13 : waitsOk rootstocklaw14_DeriveTrees.T13.2 rootstocklaw14_DeriveTrees.B13 = true := by kernel_rfl

end Go.Proofs.Ytadabkkkalgehaa.PTr
