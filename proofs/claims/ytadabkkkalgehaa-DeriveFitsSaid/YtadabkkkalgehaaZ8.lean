import Derived.Test.YtadabkkkalgehaaZ5
import Derived.Test.YtadabkkkalgehaaZ6
import Derived.Test.YtadabkkkalgehaaZ7
import Derived.Test.YtadabkkkalgehaaWWords
import Derived.Test.YtadabkkkalgehaaZ2
namespace Go.Proofs.Ytadabkkkalgehaa.PFt
open Go.RowKit Go.Proofs.YtadabkkkalgehaaW.PrintWords Go.Proofs.YtadabkkkalgehaaW.PrintLast Go.Proofs.YtadabkkkalgehaaW.PrintMore
attribute [local go_sem] max2_int min2_int max_two min_two max_three min_three max_four min_four   -- for this text's walks alone
set_option linter.unusedVariables false
set_option linter.unusedSimpArgs false
set_option maxHeartbeats 8000000 in
set_option maxRecDepth 100000 in
theorem rootstocklaw14_DeriveFits.calls (k : Nat) (a0_0 : Int) (a0_1 : Int) (a0_2 : Int) (A0_3 : Option Addr) (c0_3 : Nat) (l0_3 : List (S55)) (a1_0 : Int) (a1_1 : Int) (A1_2 : Option Addr) (c1_2 : Nat) (l1_2 : List (S43)) (r : Bool) (w : World) (hr0_3 : Kd.C k55 w A0_3 l0_3.length l0_3) (hc0_3 : l0_3.length ≤ c0_3) (hr1_2 : Kd.C k43 w A1_2 l1_2.length l1_2) (hc1_2 : l1_2.length ≤ c1_2) (hrt_ : r = true) (h : rootstocklaw14_DeriveFits.f k a0_0 a0_1 a0_2 l0_3 a1_0 a1_1 l1_2 = some r) :
    Calls Try.prog 4 #[.agg #[.int .i64 a0_0, .int .i64 a0_1, .int .i64 a0_2, .slice A0_3 l0_3.length c0_3], .agg #[.int .i64 a1_0, .int .i64 a1_1, .slice A1_2 l1_2.length c1_2]] w fun e w' => e = .returned (.bool r) ∧ Below w.heap.size w w' := by
 have HRT := Aside0.mk hrt_
 clear hrt_
 have hu24 := Try.underlying24
 have hu43 := Try.underlying43
 have HR0_3 := Aside0.mk hr0_3
 have HC0_3 := Aside0.mk hc0_3
 clear hr0_3 hc0_3
 have HR1_2 := Aside0.mk hr1_2
 have HC1_2 := Aside0.mk hc1_2
 clear hr1_2 hc1_2
 have HB := Aside0.mk (Below.refl w.heap.size w)
 have H : ((rootstocklaw14_Great.f k a0_0 a0_1 a0_2 l0_3).bind fun t172 => (if t172 = true then (rootstocklaw14_DeriveFits.j0 k true a0_0 a0_1 a0_2 l0_3 a1_0 a1_1 l1_2) else ((rootstocklaw14_Nodes.f k a1_0 a1_1 l1_2 200).bind fun t173 => (rootstocklaw14_DeriveFits.j0 k (decide (t173 > 200)) a0_0 a0_1 a0_2 l0_3 a1_0 a1_1 l1_2)))) = some r := h
 clear h
 have HC3 := Aside0.mk H
 clear H
 go_enter Try.func4, Try.ntmps4
 go_upto_region 1 with (first | ((with_reducible refine gate_dst (N := 2) rfl ?_); refine box_event ?hg (N := 2) ?hd (cs := #[.int .i64 a0_0, .int .i64 a0_1, .int .i64 a0_2, .slice A0_3 l0_3.length c0_3]) (t := 24) ?hr ?_; (case hd => rfl); (case hg => rfl); (case hr => first | (go_simp; done) | (go_simp; rfl)); intro gb170 hg w4 hbox hb; have n0_ := Aside0.mk (below_step (by repeat (first | (with_reducible first | exact HB.out | apply below_alloc | apply pw_below_drewN | apply below_drew1) | exact HB.out)) hb); have n1_ := Aside0.mk (hbox); have n2_ := Aside0.mk ((by rw [hg]; exact (below_size (by repeat (first | (with_reducible first | exact HB.out | apply below_alloc | apply pw_below_drewN | apply below_drew1) | exact HB.out))) : w.heap.size ≤ gb170)); have n3_ := Aside0.mk ((by rw [hg]; exact (below_size (by repeat (first | (with_reducible first | exact HB.out | apply below_alloc | apply pw_below_drewN | apply below_drew1) | exact HB.out))) : w.heap.size ≤ gb170)); clear HB; have HB := n0_; have BK170 := n1_; have GW170 := n2_; have GE170 := n3_; clear n0_ n1_ n2_ n3_; clear hb hbox hg) | ((with_reducible refine gate_dst (N := 3) rfl ?_); refine box_event ?hg (N := 3) ?hd (cs := #[.int .i64 a1_0, .int .i64 a1_1, .slice A1_2 l1_2.length c1_2]) (t := 43) ?hr ?_; (case hd => rfl); (case hg => rfl); (case hr => first | (go_simp; done) | (go_simp; rfl)); intro gb171 hg w5 hbox hb; have n0_ := Aside0.mk (blk_below (g := gb170) (o := .cells #[.int .i64 a0_0, .int .i64 a0_1, .int .i64 a0_2, .slice A0_3 l0_3.length c0_3] 24 (0, 0)) (by (with_reducible repeat (first | refine blk_drewN ?_ _ | refine blk_drew ?_ | refine blk_alloc ?_ _)); exact BK170.out) hb); have n1_ := Aside0.mk (below_step (by repeat (first | (with_reducible first | exact HB.out | apply below_alloc | apply pw_below_drewN | apply below_drew1 | refine below_set ?_ GE170.out) | exact HB.out)) hb); have n2_ := Aside0.mk (hbox); have n3_ := Aside0.mk ((by rw [hg]; exact (below_size (by repeat (first | (with_reducible first | exact HB.out | apply below_alloc | apply pw_below_drewN | apply below_drew1 | refine below_set ?_ GE170.out) | exact HB.out))) : w.heap.size ≤ gb171)); have n4_ := Aside0.mk ((by rw [hg]; exact (below_size (by repeat (first | (with_reducible first | exact HB.out | apply below_alloc | apply pw_below_drewN | apply below_drew1 | refine below_set ?_ GE170.out) | exact HB.out))) : w.heap.size ≤ gb171)); have n5_ := Aside0.mk ((by rw [hg]; exact Nat.ne_of_lt (blk_lt (g := gb170) (o := .cells #[.int .i64 a0_0, .int .i64 a0_1, .int .i64 a0_2, .slice A0_3 l0_3.length c0_3] 24 (0, 0)) (by (with_reducible repeat (first | refine blk_drewN ?_ _ | refine blk_drew ?_ | refine blk_alloc ?_ _)); exact BK170.out)) : gb170 ≠ gb171)); have n6_ := Aside0.mk ((by rw [hg]; exact Nat.ne_of_gt (blk_lt (g := gb170) (o := .cells #[.int .i64 a0_0, .int .i64 a0_1, .int .i64 a0_2, .slice A0_3 l0_3.length c0_3] 24 (0, 0)) (by (with_reducible repeat (first | refine blk_drewN ?_ _ | refine blk_drew ?_ | refine blk_alloc ?_ _)); exact BK170.out)) : gb171 ≠ gb170)); clear BK170; clear HB; have BK170 := n0_; have HB := n1_; have BK171 := n2_; have GW171 := n3_; have GE171 := n4_; have NB170_171 := n5_; have NB171_170 := n6_; clear n0_ n1_ n2_ n3_ n4_ n5_ n6_; clear hb hbox hg))
 (try simp only [Act.put, List.setIfInBounds_toArray, List.set_cons_zero, List.set_cons_succ])
 go_cut [12] (fun v12 wc => ∃ (kq : Nat) (x12_2 : Bool), v12 = .bool x12_2 ∧ Aside0 (rootstocklaw14_DeriveFits.j0 kq x12_2 a0_0 a0_1 a0_2 l0_3 a1_0 a1_1 l1_2 = some r) ∧ Aside0 (kq ≤ k) ∧ Aside0 (wc.heap[gb170]? = some (.cells #[.int .i64 a0_0, .int .i64 a0_1, .int .i64 a0_2, (.slice A0_3 l0_3.length c0_3)] 24 (0, 0))) ∧ Aside0 (wc.heap[gb171]? = some (.cells #[.int .i64 a1_0, .int .i64 a1_1, (.slice A1_2 l1_2.length c1_2)] 43 (0, 0))) ∧ Aside0 (Below w.heap.size w wc))
 case first =>
  have H := HC3.out
  clear HC3
  replace H := Option.bind_eq_some_iff.mp H
  obtain ⟨t172, A60, H⟩ := H
  replace H : (if t172 = true then (rootstocklaw14_DeriveFits.j0 k true a0_0 a0_1 a0_2 l0_3 a1_0 a1_1 l1_2) else ((rootstocklaw14_Nodes.f k a1_0 a1_1 l1_2 200).bind fun t173 => (rootstocklaw14_DeriveFits.j0 k (decide (t173 > 200)) a0_0 a0_1 a0_2 l0_3 a1_0 a1_1 l1_2))) = some r := H
  have A6 := Aside0.mk A60
  clear A60
  by_cases c7 : t172 = true
  · subst c7
    have H1 : (rootstocklaw14_DeriveFits.j0 k true a0_0 a0_1 a0_2 l0_3 a1_0 a1_1 l1_2) = some r := by rw [if_pos rfl] at H; exact H
    clear H
    have H := H1
    clear H1
    as_aux_lemma =>
     have H' := Aside0.mk H
     clear H
     have hnb8 := NB170_171.out
     have hnc8 := NB171_170.out
     have hcz9_0 : w5.cell? ⟨gb170, 0, none⟩ = some (.int .i64 a0_0) := (blk_cell BK170.out 0).trans rfl
     have hcz9_1 : w5.cell? ⟨gb170, 1, none⟩ = some (.int .i64 a0_1) := (blk_cell BK170.out 1).trans rfl
     have hcz9_2 : w5.cell? ⟨gb170, 2, none⟩ = some (.int .i64 a0_2) := (blk_cell BK170.out 2).trans rfl
     have hcz9_3 : w5.cell? ⟨gb170, 3, none⟩ = some (.slice A0_3 l0_3.length c0_3) := (blk_cell BK170.out 3).trans rfl
     have hfz9_0 := blk_frozen BK170.out 0
     have hfz9_1 := blk_frozen BK170.out 1
     have hfz9_2 := blk_frozen BK170.out 2
     have hfz9_3 := blk_frozen BK170.out 3
     go_wp2_with (((with_reducible refine gate_callee (f := 9) rfl ?_); refine goesL_ (some 7) rfl rfl Try.func9 (by kernel_rfl) rfl #[.agg #[.int .i64 a0_0, .int .i64 a0_1, .int .i64 a0_2, .slice A0_3 l0_3.length c0_3]] rfl (by (try simp only [List.map_toArray, List.map_cons, List.map_nil]); first | done | rfl | (simp only [List.length_drop, List.length_take]; rfl)) ?_; (with_reducible refine (rootstocklaw14_Great.calls k a0_0 a0_1 a0_2 _ _ l0_3 true _ ?side1 ?side2 A6.out).mono ?_); (case side1 => repeat (first | exact (Kd.C_below HR0_3.out HB.out) | (with_reducible refine Kd.C_alloc ?_ _) | (with_reducible refine Kd.C_drewN ?_ _) | (with_reducible refine Kd.C_drew ?_))); (case side2 => exact HC0_3.out); rintro e w10 ⟨rfl, hb⟩; refine ⟨_, rfl, ?_⟩; have n0_ := Aside0.mk (blk_below (g := gb170) (o := .cells #[.int .i64 a0_0, .int .i64 a0_1, .int .i64 a0_2, .slice A0_3 l0_3.length c0_3] 24 (0, 0)) (by (with_reducible repeat (first | refine blk_drewN ?_ _ | refine blk_drew ?_ | refine blk_alloc ?_ _)); exact BK170.out) hb); have n1_ := Aside0.mk (blk_below (g := gb171) (o := .cells #[.int .i64 a1_0, .int .i64 a1_1, .slice A1_2 l1_2.length c1_2] 43 (0, 0)) (by (with_reducible repeat (first | refine blk_drewN ?_ _ | refine blk_drew ?_ | refine blk_alloc ?_ _)); exact BK171.out) hb); have n2_ := Aside0.mk (below_step (by repeat (first | (with_reducible first | exact HB.out | apply below_alloc | apply pw_below_drewN | apply below_drew1 | refine below_set ?_ GE170.out | refine below_set ?_ GE171.out) | exact HB.out)) hb); clear BK170; clear BK171; clear HB; have BK170 := n0_; have BK171 := n1_; have HB := n2_; clear n0_ n1_ n2_; (try clear hb); (try clear hb2); (try clear hk); (try clear hi)))
     go_meet
     case rel => exact ⟨_, (true), (by first | rfl | (simp; done) | (simp [*]; done)), H', ⟨by first | omega | exact Nat.le_refl _⟩, ⟨by (with_reducible repeat (first | refine blk_drewN ?_ _ | refine blk_drew ?_ | refine blk_alloc ?_ _)); exact BK170.out⟩, ⟨by (with_reducible repeat (first | refine blk_drewN ?_ _ | refine blk_drew ?_ | refine blk_alloc ?_ _)); exact BK171.out⟩, ⟨by repeat (first | (with_reducible first | exact HB.out | apply below_alloc | apply pw_below_drewN | apply below_drew1 | refine below_set ?_ GE170.out | refine below_set ?_ GE171.out) | exact HB.out)⟩⟩
  replace c7 := Bool.eq_false_iff.mpr c7
  subst c7
  have H1 : ((rootstocklaw14_Nodes.f k a1_0 a1_1 l1_2 200).bind fun t173 => (rootstocklaw14_DeriveFits.j0 k (decide (t173 > 200)) a0_0 a0_1 a0_2 l0_3 a1_0 a1_1 l1_2)) = some r := by rw [if_neg (show ¬ (false = true) by decide)] at H; exact H
  clear H
  have H := H1
  clear H1
  replace H := Option.bind_eq_some_iff.mp H
  obtain ⟨t173, A110, H⟩ := H
  replace H : (rootstocklaw14_DeriveFits.j0 k (decide (t173 > 200)) a0_0 a0_1 a0_2 l0_3 a1_0 a1_1 l1_2) = some r := H
  have A11 := Aside0.mk A110
  clear A110
  as_aux_lemma =>
   have H' := Aside0.mk H
   clear H
   have hnb12 := NB170_171.out
   have hnc12 := NB171_170.out
   have hcz13_0 : w5.cell? ⟨gb170, 0, none⟩ = some (.int .i64 a0_0) := (blk_cell BK170.out 0).trans rfl
   have hcz13_1 : w5.cell? ⟨gb170, 1, none⟩ = some (.int .i64 a0_1) := (blk_cell BK170.out 1).trans rfl
   have hcz13_2 : w5.cell? ⟨gb170, 2, none⟩ = some (.int .i64 a0_2) := (blk_cell BK170.out 2).trans rfl
   have hcz13_3 : w5.cell? ⟨gb170, 3, none⟩ = some (.slice A0_3 l0_3.length c0_3) := (blk_cell BK170.out 3).trans rfl
   have hfz13_0 := blk_frozen BK170.out 0
   have hfz13_1 := blk_frozen BK170.out 1
   have hfz13_2 := blk_frozen BK170.out 2
   have hfz13_3 := blk_frozen BK170.out 3
   go_wp2_with (first | ((with_reducible refine gate_callee (f := 9) rfl ?_); refine goesL_ (some 7) rfl rfl Try.func9 (by kernel_rfl) rfl #[.agg #[.int .i64 a0_0, .int .i64 a0_1, .int .i64 a0_2, .slice A0_3 l0_3.length c0_3]] rfl (by (try simp only [List.map_toArray, List.map_cons, List.map_nil]); first | done | rfl | (simp only [List.length_drop, List.length_take]; rfl)) ?_; (with_reducible refine (rootstocklaw14_Great.calls k a0_0 a0_1 a0_2 _ _ l0_3 false _ ?side1 ?side2 A6.out).mono ?_); (case side1 => repeat (first | exact (Kd.C_below HR0_3.out HB.out) | (with_reducible refine Kd.C_alloc ?_ _) | (with_reducible refine Kd.C_drewN ?_ _) | (with_reducible refine Kd.C_drew ?_))); (case side2 => exact HC0_3.out); rintro e w14 ⟨rfl, hb⟩; refine ⟨_, rfl, ?_⟩; have n0_ := Aside0.mk (blk_below (g := gb170) (o := .cells #[.int .i64 a0_0, .int .i64 a0_1, .int .i64 a0_2, .slice A0_3 l0_3.length c0_3] 24 (0, 0)) (by (with_reducible repeat (first | refine blk_drewN ?_ _ | refine blk_drew ?_ | refine blk_alloc ?_ _)); exact BK170.out) hb); have n1_ := Aside0.mk (blk_below (g := gb171) (o := .cells #[.int .i64 a1_0, .int .i64 a1_1, .slice A1_2 l1_2.length c1_2] 43 (0, 0)) (by (with_reducible repeat (first | refine blk_drewN ?_ _ | refine blk_drew ?_ | refine blk_alloc ?_ _)); exact BK171.out) hb); have n2_ := Aside0.mk (below_step (by repeat (first | (with_reducible first | exact HB.out | apply below_alloc | apply pw_below_drewN | apply below_drew1 | refine below_set ?_ GE170.out | refine below_set ?_ GE171.out) | exact HB.out)) hb); clear BK170; clear BK171; clear HB; have BK170 := n0_; have BK171 := n1_; have HB := n2_; clear n0_ n1_ n2_; (try clear hb); (try clear hb2); (try clear hk); (try clear hi); have hcz15_0 : w14.cell? ⟨gb171, 0, none⟩ = some (.int .i64 a1_0) := (blk_cell BK171.out 0).trans rfl; have hcz15_1 : w14.cell? ⟨gb171, 1, none⟩ = some (.int .i64 a1_1) := (blk_cell BK171.out 1).trans rfl; have hcz15_2 : w14.cell? ⟨gb171, 2, none⟩ = some (.slice A1_2 l1_2.length c1_2) := (blk_cell BK171.out 2).trans rfl; have hfz15_0 := blk_frozen BK171.out 0; have hfz15_1 := blk_frozen BK171.out 1; have hfz15_2 := blk_frozen BK171.out 2) | (go_at_call 21; (with_reducible refine (rootstocklaw14_Nodes.calls k a1_0 a1_1 _ _ l1_2 200 t173 _ ?side1 ?side2 A11.out).mono ?_); (case side1 => repeat (first | exact (Kd.C_below HR1_2.out HB.out) | (with_reducible refine Kd.C_alloc ?_ _) | (with_reducible refine Kd.C_drewN ?_ _) | (with_reducible refine Kd.C_drew ?_))); (case side2 => exact HC1_2.out); rintro e w16 ⟨rfl, hb⟩; have n0_ := Aside0.mk (blk_below (g := gb170) (o := .cells #[.int .i64 a0_0, .int .i64 a0_1, .int .i64 a0_2, .slice A0_3 l0_3.length c0_3] 24 (0, 0)) (by (with_reducible repeat (first | refine blk_drewN ?_ _ | refine blk_drew ?_ | refine blk_alloc ?_ _)); exact BK170.out) hb); have n1_ := Aside0.mk (blk_below (g := gb171) (o := .cells #[.int .i64 a1_0, .int .i64 a1_1, .slice A1_2 l1_2.length c1_2] 43 (0, 0)) (by (with_reducible repeat (first | refine blk_drewN ?_ _ | refine blk_drew ?_ | refine blk_alloc ?_ _)); exact BK171.out) hb); have n2_ := Aside0.mk (below_step (by repeat (first | (with_reducible first | exact HB.out | apply below_alloc | apply pw_below_drewN | apply below_drew1 | refine below_set ?_ GE170.out | refine below_set ?_ GE171.out) | exact HB.out)) hb); clear BK170; clear BK171; clear HB; have BK170 := n0_; have BK171 := n1_; have HB := n2_; clear n0_ n1_ n2_; (try clear hb); (try clear hb2); (try clear hk); (try clear hi)))
   go_meet
   case rel => exact ⟨_, (decide (t173 > 200)), (by first | rfl | (simp; done) | (simp [*]; done)), H', ⟨by first | omega | exact Nat.le_refl _⟩, ⟨by (with_reducible repeat (first | refine blk_drewN ?_ _ | refine blk_drew ?_ | refine blk_alloc ?_ _)); exact BK170.out⟩, ⟨by (with_reducible repeat (first | refine blk_drewN ?_ _ | refine blk_drew ?_ | refine blk_alloc ?_ _)); exact BK171.out⟩, ⟨by repeat (first | (with_reducible first | exact HB.out | apply below_alloc | apply pw_below_drewN | apply below_drew1 | refine below_set ?_ GE170.out | refine below_set ?_ GE171.out) | exact HB.out)⟩⟩
 case rest =>
  as_aux_lemma =>
   clear HC3
   (try clear c1); (try clear p2); (try clear c4); (try clear c7); (try clear c8); (try clear c9); (try clear c12); (try clear hcz13_0); (try clear hcz13_1); (try clear hcz13_2); (try clear hcz13_3); (try clear hcz15_0); (try clear hcz15_1); (try clear hcz15_2); (try clear hcz9_0); (try clear hcz9_1); (try clear hcz9_2); (try clear hcz9_3); (try clear hfz13_0); (try clear hfz13_1); (try clear hfz13_2); (try clear hfz13_3); (try clear hfz15_0); (try clear hfz15_1); (try clear hfz15_2); (try clear hfz9_0); (try clear hfz9_1); (try clear hfz9_2); (try clear hfz9_3)
   obtain ⟨kq, x12_2, rfl, HA, HJ2, BK170, BK171, HB⟩ := hcut
   cases kq with
   | zero => exact absurd HA.out (by simp [rootstocklaw14_DeriveFits.j0])
   | succ kj2 =>
    have H := HA.out
    clear HA
    simp only [rootstocklaw14_DeriveFits.j0] at H
    by_cases c17 : x12_2 = true
    · subst c17
      have H1 : ((rootstocklaw14_lives.f).bind fun t174 => (some t174)) = some r := by rw [if_pos rfl] at H; exact H
      clear H
      have H := H1
      clear H1
      replace H := Option.bind_eq_some_iff.mp H
      obtain ⟨t174, A180, H⟩ := H
      replace H : (some t174) = some r := H
      have A18 := Aside0.mk A180
      clear A180
      as_aux_lemma =>
       obtain rfl := Option.some.inj H
       go_wp2_with (((with_reducible refine gate_callee (f := 10) rfl ?_); refine goesL_ (some 13) rfl rfl Try.func10 (by kernel_rfl) rfl #[] rfl (by (try simp only [List.map_toArray, List.map_cons, List.map_nil]); first | done | rfl | (simp only [List.length_drop, List.length_take]; rfl)) ?_; (with_reducible refine (rootstocklaw14_lives.calls  t174 _ A18.out).mono ?_); rintro e w19 ⟨rfl, hb⟩; refine ⟨_, rfl, ?_⟩; have n0_ := Aside0.mk (blk_below (g := gb170) (o := .cells #[.int .i64 a0_0, .int .i64 a0_1, .int .i64 a0_2, .slice A0_3 l0_3.length c0_3] 24 (0, 0)) (by (with_reducible repeat (first | refine blk_drewN ?_ _ | refine blk_drew ?_ | refine blk_alloc ?_ _)); exact BK170.out) hb); have n1_ := Aside0.mk (blk_below (g := gb171) (o := .cells #[.int .i64 a1_0, .int .i64 a1_1, .slice A1_2 l1_2.length c1_2] 43 (0, 0)) (by (with_reducible repeat (first | refine blk_drewN ?_ _ | refine blk_drew ?_ | refine blk_alloc ?_ _)); exact BK171.out) hb); have n2_ := Aside0.mk (below_step (by repeat (first | (with_reducible first | exact HB.out | apply below_alloc | apply pw_below_drewN | apply below_drew1 | refine below_set ?_ GE170.out | refine below_set ?_ GE171.out) | exact HB.out)) hb); clear BK170; clear BK171; clear HB; have BK170 := n0_; have BK171 := n1_; have HB := n2_; clear n0_ n1_ n2_; (try clear hb); (try clear hb2); (try clear hk); (try clear hi)))
       go_ret
       exact ⟨by first | rfl | (simp [errW_none, errW_some] <;> rfl) | (simp [*, errW_none, errW_some] <;> rfl), by repeat (first | (with_reducible first | exact HB.out | apply below_alloc | apply pw_below_drewN | apply below_drew1 | refine below_set ?_ GE170.out | refine below_set ?_ GE171.out) | exact HB.out)⟩
    replace c17 := Bool.eq_false_iff.mpr c17
    subst c17
    have H1 : ((rootstocklaw14_CopyGrammar.f kj2 a0_0 a0_1 a0_2 l0_3).bind fun bt175 => ((rootstocklaw14_CopyTree.f kj2 a1_0 a1_1 l1_2).bind fun bt181 => ((derive_Fits.f kj2 bt175.1 bt175.2.1 bt175.2.2.1 bt175.2.2.2 bt181.1 bt181.2.1 bt181.2.2).bind fun t186 => ((rootstockref14_Fits.f kj2 a0_0 a0_1 a0_2 l0_3 a1_0 a1_1 l1_2).bind fun t187 => (if t186 = t187 then ((rootstocklaw14_CopyTree.f kj2 a1_0 a1_1 l1_2).bind fun bt188 => ((derive_Yield.f bt188.1 bt188.2.1 bt188.2.2).bind fun t193 => ((rootstockref14_Yield.f kj2 a1_0 a1_1 l1_2).bind fun t196 => ((rootstocklaw14_SameInts.f kj2 t193 t196).bind fun t199 => (if t199 = true then ((rootstocklaw14_lives.f).bind fun t200 => (some t200)) else (some false)))))) else (some false)))))) = some r := by rw [if_neg (show ¬ (false = true) by decide)] at H; exact H
    clear H
    have H := H1
    clear H1
    replace H := Option.bind_eq_some_iff.mp H
    obtain ⟨⟨t175, t176, t177, t178⟩, A200, H⟩ := H
    replace H : ((rootstocklaw14_CopyTree.f kj2 a1_0 a1_1 l1_2).bind fun bt181 => ((derive_Fits.f kj2 t175 t176 t177 t178 bt181.1 bt181.2.1 bt181.2.2).bind fun t186 => ((rootstockref14_Fits.f kj2 a0_0 a0_1 a0_2 l0_3 a1_0 a1_1 l1_2).bind fun t187 => (if t186 = t187 then ((rootstocklaw14_CopyTree.f kj2 a1_0 a1_1 l1_2).bind fun bt188 => ((derive_Yield.f bt188.1 bt188.2.1 bt188.2.2).bind fun t193 => ((rootstockref14_Yield.f kj2 a1_0 a1_1 l1_2).bind fun t196 => ((rootstocklaw14_SameInts.f kj2 t193 t196).bind fun t199 => (if t199 = true then ((rootstocklaw14_lives.f).bind fun t200 => (some t200)) else (some false)))))) else (some false))))) = some r := H
    have A20 := Aside0.mk A200
    clear A200
    replace H := Option.bind_eq_some_iff.mp H
    obtain ⟨⟨t181, t182, t183⟩, A210, H⟩ := H
    replace H : ((derive_Fits.f kj2 t175 t176 t177 t178 t181 t182 t183).bind fun t186 => ((rootstockref14_Fits.f kj2 a0_0 a0_1 a0_2 l0_3 a1_0 a1_1 l1_2).bind fun t187 => (if t186 = t187 then ((rootstocklaw14_CopyTree.f kj2 a1_0 a1_1 l1_2).bind fun bt188 => ((derive_Yield.f bt188.1 bt188.2.1 bt188.2.2).bind fun t193 => ((rootstockref14_Yield.f kj2 a1_0 a1_1 l1_2).bind fun t196 => ((rootstocklaw14_SameInts.f kj2 t193 t196).bind fun t199 => (if t199 = true then ((rootstocklaw14_lives.f).bind fun t200 => (some t200)) else (some false)))))) else (some false)))) = some r := H
    have A21 := Aside0.mk A210
    clear A210
    replace H := Option.bind_eq_some_iff.mp H
    obtain ⟨t186, A220, H⟩ := H
    replace H : ((rootstockref14_Fits.f kj2 a0_0 a0_1 a0_2 l0_3 a1_0 a1_1 l1_2).bind fun t187 => (if t186 = t187 then ((rootstocklaw14_CopyTree.f kj2 a1_0 a1_1 l1_2).bind fun bt188 => ((derive_Yield.f bt188.1 bt188.2.1 bt188.2.2).bind fun t193 => ((rootstockref14_Yield.f kj2 a1_0 a1_1 l1_2).bind fun t196 => ((rootstocklaw14_SameInts.f kj2 t193 t196).bind fun t199 => (if t199 = true then ((rootstocklaw14_lives.f).bind fun t200 => (some t200)) else (some false)))))) else (some false))) = some r := H
    have A22 := Aside0.mk A220
    clear A220
    replace H := Option.bind_eq_some_iff.mp H
    obtain ⟨t187, A230, H⟩ := H
    replace H : (if t186 = t187 then ((rootstocklaw14_CopyTree.f kj2 a1_0 a1_1 l1_2).bind fun bt188 => ((derive_Yield.f bt188.1 bt188.2.1 bt188.2.2).bind fun t193 => ((rootstockref14_Yield.f kj2 a1_0 a1_1 l1_2).bind fun t196 => ((rootstocklaw14_SameInts.f kj2 t193 t196).bind fun t199 => (if t199 = true then ((rootstocklaw14_lives.f).bind fun t200 => (some t200)) else (some false)))))) else (some false)) = some r := H
    have A23 := Aside0.mk A230
    clear A230
    by_cases c24 : t186 = t187
    rotate_left
    · rw [if_neg c24] at H
      have c24b0 : (t186 == t187) = false := beq_eq_false_iff_ne.mpr c24
      have c24b1 : (t186 != t187) = true := bne_iff_ne.mpr c24
      exact absurd ((Option.some.inj H).trans HRT.out) (by decide)
    rw [if_pos c24] at H
    have c24b0 : (t186 == t187) = true := beq_iff_eq.mpr c24
    have c24b1 : (t186 != t187) = false := bne_eq_false_iff_eq.mpr c24
    clear c24
    replace H := Option.bind_eq_some_iff.mp H
    obtain ⟨⟨t188, t189, t190⟩, A250, H⟩ := H
    replace H : ((derive_Yield.f t188 t189 t190).bind fun t193 => ((rootstockref14_Yield.f kj2 a1_0 a1_1 l1_2).bind fun t196 => ((rootstocklaw14_SameInts.f kj2 t193 t196).bind fun t199 => (if t199 = true then ((rootstocklaw14_lives.f).bind fun t200 => (some t200)) else (some false))))) = some r := H
    have A25 := Aside0.mk A250
    clear A250
    replace H := Option.bind_eq_some_iff.mp H
    obtain ⟨t193, A260, H⟩ := H
    replace H : ((rootstockref14_Yield.f kj2 a1_0 a1_1 l1_2).bind fun t196 => ((rootstocklaw14_SameInts.f kj2 t193 t196).bind fun t199 => (if t199 = true then ((rootstocklaw14_lives.f).bind fun t200 => (some t200)) else (some false)))) = some r := H
    have A26 := Aside0.mk A260
    clear A260
    replace H := Option.bind_eq_some_iff.mp H
    obtain ⟨t196, A270, H⟩ := H
    replace H : ((rootstocklaw14_SameInts.f kj2 t193 t196).bind fun t199 => (if t199 = true then ((rootstocklaw14_lives.f).bind fun t200 => (some t200)) else (some false))) = some r := H
    have A27 := Aside0.mk A270
    clear A270
    replace H := Option.bind_eq_some_iff.mp H
    obtain ⟨t199, A280, H⟩ := H
    replace H : (if t199 = true then ((rootstocklaw14_lives.f).bind fun t200 => (some t200)) else (some false)) = some r := H
    have A28 := Aside0.mk A280
    clear A280
    by_cases c29 : t199 = true
    rotate_left
    · replace c29 := Bool.eq_false_iff.mpr c29
      subst c29
      have H1 : (some false) = some r := by rw [if_neg (show ¬ (false = true) by decide)] at H; exact H
      clear H
      have H := H1
      clear H1
      exact absurd ((Option.some.inj H).trans HRT.out) (by decide)
    subst c29
    have H1 : ((rootstocklaw14_lives.f).bind fun t200 => (some t200)) = some r := by rw [if_pos rfl] at H; exact H
    clear H
    have H := H1
    clear H1
    replace H := Option.bind_eq_some_iff.mp H
    obtain ⟨t200, A300, H⟩ := H
    replace H : (some t200) = some r := H
    have A30 := Aside0.mk A300
    clear A300
    as_aux_lemma =>
     obtain rfl := Option.some.inj H
     try go_wp2
     have n0_ := Aside0.mk (blk_drew BK170.out)
     have n1_ := Aside0.mk (blk_drew BK171.out)
     have n2_ := Aside0.mk (below_drew1 HB.out)
     clear BK170
     clear BK171
     clear HB
     have BK170 := n0_
     have BK171 := n1_
     have HB := n2_
     clear n0_ n1_ n2_
     refine start_ (n := 6) (S := fun w' => w'.cell? ⟨gb170, 0, none⟩ = some (.int .i64 a0_0) ∧ w'.cell? ⟨gb170, 1, none⟩ = some (.int .i64 a0_1) ∧ w'.cell? ⟨gb170, 2, none⟩ = some (.int .i64 a0_2) ∧ w'.cell? ⟨gb170, 3, none⟩ = some (.slice A0_3 l0_3.length c0_3) ∧ w'.cell? ⟨gb171, 0, none⟩ = some (.int .i64 a1_0) ∧ w'.cell? ⟨gb171, 1, none⟩ = some (.int .i64 a1_1) ∧ w'.cell? ⟨gb171, 2, none⟩ = some (.slice A1_2 l1_2.length c1_2)) (ds := []) #[false, false, false, false, false, false] (by kernel_rfl) rfl rfl ⟨(blk_cell BK170.out 0).trans rfl, (blk_cell BK170.out 1).trans rfl, (blk_cell BK170.out 2).trans rfl, (blk_cell BK170.out 3).trans rfl, (blk_cell BK171.out 0).trans rfl, (blk_cell BK171.out 1).trans rfl, (blk_cell BK171.out 2).trans rfl⟩ (fun hHeld => ?_)
     generalize wc.drew = w31 at BK170 BK171 HB hHeld ⊢
     refine take_ (i := 0) (N := some 14) (v := ?_) (a' := ?_) #[true, false, false, false, false, false] rfl rfl (by kernel_rfl) (fun _ _ _ h => h) (Or.inl ⟨by rfl, ?_⟩) hHeld ?_ ?_
     rotate_left
     · rintro w' ⟨s0, s1, s2, s3, s4, s5, s6⟩
       go_simp
       with_reducible rfl
     rotate_left
     · simp only [Act.put, List.setIfInBounds_toArray, List.set_cons_zero, List.set_cons_succ, i64_w, i32_w]
       rfl
     refine take_ (i := 2) (N := some 16) (v := ?_) (a' := ?_) #[true, false, true, false, false, false] rfl rfl (by kernel_rfl) (fun _ _ _ h => h) (Or.inl ⟨by rfl, ?_⟩) hHeld ?_ ?_
     rotate_left
     · rintro w' ⟨s0, s1, s2, s3, s4, s5, s6⟩
       go_simp
       with_reducible rfl
     rotate_left
     · simp only [Act.put, List.setIfInBounds_toArray, List.set_cons_zero, List.set_cons_succ, i64_w, i32_w]
       rfl
     refine one_ (i := 1) (N := some 15) #[true, true, true, false, false, false] rfl rfl (by kernel_rfl) (by decide) (fun K hK => ?_)
     refine goes_ Try.func12 (by kernel_rfl) rfl #[.agg #[.int .i64 a0_0, .int .i64 a0_1, .int .i64 a0_2, .slice A0_3 l0_3.length c0_3]] (by rfl) rfl rfl (by (try simp only [List.map_toArray, List.map_cons, List.map_nil]); first | done | rfl | (simp only [List.length_drop, List.length_take]; rfl)) ?_
     with_reducible refine (rootstocklaw14_CopyGrammar.calls kj2 a0_0 a0_1 a0_2 _ _ l0_3 t175 t176 t177 t178 _ ?side1 ?side2 A20.out).mono ?_
     (case side1 => repeat (first | exact (Kd.C_below HR0_3.out HB.out) | (with_reducible refine Kd.C_alloc ?_ _) | (with_reducible refine Kd.C_drewN ?_ _) | (with_reducible refine Kd.C_drew ?_)))
     (case side2 => exact HC0_3.out)
     rintro e w32 ⟨v179, rfl, ho0, hb⟩
     refine ⟨_, rfl, ?_⟩
     have n0_ := Aside0.mk (Kd.R_lower ho0 (below_size (by repeat (first | (with_reducible first | exact HB.out | apply below_alloc | apply pw_below_drewN | apply below_drew1 | refine below_set ?_ GE170.out | refine below_set ?_ GE171.out) | exact HB.out))))
     have n1_ := Aside0.mk (blk_below (g := gb170) (o := .cells #[.int .i64 a0_0, .int .i64 a0_1, .int .i64 a0_2, .slice A0_3 l0_3.length c0_3] 24 (0, 0)) (by (with_reducible repeat (first | refine blk_drewN ?_ _ | refine blk_drew ?_ | refine blk_alloc ?_ _)); exact BK170.out) hb)
     have n2_ := Aside0.mk (blk_below (g := gb171) (o := .cells #[.int .i64 a1_0, .int .i64 a1_1, .slice A1_2 l1_2.length c1_2] 43 (0, 0)) (by (with_reducible repeat (first | refine blk_drewN ?_ _ | refine blk_drew ?_ | refine blk_alloc ?_ _)); exact BK171.out) hb)
     have n3_ := Aside0.mk (below_step (by repeat (first | (with_reducible first | exact HB.out | apply below_alloc | apply pw_below_drewN | apply below_drew1 | refine below_set ?_ GE170.out | refine below_set ?_ GE171.out) | exact HB.out)) hb)
     clear BK170
     clear BK171
     clear HB
     have HO180 := n0_
     have BK170 := n1_
     have BK171 := n2_
     have HB := n3_
     clear n0_ n1_ n2_ n3_
     (try clear hb)
     (try clear hb2)
     (try clear hk)
     (try clear hi)
     (try clear ho0)
     refine hK.out _ _ ⟨(blk_cell BK170.out 0).trans rfl, (blk_cell BK170.out 1).trans rfl, (blk_cell BK170.out 2).trans rfl, (blk_cell BK170.out 3).trans rfl, (blk_cell BK171.out 0).trans rfl, (blk_cell BK171.out 1).trans rfl, (blk_cell BK171.out 2).trans rfl⟩ (fun hHeld => ?_)
     clear hK K
     refine norm_ (a' := ?_) ?_ ?_
     rotate_left
     · show Act.put _ (some 15) _ = _
       simp only [Act.put, List.setIfInBounds_toArray, List.set_cons_zero, List.set_cons_succ, i64_w, i32_w]
       rfl
     refine one_ (i := 3) (N := some 17) #[true, true, true, true, false, false] rfl rfl (by kernel_rfl) (by decide) (fun K hK => ?_)
     refine goes_ Try.func23 (by kernel_rfl) rfl #[.agg #[.int .i64 a1_0, .int .i64 a1_1, .slice A1_2 l1_2.length c1_2]] (by rfl) rfl rfl (by (try simp only [List.map_toArray, List.map_cons, List.map_nil]); first | done | rfl | (simp only [List.length_drop, List.length_take]; rfl)) ?_
     with_reducible refine (rootstocklaw14_CopyTree.calls kj2 a1_0 a1_1 _ _ l1_2 t181 t182 t183 _ ?side1 ?side2 A21.out).mono ?_
     (case side1 => repeat (first | exact (Kd.C_below HR1_2.out HB.out) | (with_reducible refine Kd.C_alloc ?_ _) | (with_reducible refine Kd.C_drewN ?_ _) | (with_reducible refine Kd.C_drew ?_)))
     (case side2 => exact HC1_2.out)
     rintro e w33 ⟨v184, rfl, ho0, hb⟩
     refine ⟨_, rfl, ?_⟩
     have n0_ := Aside0.mk (Kd.R_below (by (with_reducible repeat (first | apply Kd.R_alloc | apply Kd.R_drewN | apply Kd.R_drew)); exact HO180.out) hb)
     have n1_ := Aside0.mk (Kd.R_lower (Kd.R_newB ho0 (g := gb171) (o := .cells #[.int .i64 a1_0, .int .i64 a1_1, .slice A1_2 l1_2.length c1_2] 43 (0, 0)) (by (with_reducible repeat (first | refine blk_drewN ?_ _ | refine blk_drew ?_ | refine blk_alloc ?_ _)); exact BK171.out)) (below_size (by repeat (first | (with_reducible first | exact HB.out | apply below_alloc | apply pw_below_drewN | apply below_drew1 | refine below_set ?_ GE170.out | refine below_set ?_ GE171.out) | exact HB.out))))
     have n2_ := Aside0.mk (blk_below (g := gb170) (o := .cells #[.int .i64 a0_0, .int .i64 a0_1, .int .i64 a0_2, .slice A0_3 l0_3.length c0_3] 24 (0, 0)) (by (with_reducible repeat (first | refine blk_drewN ?_ _ | refine blk_drew ?_ | refine blk_alloc ?_ _)); exact BK170.out) hb)
     have n3_ := Aside0.mk (blk_below (g := gb171) (o := .cells #[.int .i64 a1_0, .int .i64 a1_1, .slice A1_2 l1_2.length c1_2] 43 (0, 0)) (by (with_reducible repeat (first | refine blk_drewN ?_ _ | refine blk_drew ?_ | refine blk_alloc ?_ _)); exact BK171.out) hb)
     have n4_ := Aside0.mk (below_step (by repeat (first | (with_reducible first | exact HB.out | apply below_alloc | apply pw_below_drewN | apply below_drew1 | refine below_set ?_ GE170.out | refine below_set ?_ GE171.out) | exact HB.out)) hb)
     clear HO180
     clear BK170
     clear BK171
     clear HB
     have HO180 := n0_
     have HO185 := n1_
     have BK170 := n2_
     have BK171 := n3_
     have HB := n4_
     clear n0_ n1_ n2_ n3_ n4_
     (try clear hb)
     (try clear hb2)
     (try clear hk)
     (try clear hi)
     (try clear ho0)
     obtain ⟨Ao34, co34, eo34⟩ := Kd.R_slice HO180.out
     (first | subst eo34 | (injection eo34 with f1_ f2_ f3_; have f4_ := f1_.symm; have f5_ := f3_.symm; clear f1_ f2_ f3_; subst f4_; subst f5_))
     obtain ⟨Ao35, co35, eo35⟩ := Kd.R_slice HO185.out
     (first | subst eo35 | (injection eo35 with f1_ f2_ f3_; have f4_ := f1_.symm; have f5_ := f3_.symm; clear f1_ f2_ f3_; subst f4_; subst f5_))
     refine hK.out _ _ ⟨(blk_cell BK170.out 0).trans rfl, (blk_cell BK170.out 1).trans rfl, (blk_cell BK170.out 2).trans rfl, (blk_cell BK170.out 3).trans rfl, (blk_cell BK171.out 0).trans rfl, (blk_cell BK171.out 1).trans rfl, (blk_cell BK171.out 2).trans rfl⟩ (fun hHeld => ?_)
     clear hK K
     refine norm_ (a' := ?_) ?_ ?_
     rotate_left
     · show Act.put _ (some 17) _ = _
       simp only [Act.put, List.setIfInBounds_toArray, List.set_cons_zero, List.set_cons_succ, i64_w, i32_w]
       rfl
     refine one_ (i := 4) (N := some 18) #[true, true, true, true, true, false] rfl rfl (by kernel_rfl) (by decide) (fun K hK => ?_)
     refine goes_ Try.func22 (by kernel_rfl) rfl #[.agg #[.int .i64 t175, .int .i64 t176, .int .i64 t177, .slice Ao34 t178.length co34], .agg #[.int .i64 t181, .int .i64 t182, .slice Ao35 t183.length co35]] (by rfl) rfl rfl (by (try simp only [List.map_toArray, List.map_cons, List.map_nil]); first | done | rfl | (simp only [List.length_drop, List.length_take]; rfl)) ?_
     with_reducible refine (derive_Fits.calls kj2 t175 t176 t177 _ _ t178 t181 t182 _ _ t183 t186 _ ?side1 ?side2 ?side3 ?side4 A22.out).mono ?_
     (case side1 => repeat (first | exact (Kd.R_reads' HO180.out).2.2 | (with_reducible refine Kd.C_alloc ?_ _) | (with_reducible refine Kd.C_drewN ?_ _) | (with_reducible refine Kd.C_drew ?_)))
     (case side2 => exact (Kd.R_reads' HO180.out).2.1)
     (case side3 => repeat (first | exact (Kd.R_reads' HO185.out).2.2 | (with_reducible refine Kd.C_alloc ?_ _) | (with_reducible refine Kd.C_drewN ?_ _) | (with_reducible refine Kd.C_drew ?_)))
     (case side4 => exact (Kd.R_reads' HO185.out).2.1)
     rintro e w36 ⟨rfl, hb⟩
     refine ⟨_, rfl, ?_⟩
     have n0_ := Aside0.mk (Kd.R_below (by (with_reducible repeat (first | apply Kd.R_alloc | apply Kd.R_drewN | apply Kd.R_drew)); exact HO180.out) hb)
     have n1_ := Aside0.mk (Kd.R_below (by (with_reducible repeat (first | apply Kd.R_alloc | apply Kd.R_drewN | apply Kd.R_drew)); exact HO185.out) hb)
     have n2_ := Aside0.mk (blk_below (g := gb170) (o := .cells #[.int .i64 a0_0, .int .i64 a0_1, .int .i64 a0_2, .slice A0_3 l0_3.length c0_3] 24 (0, 0)) (by (with_reducible repeat (first | refine blk_drewN ?_ _ | refine blk_drew ?_ | refine blk_alloc ?_ _)); exact BK170.out) hb)
     have n3_ := Aside0.mk (blk_below (g := gb171) (o := .cells #[.int .i64 a1_0, .int .i64 a1_1, .slice A1_2 l1_2.length c1_2] 43 (0, 0)) (by (with_reducible repeat (first | refine blk_drewN ?_ _ | refine blk_drew ?_ | refine blk_alloc ?_ _)); exact BK171.out) hb)
     have n4_ := Aside0.mk (below_step (by repeat (first | (with_reducible first | exact HB.out | apply below_alloc | apply pw_below_drewN | apply below_drew1 | refine below_set ?_ GE170.out | refine below_set ?_ GE171.out) | exact HB.out)) hb)
     clear HO180
     clear HO185
     clear BK170
     clear BK171
     clear HB
     have HO180 := n0_
     have HO185 := n1_
     have BK170 := n2_
     have BK171 := n3_
     have HB := n4_
     clear n0_ n1_ n2_ n3_ n4_
     (try clear hb)
     (try clear hb2)
     (try clear hk)
     (try clear hi)
     refine hK.out _ _ ⟨(blk_cell BK170.out 0).trans rfl, (blk_cell BK170.out 1).trans rfl, (blk_cell BK170.out 2).trans rfl, (blk_cell BK170.out 3).trans rfl, (blk_cell BK171.out 0).trans rfl, (blk_cell BK171.out 1).trans rfl, (blk_cell BK171.out 2).trans rfl⟩ (fun hHeld => ?_)
     clear hK K
     refine norm_ (a' := ?_) ?_ ?_
     rotate_left
     · show Act.put _ (some 18) _ = _
       simp only [Act.put, List.setIfInBounds_toArray, List.set_cons_zero, List.set_cons_succ, i64_w, i32_w]
       rfl
     refine pure_ (i := 5) (N := some 5) (v := ?_) (a' := ?_) #[true, true, true, true, true, true] rfl rfl (by kernel_rfl) (fun _ _ _ h => h) (Or.inl ⟨by rfl, ?_⟩) ?_ ?_
     rotate_left
     · intro w'
       go_simp
       with_reducible rfl
     rotate_left
     · simp only [Act.put, List.setIfInBounds_toArray, List.set_cons_zero, List.set_cons_succ, i64_w, i32_w]
       rfl
     refine done_ (by kernel_rfl) ?_
     try go_wp2
     have n0_ := Aside0.mk (Kd.R_drew HO180.out)
     have n1_ := Aside0.mk (Kd.R_drew HO185.out)
     have n2_ := Aside0.mk (blk_drew BK170.out)
     have n3_ := Aside0.mk (blk_drew BK171.out)
     have n4_ := Aside0.mk (below_drew1 HB.out)
     clear HO180
     clear HO185
     clear BK170
     clear BK171
     clear HB
     have HO180 := n0_
     have HO185 := n1_
     have BK170 := n2_
     have BK171 := n3_
     have HB := n4_
     clear n0_ n1_ n2_ n3_ n4_
     refine start_ (n := 17) (S := fun w' => w'.cell? ⟨gb170, 0, none⟩ = some (.int .i64 a0_0) ∧ w'.cell? ⟨gb170, 1, none⟩ = some (.int .i64 a0_1) ∧ w'.cell? ⟨gb170, 2, none⟩ = some (.int .i64 a0_2) ∧ w'.cell? ⟨gb170, 3, none⟩ = some (.slice A0_3 l0_3.length c0_3) ∧ w'.cell? ⟨gb171, 0, none⟩ = some (.int .i64 a1_0) ∧ w'.cell? ⟨gb171, 1, none⟩ = some (.int .i64 a1_1) ∧ w'.cell? ⟨gb171, 2, none⟩ = some (.slice A1_2 l1_2.length c1_2)) (ds := []) #[false, false, false, false, false, false, false, false, false, false, false, false, false, false, false, false, false] (by kernel_rfl) rfl rfl ⟨(blk_cell BK170.out 0).trans rfl, (blk_cell BK170.out 1).trans rfl, (blk_cell BK170.out 2).trans rfl, (blk_cell BK170.out 3).trans rfl, (blk_cell BK171.out 0).trans rfl, (blk_cell BK171.out 1).trans rfl, (blk_cell BK171.out 2).trans rfl⟩ (fun hHeld => ?_); refine with_tabW rootstocklaw14_DeriveFits.tab4 rootstocklaw14_DeriveFits.bits4 (fun HT_ HW_ => ?_)
     generalize w36.drew = w37 at HO180 HO185 BK170 BK171 HB hHeld ⊢
     refine pure_ (i := 0) (N := some 19) (v := ?_) (a' := ?_) #[true, false, false, false, false, false, false, false, false, false, false, false, false, false, false, false, false] rfl rfl (any_of HT_.out (by kernel_rfl)) (fun _ _ _ h => h) (Or.inl ⟨by rfl, ?_⟩) ?_ ?_
     rotate_left
     · intro w'
       go_simp
       with_reducible rfl
     rotate_left
     · simp only [Act.put, List.setIfInBounds_toArray, List.set_cons_zero, List.set_cons_succ, i64_w, i32_w]
       rfl
     refine take_ (i := 1) (N := some 20) (v := ?_) (a' := ?_) #[true, true, false, false, false, false, false, false, false, false, false, false, false, false, false, false, false] rfl rfl (take_ofW HT_.out HW_.out (by kernel_rfl)) (fun _ _ _ h => h) (Or.inl ⟨by rfl, ?_⟩) hHeld ?_ ?_
     rotate_left
     · rintro w' ⟨s0, s1, s2, s3, s4, s5, s6⟩
       go_simp
       with_reducible rfl
     rotate_left
     · simp only [Act.put, List.setIfInBounds_toArray, List.set_cons_zero, List.set_cons_succ, i64_w, i32_w]
       rfl
     refine take_ (i := 2) (N := some 21) (v := ?_) (a' := ?_) #[true, true, true, false, false, false, false, false, false, false, false, false, false, false, false, false, false] rfl rfl (take_ofW HT_.out HW_.out (by kernel_rfl)) (fun _ _ _ h => h) (Or.inl ⟨by rfl, ?_⟩) hHeld ?_ ?_
     rotate_left
     · rintro w' ⟨s0, s1, s2, s3, s4, s5, s6⟩
       go_simp
       with_reducible rfl
     rotate_left
     · simp only [Act.put, List.setIfInBounds_toArray, List.set_cons_zero, List.set_cons_succ, i64_w, i32_w]
       rfl
     refine one_ (i := 3) (N := some 22) #[true, true, true, true, false, false, false, false, false, false, false, false, false, false, false, false, false] rfl rfl (one_of HT_.out (by kernel_rfl)) (by decide) (fun K hK => ?_)
     refine goes_ Try.func24 (by kernel_rfl) rfl #[.agg #[.int .i64 a0_0, .int .i64 a0_1, .int .i64 a0_2, .slice A0_3 l0_3.length c0_3], .agg #[.int .i64 a1_0, .int .i64 a1_1, .slice A1_2 l1_2.length c1_2]] (by rfl) rfl rfl (by (try simp only [List.map_toArray, List.map_cons, List.map_nil]); first | done | rfl | (simp only [List.length_drop, List.length_take]; rfl)) ?_
     with_reducible refine (rootstockref14_Fits.calls kj2 a0_0 a0_1 a0_2 _ _ l0_3 a1_0 a1_1 _ _ l1_2 t187 _ ?side1 ?side2 ?side3 ?side4 A23.out).mono ?_
     (case side1 => repeat (first | exact (Kd.C_below HR0_3.out HB.out) | (with_reducible refine Kd.C_alloc ?_ _) | (with_reducible refine Kd.C_drewN ?_ _) | (with_reducible refine Kd.C_drew ?_)))
     (case side2 => exact HC0_3.out)
     (case side3 => repeat (first | exact (Kd.C_below HR1_2.out HB.out) | (with_reducible refine Kd.C_alloc ?_ _) | (with_reducible refine Kd.C_drewN ?_ _) | (with_reducible refine Kd.C_drew ?_)))
     (case side4 => exact HC1_2.out)
     rintro e w38 ⟨rfl, hb⟩
     refine ⟨_, rfl, ?_⟩
     have n0_ := Aside0.mk (Kd.R_below (by (with_reducible repeat (first | apply Kd.R_alloc | apply Kd.R_drewN | apply Kd.R_drew)); exact HO180.out) hb)
     have n1_ := Aside0.mk (Kd.R_below (by (with_reducible repeat (first | apply Kd.R_alloc | apply Kd.R_drewN | apply Kd.R_drew)); exact HO185.out) hb)
     have n2_ := Aside0.mk (blk_below (g := gb170) (o := .cells #[.int .i64 a0_0, .int .i64 a0_1, .int .i64 a0_2, .slice A0_3 l0_3.length c0_3] 24 (0, 0)) (by (with_reducible repeat (first | refine blk_drewN ?_ _ | refine blk_drew ?_ | refine blk_alloc ?_ _)); exact BK170.out) hb)
     have n3_ := Aside0.mk (blk_below (g := gb171) (o := .cells #[.int .i64 a1_0, .int .i64 a1_1, .slice A1_2 l1_2.length c1_2] 43 (0, 0)) (by (with_reducible repeat (first | refine blk_drewN ?_ _ | refine blk_drew ?_ | refine blk_alloc ?_ _)); exact BK171.out) hb)
     have n4_ := Aside0.mk (below_step (by repeat (first | (with_reducible first | exact HB.out | apply below_alloc | apply pw_below_drewN | apply below_drew1 | refine below_set ?_ GE170.out | refine below_set ?_ GE171.out) | exact HB.out)) hb)
     clear HO180
     clear HO185
     clear BK170
     clear BK171
     clear HB
     have HO180 := n0_
     have HO185 := n1_
     have BK170 := n2_
     have BK171 := n3_
     have HB := n4_
     clear n0_ n1_ n2_ n3_ n4_
     (try clear hb)
     (try clear hb2)
     (try clear hk)
     (try clear hi)
     refine hK.out _ _ ⟨(blk_cell BK170.out 0).trans rfl, (blk_cell BK170.out 1).trans rfl, (blk_cell BK170.out 2).trans rfl, (blk_cell BK170.out 3).trans rfl, (blk_cell BK171.out 0).trans rfl, (blk_cell BK171.out 1).trans rfl, (blk_cell BK171.out 2).trans rfl⟩ (fun hHeld => ?_)
     clear hK K
     refine norm_ (a' := ?_) ?_ ?_
     rotate_left
     · show Act.put _ (some 22) _ = _
       simp only [Act.put, List.setIfInBounds_toArray, List.set_cons_zero, List.set_cons_succ, i64_w, i32_w]
       rfl
     refine pure_ (i := 4) (N := some 23) (v := ?_) (a' := ?_) #[true, true, true, true, true, false, false, false, false, false, false, false, false, false, false, false, false] rfl rfl (any_of HT_.out (by kernel_rfl)) (fun _ _ _ h => h) (Or.inl ⟨by rfl, ?_⟩) ?_ ?_
     rotate_left
     · intro w'
       go_simp
       with_reducible rfl
     rotate_left
     · simp only [Act.put, List.setIfInBounds_toArray, List.set_cons_zero, List.set_cons_succ, i64_w, i32_w]
       rfl
     refine pure_ (i := 5) (N := some 24) (v := ?_) (a' := ?_) #[true, true, true, true, true, true, false, false, false, false, false, false, false, false, false, false, false] rfl rfl (any_of HT_.out (by kernel_rfl)) (fun _ _ _ h => h) (Or.inl ⟨by rfl, ?_⟩) ?_ ?_
     rotate_left
     · intro w'
       go_simp
       with_reducible rfl
     rotate_left
     · simp only [Act.put, List.setIfInBounds_toArray, List.set_cons_zero, List.set_cons_succ, i64_w, i32_w]
       rfl
     refine take_ (i := 6) (N := some 25) (v := ?_) (a' := ?_) #[true, true, true, true, true, true, true, false, false, false, false, false, false, false, false, false, false] rfl rfl (take_ofW HT_.out HW_.out (by kernel_rfl)) (fun _ _ _ h => h) (Or.inl ⟨by rfl, ?_⟩) hHeld ?_ ?_
     rotate_left
     · rintro w' ⟨s0, s1, s2, s3, s4, s5, s6⟩
       go_simp
       with_reducible rfl
     rotate_left
     · simp only [Act.put, List.setIfInBounds_toArray, List.set_cons_zero, List.set_cons_succ, i64_w, i32_w]
       rfl
     refine take_ (i := 9) (N := some 28) (v := ?_) (a' := ?_) #[true, true, true, true, true, true, true, false, false, true, false, false, false, false, false, false, false] rfl rfl (take_ofW HT_.out HW_.out (by kernel_rfl)) (fun _ _ _ h => h) (Or.inl ⟨by rfl, ?_⟩) hHeld ?_ ?_
     rotate_left
     · rintro w' ⟨s0, s1, s2, s3, s4, s5, s6⟩
       go_simp
       with_reducible rfl
     rotate_left
     · simp only [Act.put, List.setIfInBounds_toArray, List.set_cons_zero, List.set_cons_succ, i64_w, i32_w]
       rfl
     refine one_ (i := 7) (N := some 26) #[true, true, true, true, true, true, true, true, false, true, false, false, false, false, false, false, false] rfl rfl (one_of HT_.out (by kernel_rfl)) (by decide) (fun K hK => ?_)
     refine goes_ Try.func23 (by kernel_rfl) rfl #[.agg #[.int .i64 a1_0, .int .i64 a1_1, .slice A1_2 l1_2.length c1_2]] (by rfl) rfl rfl (by (try simp only [List.map_toArray, List.map_cons, List.map_nil]); first | done | rfl | (simp only [List.length_drop, List.length_take]; rfl)) ?_
     with_reducible refine (rootstocklaw14_CopyTree.calls kj2 a1_0 a1_1 _ _ l1_2 t188 t189 t190 _ ?side1 ?side2 A25.out).mono ?_
     (case side1 => repeat (first | exact (Kd.C_below HR1_2.out HB.out) | (with_reducible refine Kd.C_alloc ?_ _) | (with_reducible refine Kd.C_drewN ?_ _) | (with_reducible refine Kd.C_drew ?_)))
     (case side2 => exact HC1_2.out)
     rintro e w39 ⟨v191, rfl, ho0, hb⟩
     refine ⟨_, rfl, ?_⟩
     have n0_ := Aside0.mk (Kd.R_below (by (with_reducible repeat (first | apply Kd.R_alloc | apply Kd.R_drewN | apply Kd.R_drew)); exact HO180.out) hb)
     have n1_ := Aside0.mk (Kd.R_elder' (by (with_reducible repeat (first | apply Kd.R_alloc | apply Kd.R_drewN | apply Kd.R_drew)); exact HO185.out) (Kd.R_base ho0) hb)
     have n2_ := Aside0.mk (Kd.R_lower (Kd.R_newB (Kd.R_new' ho0 (Kd.R_lt (by (with_reducible repeat (first | apply Kd.R_alloc | apply Kd.R_drewN | apply Kd.R_drew)); exact HO185.out))) (g := gb171) (o := .cells #[.int .i64 a1_0, .int .i64 a1_1, .slice A1_2 l1_2.length c1_2] 43 (0, 0)) (by (with_reducible repeat (first | refine blk_drewN ?_ _ | refine blk_drew ?_ | refine blk_alloc ?_ _)); exact BK171.out)) (below_size (by repeat (first | (with_reducible first | exact HB.out | apply below_alloc | apply pw_below_drewN | apply below_drew1 | refine below_set ?_ GE170.out | refine below_set ?_ GE171.out) | exact HB.out))))
     have n3_ := Aside0.mk (blk_below (g := gb170) (o := .cells #[.int .i64 a0_0, .int .i64 a0_1, .int .i64 a0_2, .slice A0_3 l0_3.length c0_3] 24 (0, 0)) (by (with_reducible repeat (first | refine blk_drewN ?_ _ | refine blk_drew ?_ | refine blk_alloc ?_ _)); exact BK170.out) hb)
     have n4_ := Aside0.mk (blk_below (g := gb171) (o := .cells #[.int .i64 a1_0, .int .i64 a1_1, .slice A1_2 l1_2.length c1_2] 43 (0, 0)) (by (with_reducible repeat (first | refine blk_drewN ?_ _ | refine blk_drew ?_ | refine blk_alloc ?_ _)); exact BK171.out) hb)
     have n5_ := Aside0.mk (below_step (by repeat (first | (with_reducible first | exact HB.out | apply below_alloc | apply pw_below_drewN | apply below_drew1 | refine below_set ?_ GE170.out | refine below_set ?_ GE171.out) | exact HB.out)) hb)
     clear HO180
     clear HO185
     clear BK170
     clear BK171
     clear HB
     have HO180 := n0_
     have HO185 := n1_
     have HO192 := n2_
     have BK170 := n3_
     have BK171 := n4_
     have HB := n5_
     clear n0_ n1_ n2_ n3_ n4_ n5_
     (try clear hb)
     (try clear hb2)
     (try clear hk)
     (try clear hi)
     (try clear ho0)
     obtain ⟨Ao40, co40, eo40⟩ := Kd.R_slice HO192.out
     (first | subst eo40 | (injection eo40 with f1_ f2_ f3_; have f4_ := f1_.symm; have f5_ := f3_.symm; clear f1_ f2_ f3_; subst f4_; subst f5_))
     refine hK.out _ _ ⟨(blk_cell BK170.out 0).trans rfl, (blk_cell BK170.out 1).trans rfl, (blk_cell BK170.out 2).trans rfl, (blk_cell BK170.out 3).trans rfl, (blk_cell BK171.out 0).trans rfl, (blk_cell BK171.out 1).trans rfl, (blk_cell BK171.out 2).trans rfl⟩ (fun hHeld => ?_)
     clear hK K
     refine norm_ (a' := ?_) ?_ ?_
     rotate_left
     · show Act.put _ (some 26) _ = _
       simp only [Act.put, List.setIfInBounds_toArray, List.set_cons_zero, List.set_cons_succ, i64_w, i32_w]
       rfl
     refine one_ (i := 8) (N := some 27) #[true, true, true, true, true, true, true, true, true, true, false, false, false, false, false, false, false] rfl rfl (one_of HT_.out (by kernel_rfl)) (by decide) (fun K hK => ?_)
     refine goes_ Try.func26 (by kernel_rfl) rfl #[.agg #[.int .i64 t188, .int .i64 t189, .slice Ao40 t190.length co40]] (by rfl) rfl rfl (by (try simp only [List.map_toArray, List.map_cons, List.map_nil]); first | done | rfl | (simp only [List.length_drop, List.length_take]; rfl)) ?_
     with_reducible refine (derive_Yield.calls t188 t189 _ _ t190 t193 _ ?side1 ?side2 A26.out).mono ?_
     (case side1 => repeat (first | exact (Kd.R_reads' HO192.out).2.2 | (with_reducible refine Kd.C_alloc ?_ _) | (with_reducible refine Kd.C_drewN ?_ _) | (with_reducible refine Kd.C_drew ?_)))
     (case side2 => exact (Kd.R_reads' HO192.out).2.1)
     rintro e w41 ⟨v194, rfl, ho0, hb⟩
     refine ⟨_, rfl, ?_⟩
     have n0_ := Aside0.mk (Kd.R_elder' (by (with_reducible repeat (first | apply Kd.R_alloc | apply Kd.R_drewN | apply Kd.R_drew)); exact HO180.out) (Kd.R_base ho0) hb)
     have n1_ := Aside0.mk (Kd.R_below (by (with_reducible repeat (first | apply Kd.R_alloc | apply Kd.R_drewN | apply Kd.R_drew)); exact HO185.out) hb)
     have n2_ := Aside0.mk (Kd.R_below (by (with_reducible repeat (first | apply Kd.R_alloc | apply Kd.R_drewN | apply Kd.R_drew)); exact HO192.out) hb)
     have n3_ := Aside0.mk (Kd.R_lower ho0 (below_size (by repeat (first | (with_reducible first | exact HB.out | apply below_alloc | apply pw_below_drewN | apply below_drew1 | refine below_set ?_ GE170.out | refine below_set ?_ GE171.out) | exact HB.out))))
     have n4_ := Aside0.mk (blk_below (g := gb170) (o := .cells #[.int .i64 a0_0, .int .i64 a0_1, .int .i64 a0_2, .slice A0_3 l0_3.length c0_3] 24 (0, 0)) (by (with_reducible repeat (first | refine blk_drewN ?_ _ | refine blk_drew ?_ | refine blk_alloc ?_ _)); exact BK170.out) hb)
     have n5_ := Aside0.mk (blk_below (g := gb171) (o := .cells #[.int .i64 a1_0, .int .i64 a1_1, .slice A1_2 l1_2.length c1_2] 43 (0, 0)) (by (with_reducible repeat (first | refine blk_drewN ?_ _ | refine blk_drew ?_ | refine blk_alloc ?_ _)); exact BK171.out) hb)
     have n6_ := Aside0.mk (below_step (by repeat (first | (with_reducible first | exact HB.out | apply below_alloc | apply pw_below_drewN | apply below_drew1 | refine below_set ?_ GE170.out | refine below_set ?_ GE171.out) | exact HB.out)) hb)
     clear HO180
     clear HO185
     clear HO192
     clear BK170
     clear BK171
     clear HB
     have HO180 := n0_
     have HO185 := n1_
     have HO192 := n2_
     have HO195 := n3_
     have BK170 := n4_
     have BK171 := n5_
     have HB := n6_
     clear n0_ n1_ n2_ n3_ n4_ n5_ n6_
     (try clear hb)
     (try clear hb2)
     (try clear hk)
     (try clear hi)
     (try clear ho0)
     refine hK.out _ _ ⟨(blk_cell BK170.out 0).trans rfl, (blk_cell BK170.out 1).trans rfl, (blk_cell BK170.out 2).trans rfl, (blk_cell BK170.out 3).trans rfl, (blk_cell BK171.out 0).trans rfl, (blk_cell BK171.out 1).trans rfl, (blk_cell BK171.out 2).trans rfl⟩ (fun hHeld => ?_)
     clear hK K
     refine norm_ (a' := ?_) ?_ ?_
     rotate_left
     · show Act.put _ (some 27) _ = _
       simp only [Act.put, List.setIfInBounds_toArray, List.set_cons_zero, List.set_cons_succ, i64_w, i32_w]
       rfl
     refine one_ (i := 10) (N := some 29) #[true, true, true, true, true, true, true, true, true, true, true, false, false, false, false, false, false] rfl rfl (one_of HT_.out (by kernel_rfl)) (by decide) (fun K hK => ?_)
     refine goes_ Try.func27 (by kernel_rfl) rfl #[.agg #[.int .i64 a1_0, .int .i64 a1_1, .slice A1_2 l1_2.length c1_2]] (by rfl) rfl rfl (by (try simp only [List.map_toArray, List.map_cons, List.map_nil]); first | done | rfl | (simp only [List.length_drop, List.length_take]; rfl)) ?_
     with_reducible refine (rootstockref14_Yield.calls kj2 a1_0 a1_1 _ _ l1_2 t196 _ ?side1 ?side2 A27.out).mono ?_
     (case side1 => repeat (first | exact (Kd.C_below HR1_2.out HB.out) | (with_reducible refine Kd.C_alloc ?_ _) | (with_reducible refine Kd.C_drewN ?_ _) | (with_reducible refine Kd.C_drew ?_)))
     (case side2 => exact HC1_2.out)
     rintro e w42 ⟨v197, rfl, ho0, hb⟩
     refine ⟨_, rfl, ?_⟩
     have n0_ := Aside0.mk (Kd.R_elder' (by (with_reducible repeat (first | apply Kd.R_alloc | apply Kd.R_drewN | apply Kd.R_drew)); exact HO180.out) (Kd.R_base ho0) hb)
     have n1_ := Aside0.mk (Kd.R_below (by (with_reducible repeat (first | apply Kd.R_alloc | apply Kd.R_drewN | apply Kd.R_drew)); exact HO185.out) hb)
     have n2_ := Aside0.mk (Kd.R_below (by (with_reducible repeat (first | apply Kd.R_alloc | apply Kd.R_drewN | apply Kd.R_drew)); exact HO192.out) hb)
     have n3_ := Aside0.mk (Kd.R_elder' (by (with_reducible repeat (first | apply Kd.R_alloc | apply Kd.R_drewN | apply Kd.R_drew)); exact HO195.out) (Kd.R_base ho0) hb)
     have n4_ := Aside0.mk (Kd.R_lower (Kd.R_new' ho0 (Kd.R_lt (by (with_reducible repeat (first | apply Kd.R_alloc | apply Kd.R_drewN | apply Kd.R_drew)); exact HO195.out))) (below_size (by repeat (first | (with_reducible first | exact HB.out | apply below_alloc | apply pw_below_drewN | apply below_drew1 | refine below_set ?_ GE170.out | refine below_set ?_ GE171.out) | exact HB.out))))
     have n5_ := Aside0.mk (blk_below (g := gb170) (o := .cells #[.int .i64 a0_0, .int .i64 a0_1, .int .i64 a0_2, .slice A0_3 l0_3.length c0_3] 24 (0, 0)) (by (with_reducible repeat (first | refine blk_drewN ?_ _ | refine blk_drew ?_ | refine blk_alloc ?_ _)); exact BK170.out) hb)
     have n6_ := Aside0.mk (blk_below (g := gb171) (o := .cells #[.int .i64 a1_0, .int .i64 a1_1, .slice A1_2 l1_2.length c1_2] 43 (0, 0)) (by (with_reducible repeat (first | refine blk_drewN ?_ _ | refine blk_drew ?_ | refine blk_alloc ?_ _)); exact BK171.out) hb)
     have n7_ := Aside0.mk (below_step (by repeat (first | (with_reducible first | exact HB.out | apply below_alloc | apply pw_below_drewN | apply below_drew1 | refine below_set ?_ GE170.out | refine below_set ?_ GE171.out) | exact HB.out)) hb)
     clear HO180
     clear HO185
     clear HO192
     clear HO195
     clear BK170
     clear BK171
     clear HB
     have HO180 := n0_
     have HO185 := n1_
     have HO192 := n2_
     have HO195 := n3_
     have HO198 := n4_
     have BK170 := n5_
     have BK171 := n6_
     have HB := n7_
     clear n0_ n1_ n2_ n3_ n4_ n5_ n6_ n7_
     (try clear hb)
     (try clear hb2)
     (try clear hk)
     (try clear hi)
     (try clear ho0)
     obtain ⟨Ao43, co43, eo43⟩ := Kd.R_slice HO195.out
     (first | subst eo43 | (injection eo43 with f1_ f2_ f3_; have f4_ := f1_.symm; have f5_ := f3_.symm; clear f1_ f2_ f3_; subst f4_; subst f5_))
     obtain ⟨Ao44, co44, eo44⟩ := Kd.R_slice HO198.out
     (first | subst eo44 | (injection eo44 with f1_ f2_ f3_; have f4_ := f1_.symm; have f5_ := f3_.symm; clear f1_ f2_ f3_; subst f4_; subst f5_))
     refine hK.out _ _ ⟨(blk_cell BK170.out 0).trans rfl, (blk_cell BK170.out 1).trans rfl, (blk_cell BK170.out 2).trans rfl, (blk_cell BK170.out 3).trans rfl, (blk_cell BK171.out 0).trans rfl, (blk_cell BK171.out 1).trans rfl, (blk_cell BK171.out 2).trans rfl⟩ (fun hHeld => ?_)
     clear hK K
     refine norm_ (a' := ?_) ?_ ?_
     rotate_left
     · show Act.put _ (some 29) _ = _
       simp only [Act.put, List.setIfInBounds_toArray, List.set_cons_zero, List.set_cons_succ, i64_w, i32_w]
       rfl
     refine one_ (i := 11) (N := some 30) #[true, true, true, true, true, true, true, true, true, true, true, true, false, false, false, false, false] rfl rfl (one_of HT_.out (by kernel_rfl)) (by decide) (fun K hK => ?_)
     refine goes_ Try.func25 (by kernel_rfl) rfl #[.slice Ao43 t193.length co43, .slice Ao44 t196.length co44] (by rfl) rfl rfl (by (try simp only [List.map_toArray, List.map_cons, List.map_nil]); first | done | rfl | (simp only [List.length_drop, List.length_take]; rfl)) ?_
     with_reducible refine (rootstocklaw14_SameInts.calls kj2 _ _ t193 _ _ t196 true _ ?side1 ?side2 ?side3 ?side4 A28.out).mono ?_
     (case side1 => repeat (first | exact (Kd.R_reads' HO195.out).2.2 | (with_reducible refine Kd.C_alloc ?_ _) | (with_reducible refine Kd.C_drewN ?_ _) | (with_reducible refine Kd.C_drew ?_)))
     (case side2 => exact (Kd.R_reads' HO195.out).2.1)
     (case side3 => repeat (first | exact (Kd.R_reads' HO198.out).2.2 | (with_reducible refine Kd.C_alloc ?_ _) | (with_reducible refine Kd.C_drewN ?_ _) | (with_reducible refine Kd.C_drew ?_)))
     (case side4 => exact (Kd.R_reads' HO198.out).2.1)
     rintro e w' ⟨rfl, ⟨nd, rfl⟩⟩
     refine ⟨_, rfl, ?_⟩
     refine hK.out _ _ ⟨(blk_cell BK170.out 0).trans rfl, (blk_cell BK170.out 1).trans rfl, (blk_cell BK170.out 2).trans rfl, (blk_cell BK170.out 3).trans rfl, (blk_cell BK171.out 0).trans rfl, (blk_cell BK171.out 1).trans rfl, (blk_cell BK171.out 2).trans rfl⟩ (fun hHeld => ?_)
     clear hK K
     refine norm_ (a' := ?_) ?_ ?_
     rotate_left
     · show Act.put _ (some 30) _ = _
       simp only [Act.put, List.setIfInBounds_toArray, List.set_cons_zero, List.set_cons_succ, i64_w, i32_w]
       rfl
     refine pure_ (i := 12) (N := some 31) (v := ?_) (a' := ?_) #[true, true, true, true, true, true, true, true, true, true, true, true, true, false, false, false, false] rfl rfl (any_of HT_.out (by kernel_rfl)) (fun _ _ _ h => h) (Or.inl ⟨by rfl, ?_⟩) ?_ ?_
     rotate_left
     · intro w'
       go_simp
       with_reducible rfl
     rotate_left
     · simp only [Act.put, List.setIfInBounds_toArray, List.set_cons_zero, List.set_cons_succ, i64_w, i32_w]
       rfl
     refine pure_ (i := 13) (N := some 32) (v := ?_) (a' := ?_) #[true, true, true, true, true, true, true, true, true, true, true, true, true, true, false, false, false] rfl rfl (any_of HT_.out (by kernel_rfl)) (fun _ _ _ h => h) (Or.inl ⟨by rfl, ?_⟩) ?_ ?_
     rotate_left
     · intro w'
       go_simp
       with_reducible rfl
     rotate_left
     · simp only [Act.put, List.setIfInBounds_toArray, List.set_cons_zero, List.set_cons_succ, i64_w, i32_w]
       rfl
     refine one_ (i := 14) (N := some 33) #[true, true, true, true, true, true, true, true, true, true, true, true, true, true, true, false, false] rfl rfl (one_of HT_.out (by kernel_rfl)) (by decide) (fun K hK => ?_)
     refine goes_ Try.func10 (by kernel_rfl) rfl #[] (by rfl) rfl rfl (by (try simp only [List.map_toArray, List.map_cons, List.map_nil]); first | done | rfl | (simp only [List.length_drop, List.length_take]; rfl)) ?_
     with_reducible refine (rootstocklaw14_lives.calls  t200 _ A30.out).mono ?_
     rintro e w45 ⟨rfl, hb⟩
     refine ⟨_, rfl, ?_⟩
     have n0_ := Aside0.mk (Kd.R_below (by (with_reducible repeat (first | apply Kd.R_alloc | apply Kd.R_drewN | apply Kd.R_drew)); exact HO180.out) hb)
     have n1_ := Aside0.mk (Kd.R_below (by (with_reducible repeat (first | apply Kd.R_alloc | apply Kd.R_drewN | apply Kd.R_drew)); exact HO185.out) hb)
     have n2_ := Aside0.mk (Kd.R_below (by (with_reducible repeat (first | apply Kd.R_alloc | apply Kd.R_drewN | apply Kd.R_drew)); exact HO192.out) hb)
     have n3_ := Aside0.mk (Kd.R_below (by (with_reducible repeat (first | apply Kd.R_alloc | apply Kd.R_drewN | apply Kd.R_drew)); exact HO195.out) hb)
     have n4_ := Aside0.mk (Kd.R_below (by (with_reducible repeat (first | apply Kd.R_alloc | apply Kd.R_drewN | apply Kd.R_drew)); exact HO198.out) hb)
     have n5_ := Aside0.mk (blk_below (g := gb170) (o := .cells #[.int .i64 a0_0, .int .i64 a0_1, .int .i64 a0_2, .slice A0_3 l0_3.length c0_3] 24 (0, 0)) (by (with_reducible repeat (first | refine blk_drewN ?_ _ | refine blk_drew ?_ | refine blk_alloc ?_ _)); exact BK170.out) hb)
     have n6_ := Aside0.mk (blk_below (g := gb171) (o := .cells #[.int .i64 a1_0, .int .i64 a1_1, .slice A1_2 l1_2.length c1_2] 43 (0, 0)) (by (with_reducible repeat (first | refine blk_drewN ?_ _ | refine blk_drew ?_ | refine blk_alloc ?_ _)); exact BK171.out) hb)
     have n7_ := Aside0.mk (below_step (by repeat (first | (with_reducible first | exact HB.out | apply below_alloc | apply pw_below_drewN | apply below_drew1 | refine below_set ?_ GE170.out | refine below_set ?_ GE171.out) | exact HB.out)) hb)
     clear HO180
     clear HO185
     clear HO192
     clear HO195
     clear HO198
     clear BK170
     clear BK171
     clear HB
     have HO180 := n0_
     have HO185 := n1_
     have HO192 := n2_
     have HO195 := n3_
     have HO198 := n4_
     have BK170 := n5_
     have BK171 := n6_
     have HB := n7_
     clear n0_ n1_ n2_ n3_ n4_ n5_ n6_ n7_
     (try clear hb)
     (try clear hb2)
     (try clear hk)
     (try clear hi)
     refine hK.out _ _ ⟨(blk_cell BK170.out 0).trans rfl, (blk_cell BK170.out 1).trans rfl, (blk_cell BK170.out 2).trans rfl, (blk_cell BK170.out 3).trans rfl, (blk_cell BK171.out 0).trans rfl, (blk_cell BK171.out 1).trans rfl, (blk_cell BK171.out 2).trans rfl⟩ (fun hHeld => ?_)
     clear hK K
     refine norm_ (a' := ?_) ?_ ?_
     rotate_left
     · show Act.put _ (some 33) _ = _
       simp only [Act.put, List.setIfInBounds_toArray, List.set_cons_zero, List.set_cons_succ, i64_w, i32_w]
       rfl
     refine pure_ (i := 15) (N := some 34) (v := ?_) (a' := ?_) #[true, true, true, true, true, true, true, true, true, true, true, true, true, true, true, true, false] rfl rfl (any_of HT_.out (by kernel_rfl)) (fun _ _ _ h => h) (Or.inl ⟨by rfl, ?_⟩) ?_ ?_
     rotate_left
     · intro w'
       go_simp
       with_reducible rfl
     rotate_left
     · simp only [Act.put, List.setIfInBounds_toArray, List.set_cons_zero, List.set_cons_succ, i64_w, i32_w]
       rfl
     refine pure_ (i := 16) (N := some 4) (v := ?_) (a' := ?_) #[true, true, true, true, true, true, true, true, true, true, true, true, true, true, true, true, true] rfl rfl (any_of HT_.out (by kernel_rfl)) (fun _ _ _ h => h) (Or.inl ⟨by rfl, ?_⟩) ?_ ?_
     rotate_left
     · intro w'
       go_simp
       with_reducible rfl
     rotate_left
     · simp only [Act.put, List.setIfInBounds_toArray, List.set_cons_zero, List.set_cons_succ, i64_w, i32_w]
       rfl
     refine done_ (done_of HT_.out (by kernel_rfl)) ?_
     try go_wp2
     go_ret
     exact ⟨by first | rfl | (simp [errW_none, errW_some] <;> rfl) | (simp [*, errW_none, errW_some] <;> rfl), by repeat (first | (with_reducible first | exact HB.out | apply below_alloc | apply pw_below_drewN | apply below_drew1 | refine below_set ?_ GE170.out | refine below_set ?_ GE171.out) | exact HB.out)⟩
end Go.Proofs.Ytadabkkkalgehaa.PFt
namespace Go.Proofs.Ytadabkkkalgehaa.H
open Go.RowKit Go.Proofs.YtadabkkkalgehaaW.PrintWords
set_option linter.unusedVariables false
theorem ev_pos {α : Type} {c : Prop} [Decidable c] {f g : Nat → Option α} {r : α} (h : c) (k : Ev f r) : Ev (fun n => if c then f n else g n) r := Ev.congr (fun _ => if_pos h) k
theorem rd_get (xs : List Int) (i : Nat) (h : i < xs.length) : rd xs (i : Int) = xs[i] := by simp [rd, h]
theorem wrap_nat (n : Int) (h0 : -9223372036854775808 ≤ n) (h : n ≤ 9223372036854775807) : wrap64 n = n := by unfold wrap64; omega
end Go.Proofs.Ytadabkkkalgehaa.H
namespace Go.Proofs.Ytadabkkkalgehaa.PFt
open Go.RowKit Go.Proofs.YtadabkkkalgehaaW.PrintWords Go.Proofs.Ytadabkkkalgehaa.H
set_option linter.unusedVariables false
set_option linter.unusedSimpArgs false
abbrev Tr := S43
mutual
def sz : Tr → Nat
  | ⟨_, _, l⟩ => 1 + szs l
def szs : List Tr → Nat
  | [] => 0
  | t :: l => sz t + szs l
end
theorem sz_pos (t : Tr) : 1 ≤ sz t := by cases t; unfold sz; omega
theorem szs_get (l : List Tr) (i : Nat) (h : i < l.length) : szs (l.take (i + 1)) = szs (l.take i) + sz l[i] := by
  induction l generalizing i with
  | nil => simp at h
  | cons t l ih =>
    cases i with
    | zero => simp [szs]
    | succ i =>
      simp only [List.take_succ_cons, szs, List.getElem_cons_succ]
      rw [ih i (by simpa using h)]
      omega
theorem szs_len (l : List Tr) : l.length ≤ szs l := by
  induction l with
  | nil => simp
  | cons t l ih => have := sz_pos t; simp only [List.length_cons, szs]; omega
theorem sz_mem {l : List Tr} {t : Tr} (h : t ∈ l) : sz t ≤ szs l := by
  induction l with
  | nil => cases h
  | cons x l ih =>
    simp only [szs]
    rcases List.mem_cons.1 h with rfl | h
    · omega
    · have := ih h; omega
theorem rd_tr (l : List Tr) (i : Nat) (h : i < l.length) : rd_T43 l (i : Int) = l[i] := by simp [rd_T43, List.getD_eq_getElem?_getD, h]
theorem rd_pr (l : List S55) (i : Nat) (h : i < l.length) : rd_T55 l (i : Int) = l[i] := by simp [rd_T55, List.getD_eq_getElem?_getD, h]
theorem nodes_any : ∀ (N : Nat) (t : Tr), sz t ≤ N → ∀ m : Nat, m ≤ 1000000 → ∃ r : Nat, Ev (fun k => rootstocklaw14_Nodes.f k t.f0 t.f1 t.f2 (m : Int)) (r : Int) ∧ 1 ≤ r ∧ r ≤ m + 1 ∧ (r ≤ m → r = sz t) := by
  intro N
  induction N with
  | zero => intro t h; have := sz_pos t; omega
  | succ N ih =>
    intro t hN m hm
    obtain ⟨s, p, l⟩ := t
    have hsz : szs l ≤ N := by unfold sz at hN; omega
    have loop : ∀ (d i n : Nat), l.length - i ≤ d → i ≤ l.length → i + 1 ≤ n → n ≤ m + 1 → (n ≤ m → n = 1 + szs (l.take i)) →
        ∃ r : Nat, Ev (fun k => rootstocklaw14_Nodes.l0 k (m : Int) (n : Int) (i : Int) s p l) (r : Int) ∧ 1 ≤ r ∧ r ≤ m + 1 ∧ (r ≤ m → r = 1 + szs l) := by
      intro d
      induction d with
      | zero =>
        intro i n hd hi h1 h2 h3
        obtain rfl : i = l.length := by omega
        refine ⟨n, ⟨1, fun k hk => ?_⟩, by omega, h2, fun h => by rw [h3 h, List.take_length]⟩
        obtain ⟨k, rfl⟩ : ∃ m, k = m + 1 := ⟨k - 1, by omega⟩
        show rootstocklaw14_Nodes.l0 (k + 1) (m : Int) (n : Int) _ s p l = some _
        rw [rootstocklaw14_Nodes.l0, if_neg (by omega)]
      | succ d ihd =>
        intro i n hd hi h1 h2 h3
        by_cases hlt : i < l.length
        · by_cases hn : n ≤ m
          · have ht : l[i] ∈ l := List.getElem_mem hlt
            obtain ⟨r', ⟨K1, hK1⟩, q1, q2, q3⟩ := ih l[i] (Nat.le_trans (sz_mem ht) hsz) (m - n) (by omega)
            have hg := szs_get l i hlt
            obtain ⟨r, ⟨K2, hK2⟩, p1, p2, p3⟩ := ihd (i + 1) (n + r') (by omega) (by omega) (by omega) (by omega) (fun h => by
              have e1 := q3 (by omega)
              have e2 := h3 hn
              omega)
            refine ⟨r, ⟨K1 + K2 + 1, fun k hk => ?_⟩, p1, p2, p3⟩
            obtain ⟨k, rfl⟩ : ∃ m, k = m + 1 := ⟨k - 1, by omega⟩
            have e1 : Keep (wrap64 ((m : Int) - (n : Int)) = ((m - n : Nat) : Int)) := ⟨by rw [wrap_nat _ (by omega) (by omega)]; omega⟩
            have e2 : Keep (wrap64 ((n : Int) + (r' : Int)) = ((n + r' : Nat) : Int)) := ⟨by rw [wrap_nat _ (by omega) (by omega)]; omega⟩
            have e3 : Keep (wrap64 ((i : Int) + 1) = ((i + 1 : Nat) : Int)) := ⟨by rw [wrap_nat _ (by omega) (by omega)]; omega⟩
            show rootstocklaw14_Nodes.l0 (k + 1) (m : Int) (n : Int) (i : Int) s p l = some _
            have a1 := hK1 k (by omega)
            have a2 := hK2 k (by omega)
            dsimp only at a1 a2
            rw [rootstocklaw14_Nodes.l0, if_pos (by omega), if_pos (by omega), if_pos (by omega), rd_tr l i hlt, e1.out, a1, Option.bind_some, e2.out, e3.out]
            exact a2
          · refine ⟨n, ⟨1, fun k hk => ?_⟩, by omega, h2, fun h => absurd h hn⟩
            obtain ⟨k, rfl⟩ : ∃ m, k = m + 1 := ⟨k - 1, by omega⟩
            show rootstocklaw14_Nodes.l0 (k + 1) (m : Int) (n : Int) _ s p l = some _
            rw [rootstocklaw14_Nodes.l0, if_pos (by omega), if_neg (by omega)]
        · obtain rfl : i = l.length := by omega
          refine ⟨n, ⟨1, fun k hk => ?_⟩, by omega, h2, fun h => by rw [h3 h, List.take_length]⟩
          obtain ⟨k, rfl⟩ : ∃ m, k = m + 1 := ⟨k - 1, by omega⟩
          show rootstocklaw14_Nodes.l0 (k + 1) (m : Int) (n : Int) _ s p l = some _
          rw [rootstocklaw14_Nodes.l0, if_neg (by omega)]
    obtain ⟨r, ⟨K, hK⟩, h1, h2, h3⟩ := loop l.length 0 1 (by omega) (Nat.zero_le _) (by omega) (by omega) (fun _ => by simp [szs])
    refine ⟨r, ⟨K + 1, fun k hk => ?_⟩, h1, h2, fun h => by unfold sz; exact h3 h⟩
    obtain ⟨k, rfl⟩ : ∃ m, k = m + 1 := ⟨k - 1, by omega⟩
    show rootstocklaw14_Nodes.f (k + 1) s p l (m : Int) = some _
    rw [rootstocklaw14_Nodes.f]
    exact hK k (by omega)
mutual
/-- Whether a tree is one of the grammar's: the error's number. -/
def fitI (g : H.Gr) : Tr → Int
  | ⟨s, p, l⟩ => if s < 0 ∨ g.S ≤ s then 2 else if s < g.T then (if p = -1 ∧ l.length = 0 then 0 else 200) else if p < 0 ∨ g.ps.length ≤ p then 2
      else if headAt g p.toNat ≠ s ∨ (bodyAt g p.toNat).length ≠ l.length then 200 else if l.map (fun x => x.f0) = bodyAt g p.toNat then fitIs g l else 200
def fitIs (g : H.Gr) : List Tr → Int
  | [] => 0
  | t :: l => if fitI g t = 0 then fitIs g l else fitI g t
end
theorem fits_l1 {a b c : Int} {l : List S55} (kids : List Tr) (hk : kids.length ≤ 1000000) (ih : ∀ t ∈ kids, Ev (fun k => derive_fits.f k a b c l t.f0 t.f1 t.f2) (fitI (toGr a b c l) t)) : ∀ (n i : Nat), kids.length - i ≤ n → i ≤ kids.length →
    Ev (fun k => derive_fits.l1 k kids (kids.length : Int) (i : Int) a b c l) (fitIs (toGr a b c l) (kids.drop i)) := by
  intro n
  induction n with
  | zero =>
    intro i hn hi
    obtain rfl : i = kids.length := by omega
    refine ⟨1, fun k hk => ?_⟩
    obtain ⟨k, rfl⟩ : ∃ m, k = m + 1 := ⟨k - 1, by omega⟩
    show derive_fits.l1 (k + 1) kids _ _ a b c l = some _
    rw [derive_fits.l1, if_neg (by omega), List.drop_length]
    rfl
  | succ n ihn =>
    intro i hn hi
    by_cases hlt : i < kids.length
    · obtain ⟨K1, h1⟩ := ih kids[i] (List.getElem_mem hlt)
      obtain ⟨K2, h2⟩ := ihn (i + 1) (by omega) (by omega)
      refine ⟨K1 + K2 + 1, fun k hk => ?_⟩
      obtain ⟨k, rfl⟩ : ∃ m, k = m + 1 := ⟨k - 1, by omega⟩
      have e3 : Keep (wrap64 ((i : Int) + 1) = ((i + 1 : Nat) : Int)) := ⟨by rw [wrap_nat _ (by omega) (by omega)]; omega⟩
      have a1 := h1 k (by omega)
      have a2 := h2 k (by omega)
      dsimp only at a1 a2
      show derive_fits.l1 (k + 1) kids _ _ a b c l = some _
      rw [derive_fits.l1, if_pos (by omega), if_pos (by omega), if_pos (by omega), rd_tr kids i hlt, a1, Option.bind_some, List.drop_eq_getElem_cons hlt, fitIs, e3.out]
      by_cases hz : fitI (toGr a b c l) kids[i] = 0
      · rw [if_pos hz, if_pos hz]; exact a2
      · rw [if_neg hz, if_neg hz]
    · obtain rfl : i = kids.length := by omega
      refine ⟨1, fun k hk => ?_⟩
      obtain ⟨k, rfl⟩ : ∃ m, k = m + 1 := ⟨k - 1, by omega⟩
      show derive_fits.l1 (k + 1) kids _ _ a b c l = some _
      rw [derive_fits.l1, if_neg (by omega), List.drop_length]
      rfl
theorem fits_l0 {a b c s p : Int} {l : List S55} {x0 : Int} {x2 : Bool} (kids : List Tr) (body : List Int) (hk : kids.length ≤ 1000000) (hb : body.length = kids.length) (ih : ∀ t ∈ kids, Ev (fun k => derive_fits.f k a b c l t.f0 t.f1 t.f2) (fitI (toGr a b c l) t)) : ∀ (n i : Nat), kids.length - i ≤ n → i ≤ kids.length →
    Ev (fun k => derive_fits.l0 k kids (kids.length : Int) (i : Int) a b c l s p kids x0 body x2) (if (kids.drop i).map (fun x => x.f0) = body.drop i then fitIs (toGr a b c l) kids else 200) := by
  obtain ⟨K0, h0⟩ := fits_l1 kids hk ih kids.length 0 (by omega) (Nat.zero_le _)
  intro n
  induction n with
  | zero =>
    intro i hn hi
    obtain rfl : i = kids.length := by omega
    refine ⟨K0 + 1, fun k hk => ?_⟩
    obtain ⟨k, rfl⟩ : ∃ m, k = m + 1 := ⟨k - 1, by omega⟩
    show derive_fits.l0 (k + 1) kids _ _ a b c l s p kids x0 body x2 = some _
    rw [derive_fits.l0, if_neg (by omega), List.drop_length, List.drop_eq_nil_of_le (show body.length ≤ kids.length by omega), List.map_nil, if_pos rfl]
    exact h0 k (by omega)
  | succ n ihn =>
    intro i hn hi
    by_cases hlt : i < kids.length
    · obtain ⟨K2, h2⟩ := ihn (i + 1) (by omega) (by omega)
      refine ⟨K2 + 1, fun k hk => ?_⟩
      obtain ⟨k, rfl⟩ : ∃ m, k = m + 1 := ⟨k - 1, by omega⟩
      have e3 : Keep (wrap64 ((i : Int) + 1) = ((i + 1 : Nat) : Int)) := ⟨by rw [wrap_nat _ (by omega) (by omega)]; omega⟩
      have a2 := h2 k (by omega)
      dsimp only at a2
      show derive_fits.l0 (k + 1) kids _ _ a b c l s p kids x0 body x2 = some _
      rw [derive_fits.l0, if_pos (by omega), if_pos (by omega), if_pos (by omega), if_pos (by omega), rd_tr kids i hlt, rd_get body i (by omega), e3.out, a2]
      have hd1 : ((kids.drop i).map (fun x => x.f0) = body.drop i) = (kids[i].f0 = body[i] ∧ (kids.drop (i + 1)).map (fun x => x.f0) = body.drop (i + 1)) := by
        rw [List.drop_eq_getElem_cons hlt, List.drop_eq_getElem_cons (show i < body.length by omega), List.map_cons, List.cons.injEq]
      by_cases hz : kids[i].f0 = body[i]
      · rw [if_pos hz]
        simp only [hd1, hz, true_and]
      · rw [if_neg hz]
        simp only [hd1, hz, false_and, if_false]
    · obtain rfl : i = kids.length := by omega
      refine ⟨K0 + 1, fun k hk => ?_⟩
      obtain ⟨k, rfl⟩ : ∃ m, k = m + 1 := ⟨k - 1, by omega⟩
      show derive_fits.l0 (k + 1) kids _ _ a b c l s p kids x0 body x2 = some _
      rw [derive_fits.l0, if_neg (by omega), List.drop_length, List.drop_eq_nil_of_le (show body.length ≤ kids.length by omega), List.map_nil, if_pos rfl]
      exact h0 k (by omega)
theorem fits_any {a b c : Int} {l : List S55} : ∀ (N : Nat) (t : Tr), sz t ≤ N → N ≤ 1000000 → Ev (fun k => derive_fits.f k a b c l t.f0 t.f1 t.f2) (fitI (toGr a b c l) t) := by
  intro N
  induction N with
  | zero => intro t h; have := sz_pos t; omega
  | succ N ih =>
    intro t hN hM
    obtain ⟨s, p, kids⟩ := t
    have hsz : szs kids ≤ N := by unfold sz at hN; omega
    have hkl := szs_len kids
    have ihk : ∀ t ∈ kids, Ev (fun k => derive_fits.f k a b c l t.f0 t.f1 t.f2) (fitI (toGr a b c l) t) := fun t ht => ih t (Nat.le_trans (sz_mem ht) hsz) (by omega)
    by_cases h1 : s < 0 ∨ b ≤ s
    · refine ⟨2, fun k hk => ?_⟩
      obtain ⟨k, rfl⟩ : ∃ m, k = m + 1 + 1 := ⟨k - 2, by omega⟩
      show derive_fits.f (k + 1 + 1) a b c l s p kids = some _
      rw [fitI, if_pos (show s < 0 ∨ (toGr a b c l).S ≤ s from h1), derive_fits.f]
      by_cases h : s < 0
      · rw [if_pos h, derive_fits.j0, if_pos rfl]
      · rw [if_neg h, decide_eq_true (show s ≥ b by omega), derive_fits.j0, if_pos rfl]
    have h1' : ¬ (s < 0 ∨ (toGr a b c l).S ≤ s) := h1
    have hs0 : ¬ s < 0 := fun h => h1 (.inl h)
    have hsS : ¬ s ≥ b := fun h => h1 (.inr h)
    by_cases h2 : s < a
    · have h2' : s < (toGr a b c l).T := h2
      refine ⟨2, fun k hk => ?_⟩
      obtain ⟨k, rfl⟩ : ∃ m, k = m + 1 + 1 := ⟨k - 2, by omega⟩
      show derive_fits.f (k + 1 + 1) a b c l s p kids = some _
      rw [fitI, if_neg h1', if_pos h2', derive_fits.f, if_neg hs0, decide_eq_false hsS, derive_fits.j0, if_neg (by decide), if_pos h2]
      by_cases h3 : p = -1
      · rw [if_pos h3]
        by_cases h4 : (kids.length : Int) > 0
        · rw [if_pos h4, if_neg (by omega)]
        · rw [if_neg h4, if_pos (by omega)]
      · rw [if_neg h3, if_neg (by omega)]
    have h2' : ¬ s < (toGr a b c l).T := h2
    have hpl : (toGr a b c l).ps.length = l.length := by simp [toGr]
    by_cases h3 : p < 0 ∨ (l.length : Int) ≤ p
    · have h3' : p < 0 ∨ ((toGr a b c l).ps.length : Int) ≤ p := by rw [hpl]; exact h3
      refine ⟨3, fun k hk => ?_⟩
      obtain ⟨k, rfl⟩ : ∃ m, k = m + 1 + 1 + 1 := ⟨k - 3, by omega⟩
      show derive_fits.f (k + 1 + 1 + 1) a b c l s p kids = some _
      rw [fitI, if_neg h1', if_neg h2', if_pos h3', derive_fits.f, if_neg hs0, decide_eq_false hsS, derive_fits.j0, if_neg (by decide), if_neg h2]
      by_cases h : p < 0
      · rw [if_pos h, derive_fits.j1, if_pos rfl]
      · rw [if_neg h, decide_eq_true (show p ≥ (l.length : Int) by omega), derive_fits.j1, if_pos rfl]
    have h3' : ¬ (p < 0 ∨ ((toGr a b c l).ps.length : Int) ≤ p) := by rw [hpl]; exact h3
    have hp0 : ¬ p < 0 := fun h => h3 (.inl h)
    have hpP : ¬ p ≥ (l.length : Int) := fun h => h3 (.inr h)
    obtain ⟨q, rfl⟩ : ∃ q : Nat, p = q := ⟨p.toNat, by omega⟩
    have hq : q < l.length := by omega
    have hx := rd_pr l q hq
    have hh : headAt (toGr a b c l) q = l[q].f0 := by simp [headAt, toGr, toPr, hq]
    have hbd : bodyAt (toGr a b c l) q = l[q].f1 := by simp [bodyAt, toGr, toPr, hq]
    have hqn : ((q : Int)).toNat = q := Int.toNat_natCast q
    by_cases h4 : l[q].f0 ≠ s ∨ l[q].f1.length ≠ kids.length
    · refine ⟨4, fun k hk => ?_⟩
      obtain ⟨k, rfl⟩ : ∃ m, k = m + 1 + 1 + 1 + 1 := ⟨k - 4, by omega⟩
      show derive_fits.f (k + 1 + 1 + 1 + 1) a b c l s (q : Int) kids = some _
      rw [fitI, if_neg h1', if_neg h2', if_neg h3', hqn, hh, hbd, if_pos h4, derive_fits.f, if_neg hs0, decide_eq_false hsS, derive_fits.j0, if_neg (by decide), if_neg h2, if_neg hp0, decide_eq_false hpP, derive_fits.j1, if_neg (by decide), if_pos (by omega), if_pos (by omega), hx]
      by_cases h : l[q].f0 = s
      · have h5 : l[q].f1.length ≠ kids.length := h4.resolve_left (fun h' => h' h)
        rw [if_pos h, bne_iff_ne.2 (show (l[q].f1.length : Int) ≠ (kids.length : Int) by omega), derive_fits.j2, if_pos rfl]
      · rw [if_neg h, derive_fits.j2, if_pos rfl]
    · have h5 : l[q].f0 = s := Classical.byContradiction fun h => h4 (.inl h)
      have h6 : l[q].f1.length = kids.length := Classical.byContradiction fun h => h4 (.inr h)
      obtain ⟨K, hK⟩ := fits_l0 (a := a) (b := b) (c := c) (l := l) (s := s) (p := (q : Int)) (x0 := l[q].f0) (x2 := l[q].f2) kids l[q].f1 (by omega) h6 ihk kids.length 0 (by omega) (Nat.zero_le _)
      refine ⟨K + 4, fun k hk => ?_⟩
      obtain ⟨k, rfl⟩ : ∃ m, k = m + 1 + 1 + 1 + 1 := ⟨k - 4, by omega⟩
      have a2 := hK k (by omega)
      simp only [List.drop_zero] at a2
      show derive_fits.f (k + 1 + 1 + 1 + 1) a b c l s (q : Int) kids = some _
      rw [fitI, if_neg h1', if_neg h2', if_neg h3', hqn, hh, hbd, if_neg h4, derive_fits.f, if_neg hs0, decide_eq_false hsS, derive_fits.j0, if_neg (by decide), if_neg h2, if_neg hp0, decide_eq_false hpP, derive_fits.j1, if_neg (by decide), if_pos (by omega), if_pos (by omega), hx, if_pos h5, h6,
        show ((kids.length : Int) != (kids.length : Int)) = false from by simp, derive_fits.j2, if_neg (by decide)]
      exact a2
mutual
theorem yl_sz : ∀ t : Tr, (yl t).length ≤ sz t
  | ⟨s, p, l⟩ => by
    have := yls_szs l
    unfold yl sz
    cases l with
    | nil => simp [yls]
    | cons x xs => simp only [List.isEmpty_cons]; simpa using Nat.le_trans this (by omega)
theorem yls_szs : ∀ l : List Tr, (yls l).length ≤ szs l
  | [] => by simp [yls]
  | t :: l => by
    have := yl_sz t
    have := yls_szs l
    simp only [yls, szs, List.length_append]
    omega
end
theorem wn (j : Nat) (h : j < 9223372036854775807) : Keep (wrap64 ((j : Int) + 1) = ((j + 1 : Nat) : Int)) := ⟨by rw [wrap_nat _ (by omega) (by omega)]; rfl⟩
theorem rfits_l1 {a b c s p : Int} {l : List S55} (kids : List Tr) (body : List Int) (hk : kids.length ≤ 1000000) (hb : body.length = kids.length) (ih : ∀ t ∈ kids, Ev (fun k => rootstockref14_fits.f k a b c l t.f0 t.f1 t.f2) (fitI (toGr a b c l) t)) : ∀ (n i : Nat), kids.length - i ≤ n → i ≤ kids.length →
    Ev (fun k => rootstockref14_fits.l1 k body (i : Int) a b c l s p kids) (fitIs (toGr a b c l) (kids.drop i)) := by
  have fin : Ev (fun k => rootstockref14_fits.l1 k body ((kids.length : Nat) : Int) a b c l s p kids) (fitIs (toGr a b c l) (kids.drop kids.length)) := by
    refine Ev.step (f := fun _ => some _) (fun k => ?_) (Ev.now _)
    rw [rootstockref14_fits.l1, if_neg (by omega), List.drop_length]
    rfl
  intro n
  induction n with
  | zero => intro i hn hi; obtain rfl : i = kids.length := by omega
            exact fin
  | succ n ihn =>
    intro i hn hi
    by_cases hlt : i < kids.length
    · have h1 := ih kids[i] (List.getElem_mem hlt)
      have hw := wn i (by omega)
      rw [List.drop_eq_getElem_cons hlt, fitIs]
      refine Ev.step (f := fun k => (rootstockref14_fits.f k a b c l kids[i].f0 kids[i].f1 kids[i].f2).bind fun t => if t = 0 then rootstockref14_fits.l1 k body ((i + 1 : Nat) : Int) a b c l s p kids else some t) (fun k => ?_) (Ev.bind h1 ?_)
      · rw [rootstockref14_fits.l1, if_pos (by omega), if_pos (by omega), if_pos (by omega), rd_tr kids i hlt, hw.out]
      · by_cases hz : fitI (toGr a b c l) kids[i] = 0
        · simp only [hz, if_true]
          exact ihn (i + 1) (by omega) (by omega)
        · simp only [hz, if_false]
          exact Ev.now _
    · obtain rfl : i = kids.length := by omega
      exact fin
theorem rfits_l0 {a b c s p : Int} {l : List S55} (kids : List Tr) (body : List Int) (hk : kids.length ≤ 1000000) (hb : body.length = kids.length) (ih : ∀ t ∈ kids, Ev (fun k => rootstockref14_fits.f k a b c l t.f0 t.f1 t.f2) (fitI (toGr a b c l) t)) : ∀ (n i : Nat), kids.length - i ≤ n → i ≤ kids.length →
    Ev (fun k => rootstockref14_fits.l0 k body (i : Int) a b c l s p kids) (if (kids.drop i).map (fun x => x.f0) = body.drop i then fitIs (toGr a b c l) kids else 200) := by
  have h0 := rfits_l1 (s := s) (p := p) kids body hk hb ih kids.length 0 (by omega) (Nat.zero_le _)
  rw [List.drop_zero] at h0
  have fin : Ev (fun k => rootstockref14_fits.l0 k body ((kids.length : Nat) : Int) a b c l s p kids) (if (kids.drop kids.length).map (fun x => x.f0) = body.drop kids.length then fitIs (toGr a b c l) kids else 200) := by
    rw [List.drop_length, List.drop_eq_nil_of_le (show body.length ≤ kids.length by omega), List.map_nil, if_pos rfl]
    refine Ev.step (f := fun k => rootstockref14_fits.l1 k body ((0 : Nat) : Int) a b c l s p kids) (fun k => ?_) h0
    rw [rootstockref14_fits.l0, if_neg (by omega)]; rfl
  intro n
  induction n with
  | zero => intro i hn hi; obtain rfl : i = kids.length := by omega
            exact fin
  | succ n ihn =>
    intro i hn hi
    by_cases hlt : i < kids.length
    · have hw := wn i (by omega)
      have hd1 : ((kids.drop i).map (fun x => x.f0) = body.drop i) = (kids[i].f0 = body[i] ∧ (kids.drop (i + 1)).map (fun x => x.f0) = body.drop (i + 1)) := by
        rw [List.drop_eq_getElem_cons hlt, List.drop_eq_getElem_cons (show i < body.length by omega), List.map_cons, List.cons.injEq]
      by_cases hz : kids[i].f0 = body[i]
      · refine Ev.step (f := fun k => rootstockref14_fits.l0 k body ((i + 1 : Nat) : Int) a b c l s p kids) (fun k => ?_) ?_
        · rw [rootstockref14_fits.l0, if_pos (by omega), if_pos (by omega), if_pos (by omega), rd_tr kids i hlt, rd_get body i (by omega), if_pos hz, hw.out]
        · simp only [hd1, hz, true_and]
          exact ihn (i + 1) (by omega) (by omega)
      · simp only [hd1, hz, false_and, if_false]
        refine Ev.step (f := fun _ => some _) (fun k => ?_) (Ev.now _)
        rw [rootstockref14_fits.l0, if_pos (by omega), if_pos (by omega), if_pos (by omega), rd_tr kids i hlt, rd_get body i (by omega), if_neg hz]
    · obtain rfl : i = kids.length := by omega
      exact fin
theorem rfits_any {a b c : Int} {l : List S55} : ∀ (N : Nat) (t : Tr), sz t ≤ N → N ≤ 1000000 → Ev (fun k => rootstockref14_fits.f k a b c l t.f0 t.f1 t.f2) (fitI (toGr a b c l) t) := by
  intro N
  induction N with
  | zero => intro t h; have := sz_pos t; omega
  | succ N ih =>
    intro t hN hM
    obtain ⟨s, p, kids⟩ := t
    have hsz : szs kids ≤ N := by unfold sz at hN; omega
    have hkl := szs_len kids
    have ihk : ∀ t ∈ kids, Ev (fun k => rootstockref14_fits.f k a b c l t.f0 t.f1 t.f2) (fitI (toGr a b c l) t) := fun t ht => ih t (Nat.le_trans (sz_mem ht) hsz) (by omega)
    by_cases h1 : s < 0 ∨ b ≤ s
    · refine ⟨2, fun k hk => ?_⟩
      obtain ⟨k, rfl⟩ : ∃ m, k = m + 1 + 1 := ⟨k - 2, by omega⟩
      show rootstockref14_fits.f (k + 1 + 1) a b c l s p kids = some _
      rw [fitI, if_pos (show s < 0 ∨ (toGr a b c l).S ≤ s from h1), rootstockref14_fits.f]
      by_cases h : s < 0
      · rw [if_pos h, rootstockref14_fits.j0, if_pos rfl]
      · rw [if_neg h, decide_eq_true (show s ≥ b by omega), rootstockref14_fits.j0, if_pos rfl]
    have h1' : ¬ (s < 0 ∨ (toGr a b c l).S ≤ s) := h1
    have hs0 : ¬ s < 0 := fun h => h1 (.inl h)
    have hsS : ¬ s ≥ b := fun h => h1 (.inr h)
    by_cases h2 : s < a
    · have h2' : s < (toGr a b c l).T := h2
      refine ⟨2, fun k hk => ?_⟩
      obtain ⟨k, rfl⟩ : ∃ m, k = m + 1 + 1 := ⟨k - 2, by omega⟩
      show rootstockref14_fits.f (k + 1 + 1) a b c l s p kids = some _
      rw [fitI, if_neg h1', if_pos h2', rootstockref14_fits.f, if_neg hs0, decide_eq_false hsS, rootstockref14_fits.j0, if_neg (by decide), if_pos h2]
      by_cases h3 : p = -1
      · rw [if_pos h3]
        by_cases h4 : (kids.length : Int) > 0
        · rw [if_pos h4, if_neg (by omega)]
        · rw [if_neg h4, if_pos (by omega)]
      · rw [if_neg h3, if_neg (by omega)]
    have h2' : ¬ s < (toGr a b c l).T := h2
    have hpl : (toGr a b c l).ps.length = l.length := by simp [toGr]
    by_cases h3 : p < 0 ∨ (l.length : Int) ≤ p
    · have h3' : p < 0 ∨ ((toGr a b c l).ps.length : Int) ≤ p := by rw [hpl]; exact h3
      refine ⟨3, fun k hk => ?_⟩
      obtain ⟨k, rfl⟩ : ∃ m, k = m + 1 + 1 + 1 := ⟨k - 3, by omega⟩
      show rootstockref14_fits.f (k + 1 + 1 + 1) a b c l s p kids = some _
      rw [fitI, if_neg h1', if_neg h2', if_pos h3', rootstockref14_fits.f, if_neg hs0, decide_eq_false hsS, rootstockref14_fits.j0, if_neg (by decide), if_neg h2]
      by_cases h : p < 0
      · rw [if_pos h, rootstockref14_fits.j1, if_pos rfl]
      · rw [if_neg h, decide_eq_true (show p ≥ (l.length : Int) by omega), rootstockref14_fits.j1, if_pos rfl]
    have h3' : ¬ (p < 0 ∨ ((toGr a b c l).ps.length : Int) ≤ p) := by rw [hpl]; exact h3
    have hp0 : ¬ p < 0 := fun h => h3 (.inl h)
    have hpP : ¬ p ≥ (l.length : Int) := fun h => h3 (.inr h)
    obtain ⟨q, rfl⟩ : ∃ q : Nat, p = q := ⟨p.toNat, by omega⟩
    have hq : q < l.length := by omega
    have hx := rd_pr l q hq
    have hh : headAt (toGr a b c l) q = l[q].f0 := by simp [headAt, toGr, toPr, hq]
    have hbd : bodyAt (toGr a b c l) q = l[q].f1 := by simp [bodyAt, toGr, toPr, hq]
    have hqn : ((q : Int)).toNat = q := Int.toNat_natCast q
    by_cases h4 : l[q].f0 ≠ s ∨ l[q].f1.length ≠ kids.length
    · refine ⟨4, fun k hk => ?_⟩
      obtain ⟨k, rfl⟩ : ∃ m, k = m + 1 + 1 + 1 + 1 := ⟨k - 4, by omega⟩
      show rootstockref14_fits.f (k + 1 + 1 + 1 + 1) a b c l s (q : Int) kids = some _
      rw [fitI, if_neg h1', if_neg h2', if_neg h3', hqn, hh, hbd, if_pos h4, rootstockref14_fits.f, if_neg hs0, decide_eq_false hsS, rootstockref14_fits.j0, if_neg (by decide), if_neg h2, if_neg hp0, decide_eq_false hpP, rootstockref14_fits.j1, if_neg (by decide), if_pos (by omega), if_pos (by omega), hx]
      by_cases h : l[q].f0 = s
      · have h5 : l[q].f1.length ≠ kids.length := h4.resolve_left (fun h' => h' h)
        rw [if_pos h, bne_iff_ne.2 (show (l[q].f1.length : Int) ≠ (kids.length : Int) by omega), rootstockref14_fits.j2, if_pos rfl]
      · rw [if_neg h, rootstockref14_fits.j2, if_pos rfl]
    · have h5 : l[q].f0 = s := Classical.byContradiction fun h => h4 (.inl h)
      have h6 : l[q].f1.length = kids.length := Classical.byContradiction fun h => h4 (.inr h)
      obtain ⟨K, hK⟩ := rfits_l0 (a := a) (b := b) (c := c) (l := l) (s := s) (p := (q : Int)) kids l[q].f1 (by omega) h6 ihk kids.length 0 (by omega) (Nat.zero_le _)
      refine ⟨K + 4, fun k hk => ?_⟩
      obtain ⟨k, rfl⟩ : ∃ m, k = m + 1 + 1 + 1 + 1 := ⟨k - 4, by omega⟩
      have a2 := hK k (by omega)
      simp only [List.drop_zero] at a2
      show rootstockref14_fits.f (k + 1 + 1 + 1 + 1) a b c l s (q : Int) kids = some _
      rw [fitI, if_neg h1', if_neg h2', if_neg h3', hqn, hh, hbd, if_neg h4, rootstockref14_fits.f, if_neg hs0, decide_eq_false hsS, rootstockref14_fits.j0, if_neg (by decide), if_neg h2, if_neg hp0, decide_eq_false hpP, rootstockref14_fits.j1, if_neg (by decide), if_pos (by omega), if_pos (by omega), hx, if_pos h5, h6,
        show ((kids.length : Int) != (kids.length : Int)) = false from by simp, rootstockref14_fits.j2, if_neg (by decide)]
      exact a2
theorem yls_take (l : List Tr) (i : Nat) (h : i < l.length) : yls (l.take (i + 1)) = yls (l.take i) ++ yl l[i] := by
  rw [List.take_succ_eq_append_getElem h, yls_snoc]
theorem ryield_any : ∀ (N : Nat) (t : Tr), sz t ≤ N → N ≤ 1000000 → Ev (fun k => rootstockref14_Yield.f k t.f0 t.f1 t.f2) (yl t) := by
  intro N
  induction N with
  | zero => intro t h; have := sz_pos t; omega
  | succ N ih =>
    intro t hN hM
    obtain ⟨s, p, kids⟩ := t
    have hsz : szs kids ≤ N := by unfold sz at hN; omega
    have hkl := szs_len kids
    by_cases h0 : kids.length = 0
    · obtain rfl : kids = [] := List.eq_nil_of_length_eq_zero h0
      refine Ev.step (f := fun _ => some _) (fun k => ?_) (Ev.now _)
      show rootstockref14_Yield.f (k + 1) s p [] = some _
      rw [rootstockref14_Yield.f, if_pos (show (([] : List Tr).length : Int) = 0 from rfl)]
      simp [yl, yls]
    · have e : yl ⟨s, p, kids⟩ = yls kids := by
        unfold yl
        cases kids with
        | nil => exact absurd rfl h0
        | cons x xs => simp
      rw [e]
      have loop : ∀ (n i : Nat), kids.length - i ≤ n → i ≤ kids.length → Ev (fun k => rootstockref14_Yield.l0 k (yls (kids.take i)) (i : Int) s p kids) (yls kids) := by
        have fin : Ev (fun k => rootstockref14_Yield.l0 k (yls (kids.take kids.length)) ((kids.length : Nat) : Int) s p kids) (yls kids) := by
          refine Ev.step (f := fun _ => some _) (fun k => ?_) (Ev.now _)
          rw [rootstockref14_Yield.l0, if_neg (by omega), List.take_length]
        intro n
        induction n with
        | zero => intro i hn hi; obtain rfl : i = kids.length := by omega
                  exact fin
        | succ n ihn =>
          intro i hn hi
          by_cases hlt : i < kids.length
          · have hw := wn i (by omega)
            have h1 := ih kids[i] (Nat.le_trans (sz_mem (List.getElem_mem hlt)) hsz) (by omega)
            have hb1 := yls_take_le kids i
            have hb2 := yls_szs kids
            have hb3 := yl_sz kids[i]
            have hb4 := sz_mem (List.getElem_mem hlt)
            refine Ev.step (f := fun k => (rootstockref14_Yield.f k kids[i].f0 kids[i].f1 kids[i].f2).bind fun t => if (yls (kids.take i)).length + t.length < 17592186044416 then rootstockref14_Yield.l0 k (yls (kids.take i) ++ t) ((i + 1 : Nat) : Int) s p kids else none) (fun k => ?_) (Ev.bind h1 ?_)
            · rw [rootstockref14_Yield.l0, if_pos (by omega), if_pos (by omega), rd_tr kids i hlt, hw.out]
            · refine ev_pos (by omega) ?_
              rw [← yls_take kids i hlt]
              exact ihn (i + 1) (by omega) (by omega)
          · obtain rfl : i = kids.length := by omega
            exact fin
      refine Ev.step (f := fun k => rootstockref14_Yield.l0 k (yls (kids.take 0)) ((0 : Nat) : Int) s p kids) (fun k => ?_) (loop kids.length 0 (by omega) (Nat.zero_le _))
      show rootstockref14_Yield.f (k + 1) s p kids = _
      rw [rootstockref14_Yield.f, if_neg (by omega)]
      simp [yls]
theorem tr_eta (t : Tr) : (⟨t.f0, t.f1, t.f2⟩ : Tr) = t := by cases t; rfl
theorem copyt_any : ∀ (N : Nat) (t : Tr), sz t ≤ N → N ≤ 1000000 → Ev (fun k => rootstocklaw14_CopyTree.f k t.f0 t.f1 t.f2) (t.f0, t.f1, t.f2) := by
  intro N
  induction N with
  | zero => intro t h; have := sz_pos t; omega
  | succ N ih =>
    intro t hN hM
    obtain ⟨s, p, kids⟩ := t
    have hsz : szs kids ≤ N := by unfold sz at hN; omega
    have hkl := szs_len kids
    have loop : ∀ (n i : Nat), kids.length - i ≤ n → i ≤ kids.length → Ev (fun k => rootstocklaw14_CopyTree.l0 k (i : Int) s p kids s p (kids.take i)) (s, p, kids) := by
      have fin : Ev (fun k => rootstocklaw14_CopyTree.l0 k ((kids.length : Nat) : Int) s p kids s p (kids.take kids.length)) (s, p, kids) := by
        refine Ev.step (f := fun _ => some _) (fun k => ?_) (Ev.now _)
        rw [rootstocklaw14_CopyTree.l0, if_neg (by omega), List.take_length]
      intro n
      induction n with
      | zero => intro i hn hi; obtain rfl : i = kids.length := by omega
                exact fin
      | succ n ihn =>
        intro i hn hi
        by_cases hlt : i < kids.length
        · have hw := wn i (by omega)
          have h1 := ih kids[i] (Nat.le_trans (sz_mem (List.getElem_mem hlt)) hsz) (by omega)
          refine Ev.step (f := fun k => (rootstocklaw14_CopyTree.f k kids[i].f0 kids[i].f1 kids[i].f2).bind fun x => if (kids.take i).length < 3518437208883 then rootstocklaw14_CopyTree.l0 k ((i + 1 : Nat) : Int) s p kids s p (kids.take i ++ [(⟨x.1, x.2.1, x.2.2⟩ : Tr)]) else none) (fun k => ?_) (Ev.bind h1 ?_)
          · rw [rootstocklaw14_CopyTree.l0, if_pos (by omega), if_pos (by omega), rd_tr kids i hlt, hw.out]
          · refine ev_pos (by rw [List.length_take]; omega) ?_
            have := ihn (i + 1) (by omega) (by omega)
            rw [List.take_succ_eq_append_getElem hlt] at this
            show Ev (fun n => rootstocklaw14_CopyTree.l0 n ((i + 1 : Nat) : Int) s p kids s p (kids.take i ++ [(⟨kids[i].f0, kids[i].f1, kids[i].f2⟩ : Tr)])) _
            rw [tr_eta]
            exact this
        · obtain rfl : i = kids.length := by omega
          exact fin
    refine Ev.step (f := fun k => rootstocklaw14_CopyTree.l0 k ((0 : Nat) : Int) s p kids s p (kids.take 0)) (fun k => ?_) (loop kids.length 0 (by omega) (Nat.zero_le _))
    show rootstocklaw14_CopyTree.f (k + 1) s p kids = _
    rw [rootstocklaw14_CopyTree.f]
    rfl
theorem copyg_any (a b c : Int) (l : List S55) (hl : l.length ≤ 200) (hb : ∀ p ∈ l, p.f1.length ≤ 2000) : Ev (fun k => rootstocklaw14_CopyGrammar.f k a b c l) (a, b, c, l) := by
  have loop : ∀ (n i : Nat), l.length - i ≤ n → i ≤ l.length → Ev (fun k => rootstocklaw14_CopyGrammar.l0 k (i : Int) a b c l a b c (l.take i)) (a, b, c, l) := by
    have fin : Ev (fun k => rootstocklaw14_CopyGrammar.l0 k ((l.length : Nat) : Int) a b c l a b c (l.take l.length)) (a, b, c, l) := by
      refine Ev.step (f := fun _ => some _) (fun k => ?_) (Ev.now _)
      rw [rootstocklaw14_CopyGrammar.l0, if_neg (by omega), List.take_length]
    intro n
    induction n with
    | zero => intro i hn hi; obtain rfl : i = l.length := by omega
              exact fin
    | succ n ihn =>
      intro i hn hi
      by_cases hlt : i < l.length
      · have hw := wn i (by omega)
        have h8 := hb _ (List.getElem_mem hlt)
        refine Ev.step (f := fun k => rootstocklaw14_CopyGrammar.l0 k ((i + 1 : Nat) : Int) a b c l a b c (l.take i ++ [l[i]])) (fun k => ?_) ?_
        · rw [rootstocklaw14_CopyGrammar.l0, if_pos (by omega), if_pos (by omega), rd_pr l i hlt, rootstocklaw14_CopyInts.f, if_pos (by omega), Option.bind_some, if_pos (by rw [List.length_take]; omega), hw.out]
        · have := ihn (i + 1) (by omega) (by omega)
          rw [List.take_succ_eq_append_getElem hlt] at this
          exact this
      · obtain rfl : i = l.length := by omega
        exact fin
  exact loop l.length 0 (by omega) (Nat.zero_le _)
theorem same_any (x : List Int) (hm : x.length ≤ 1000000) : Ev (fun k => rootstocklaw14_SameInts.f k x x) true := by
  have loop : ∀ (n i : Nat), x.length - i ≤ n → i ≤ x.length → Ev (fun k => rootstocklaw14_SameInts.l0 k x x (i : Int)) true := by
    have fin : Ev (fun k => rootstocklaw14_SameInts.l0 k x x ((x.length : Nat) : Int)) true := by
      refine Ev.step (f := fun _ => some _) (fun k => ?_) (Ev.now _)
      rw [rootstocklaw14_SameInts.l0, if_neg (by omega)]
    intro n
    induction n with
    | zero => intro i hn hi; obtain rfl : i = x.length := by omega
              exact fin
    | succ n ihn =>
      intro i hn hi
      by_cases hlt : i < x.length
      · have hw := wn i (by omega)
        refine Ev.step (f := fun k => rootstocklaw14_SameInts.l0 k x x ((i + 1 : Nat) : Int)) (fun k => ?_) (ihn (i + 1) (by omega) (by omega))
        rw [rootstocklaw14_SameInts.l0, if_pos (by omega), if_pos (by omega), if_pos (by omega), if_pos rfl, hw.out]
      · obtain rfl : i = x.length := by omega
        exact fin
  refine Ev.congr (f := fun k => rootstocklaw14_SameInts.l0 k x x ((0 : Nat) : Int)) (fun k => ?_) (loop x.length 0 (by omega) (Nat.zero_le _))
  rw [rootstocklaw14_SameInts.f, if_pos rfl]
  rfl
theorem great_l0 (a b c : Int) (l : List S55) (hl : l.length ≤ 200) : ∀ (n j : Nat) (x : Int), 0 ≤ x → x ≤ 2000 → l.length - j ≤ n → j ≤ l.length → ∃ r, Ev (fun k => rootstocklaw14_Great.l0 k x (j : Int) a b c l) r ∧ (r = false → ∀ p ∈ l.drop j, p.f1.length ≤ 2000) := by
  intro n
  induction n with
  | zero =>
    intro j x hx0 hx hn hj
    refine ⟨false, ⟨1, fun k hk => ?_⟩, fun _ p hp => by rw [List.drop_eq_nil_of_le (by omega)] at hp; cases hp⟩
    obtain ⟨k, rfl⟩ : ∃ m, k = m + 1 := ⟨k - 1, by omega⟩
    show rootstocklaw14_Great.l0 (k + 1) x (j : Int) a b c l = some false
    rw [rootstocklaw14_Great.l0, if_neg (by omega)]
  | succ n ih =>
    intro j x hx0 hx hn hj
    have hw := wn j (by omega)
    by_cases hlt : j < l.length
    · have hsub : Keep (wrap64 (2000 - x) = 2000 - x) := ⟨wrap_nat _ (by omega) (by omega)⟩
      have hr := rd_pr l j hlt
      by_cases hb : ((l[j].f1).length : Int) > 2000 - x
      · refine ⟨true, ⟨1, fun k hk => ?_⟩, fun h => by cases h⟩
        obtain ⟨k, rfl⟩ : ∃ m, k = m + 1 := ⟨k - 1, by omega⟩
        show rootstocklaw14_Great.l0 (k + 1) x (j : Int) a b c l = some true
        rw [rootstocklaw14_Great.l0, if_pos (by omega), if_pos (by omega), hr, hsub.out, if_pos hb]
      · have hadd : Keep (wrap64 (x + ((l[j].f1).length : Int)) = x + ((l[j].f1).length : Int)) := ⟨wrap_nat _ (by omega) (by omega)⟩
        obtain ⟨r, ⟨K, hK⟩, hd⟩ := ih (j + 1) (x + ((l[j].f1).length : Int)) (by omega) (by omega) (by omega) (by omega)
        refine ⟨r, ⟨K + 1, fun k hk => ?_⟩, fun h p hp => ?_⟩
        · obtain ⟨k, rfl⟩ : ∃ m, k = m + 1 := ⟨k - 1, by omega⟩
          show rootstocklaw14_Great.l0 (k + 1) x (j : Int) a b c l = some r
          rw [rootstocklaw14_Great.l0, if_pos (by omega), if_pos (by omega), hr, hsub.out, if_neg hb, hw.out, hadd.out]
          exact hK k (by omega)
        · rw [List.drop_eq_getElem_cons hlt] at hp
          rcases List.mem_cons.1 hp with rfl | hp
          · omega
          · exact hd h p hp
    · refine ⟨false, ⟨1, fun k hk => ?_⟩, fun _ p hp => by rw [List.drop_eq_nil_of_le (by omega)] at hp; cases hp⟩
      obtain ⟨k, rfl⟩ : ∃ m, k = m + 1 := ⟨k - 1, by omega⟩
      show rootstocklaw14_Great.l0 (k + 1) x (j : Int) a b c l = some false
      rw [rootstocklaw14_Great.l0, if_neg (by omega)]
theorem great_any (a b c : Int) (l : List S55) : ∃ r, Ev (fun k => rootstocklaw14_Great.f k a b c l) r ∧ (r = false → l.length ≤ 200 ∧ ∀ p ∈ l, p.f1.length ≤ 2000) := by
  by_cases hl : (l.length : Int) > 200
  · refine ⟨true, ⟨0, fun k _ => ?_⟩, fun h => by cases h⟩
    show rootstocklaw14_Great.f k a b c l = some true
    rw [rootstocklaw14_Great.f, if_pos hl]
  · obtain ⟨r, ⟨K, hK⟩, hd⟩ := great_l0 a b c l (by omega) l.length 0 0 (by omega) (by omega) (by omega) (Nat.zero_le _)
    refine ⟨r, ⟨K, fun k hk => ?_⟩, fun h => ⟨by omega, fun p hp => hd h p (by simpa using hp)⟩⟩
    show rootstocklaw14_Great.f k a b c l = some r
    rw [rootstocklaw14_Great.f, if_neg hl]
    exact hK k hk
theorem fits_pure (a b c : Int) (l : List S55) (s p : Int) (kids : List Tr) : ∃ k, rootstocklaw14_DeriveFits.f k a b c l s p kids = some true := by
  refine Ev.rounds ?_
  obtain ⟨r, hr, hd⟩ := great_any a b c l
  obtain ⟨n, hn, hn1, hn2, hn3⟩ := nodes_any _ (⟨s, p, kids⟩ : Tr) (Nat.le_refl _) 200 (by omega)
  have lv : Ev (fun k => rootstocklaw14_DeriveFits.j0 k true a b c l s p kids) true := by
    refine Ev.step (f := fun _ => some _) (fun k => ?_) (Ev.now _)
    rw [rootstocklaw14_DeriveFits.j0, if_pos rfl]
    rfl
  have st : ∀ k, rootstocklaw14_DeriveFits.f k a b c l s p kids = (rootstocklaw14_Great.f k a b c l).bind fun t => if t = true then rootstocklaw14_DeriveFits.j0 k true a b c l s p kids else (rootstocklaw14_Nodes.f k s p kids ((200 : Nat) : Int)).bind fun u => rootstocklaw14_DeriveFits.j0 k (decide (u > 200)) a b c l s p kids := fun k => by rw [rootstocklaw14_DeriveFits.f]; rfl
  refine Ev.congr st (Ev.bind hr ?_)
  cases r with
  | true => simpa using lv
  | false =>
    obtain ⟨hl, hb⟩ := hd rfl
    simp only [Bool.false_eq_true, if_false]
    refine Ev.bind hn ?_
    by_cases hbig : n > 200
    · rw [decide_eq_true (show (n : Int) > 200 by omega)]
      exact lv
    · rw [decide_eq_false (show ¬ (n : Int) > 200 by omega)]
      have hs : sz (⟨s, p, kids⟩ : Tr) ≤ 200 := by have := hn3 (by omega); omega
      have hcg := copyg_any a b c l hl hb
      have hct := copyt_any 200 (⟨s, p, kids⟩ : Tr) hs (by omega)
      have hf := fits_any (a := a) (b := b) (c := c) (l := l) 200 (⟨s, p, kids⟩ : Tr) hs (by omega)
      have hrf := rfits_any (a := a) (b := b) (c := c) (l := l) 200 (⟨s, p, kids⟩ : Tr) hs (by omega)
      have hry := ryield_any 200 (⟨s, p, kids⟩ : Tr) hs (by omega)
      have hyl := yl_sz (⟨s, p, kids⟩ : Tr)
      have hy : derive_Yield.f s p kids = some (yl ⟨s, p, kids⟩) := by
        unfold derive_Yield.f
        rw [if_pos (by omega)]
      have hsm := same_any (yl (⟨s, p, kids⟩ : Tr)) (by omega)
      obtain ⟨E, hE1, hE2⟩ : ∃ E : Int, Ev (fun k => derive_Fits.f k a b c l s p kids) E ∧ Ev (fun k => rootstockref14_Fits.f k a b c l s p kids) E := by
        by_cases hc : H.checkI (toGr a b c l) = 0
        · refine ⟨fitI (toGr a b c l) ⟨s, p, kids⟩, Ev.congr (fun k => ?_) hf, Ev.congr (fun k => ?_) hrf⟩
          · rw [derive_Fits.f, grams_Check.f, Option.bind_some, if_pos hc]
            cases derive_fits.f k a b c l s p kids <;> rfl
          · rw [rootstockref14_Fits.f, rootstockref13_Check.f, Option.bind_some, if_pos hc]
            cases rootstockref14_fits.f k a b c l s p kids <;> rfl
        · refine ⟨H.checkI (toGr a b c l), Ev.congr (f := fun _ => some _) (fun k => ?_) (Ev.now _), Ev.congr (f := fun _ => some _) (fun k => ?_) (Ev.now _)⟩
          · rw [derive_Fits.f, grams_Check.f, Option.bind_some, if_neg hc]
          · rw [rootstockref14_Fits.f, rootstockref13_Check.f, Option.bind_some, if_neg hc]
      refine Ev.step (f := fun k => (rootstocklaw14_CopyGrammar.f k a b c l).bind fun x => (rootstocklaw14_CopyTree.f k s p kids).bind fun y => (derive_Fits.f k x.1 x.2.1 x.2.2.1 x.2.2.2 y.1 y.2.1 y.2.2).bind fun t => (rootstockref14_Fits.f k a b c l s p kids).bind fun u => if t = u then ((rootstocklaw14_CopyTree.f k s p kids).bind fun z => (derive_Yield.f z.1 z.2.1 z.2.2).bind fun t1 => (rootstockref14_Yield.f k s p kids).bind fun t2 => (rootstocklaw14_SameInts.f k t1 t2).bind fun t3 => if t3 = true then ((rootstocklaw14_lives.f).bind fun t4 => some t4) else some false) else some false) (fun k => ?_) ?_
      · rw [rootstocklaw14_DeriveFits.j0, if_neg (by decide)]
      · refine Ev.bind hcg (Ev.bind hct (Ev.bind hE1 (Ev.bind hE2 ?_)))
        simp only [if_true]
        refine Ev.bind hct ?_
        dsimp only
        rw [hy]
        simp only [Option.bind_some]
        refine Ev.bind hry (Ev.bind hsm ?_)
        simp only [if_true]
        exact Ev.now true
end Go.Proofs.Ytadabkkkalgehaa.PFt
