-- printed by wip/eprint.py of this session's repo, out of the translation and contracts proved by hand
import Derived.Test.YtadabkkkalgehaaPLix0
import Derived.Test.YtadabkkkalgehaaPLix1
import Derived.Test.YtadabkkkalgehaaPLix2
namespace Go.Proofs.Ytadabkkkalgehaa.PLi
open Go.RowKit Go.Proofs.YtadabkkkalgehaaW.PrintWords Go.Proofs.YtadabkkkalgehaaW.PrintLast Go.Proofs.YtadabkkkalgehaaW.PrintMore
attribute [local go_sem] max2_int min2_int max_two min_two max_three min_three max_four min_four   -- for this text's walks alone
set_option linter.unusedVariables false
set_option linter.unusedSimpArgs false

attribute [local go_sem high] eqA35
/-! ### rootstocklaw14_Sum: function 28 -/
noncomputable def rootstocklaw14_Sum.l0 : Nat → Int → List Int → Int → Option (List Int)
  | 0, _, _, _ => none
  | k + 1, x0, x3, x4 => if x4 < x0 then ((some (([1, 0] : List Int) : List Int)).bind fun y111 => (if x3.length + y111.length < 17592186044416 then (rootstocklaw14_Sum.l0 k x0 (x3 ++ y111) (wrap64 (x4 + 1))) else (none))) else (some x3)
noncomputable def rootstocklaw14_Sum.f (k : Nat) (a0 : Int) : Option (List Int) := rootstocklaw14_Sum.l0 k a0 (([0] : List Int)) 1
theorem rootstocklaw14_Sum.mono_l : ∀ k, (∀ y0 y1 y2, LeO (rootstocklaw14_Sum.l0 k y0 y1 y2) (rootstocklaw14_Sum.l0 (k + 1) y0 y1 y2))
  | 0 => fun _ _ _ r h => by simp [rootstocklaw14_Sum.l0] at h
  | k + 1 => by
    have ih0 := rootstocklaw14_Sum.mono_l k
    · intro y0 y1 y2
      unfold rootstocklaw14_Sum.l0
      repeat' first
      | (with_reducible exact ih0 _ _ _)
      | (with_reducible exact LeO.refl _)
      | (with_reducible exact LeO.none _)
      | (with_reducible refine LeO.ite ?_ ?_)
      | (with_reducible refine LeO.bind ?_ (fun _ => ?_))
      | exact ih0 _ _ _
      | exact LeO.none _
      | refine LeO.ite ?_ ?_
      | refine LeO.bind ?_ (fun _ => ?_)
theorem rootstocklaw14_Sum.mono : ∀ a0 k, LeO (rootstocklaw14_Sum.f k a0) (rootstocklaw14_Sum.f (k + 1) a0) := by
 intro a0 k
 have ih0 := rootstocklaw14_Sum.mono_l k
 unfold rootstocklaw14_Sum.f
 repeat' first
  | (with_reducible exact ih0 _ _ _)
  | (with_reducible exact LeO.refl _)
  | (with_reducible exact LeO.none _)
  | (with_reducible refine LeO.ite ?_ ?_)
  | (with_reducible refine LeO.bind ?_ (fun _ => ?_))
  | exact ih0 _ _ _
  | exact LeO.none _
  | refine LeO.ite ?_ ?_
  | refine LeO.bind ?_ (fun _ => ?_)
set_option maxHeartbeats 8000000 in
set_option maxRecDepth 100000 in
theorem rootstocklaw14_Sum.calls (k : Nat) (a0 : Int) (r : List Int) (w : World) (h : rootstocklaw14_Sum.f k a0 = some r) :
    Calls Try.prog 28 #[.int .i64 a0] w fun e w' => ∃ v0_ : Value, e = .returned (v0_) ∧ Kd.R (Kd.int .i64) 3 w' w.heap.size (fun _ => True) v0_ r ∧ Below w.heap.size w w' := by
 have HB := Aside0.mk (Below.refl w.heap.size w)
 have H : (rootstocklaw14_Sum.l0 k a0 (([0] : List Int)) 1) = some r := h
 clear h
 obtain ⟨y108, hy108⟩ : ∃ y_ : List Int, y_ = (([0] : List Int)) := ⟨_, rfl⟩
 replace H : (rootstocklaw14_Sum.l0 k a0 y108 1) = some r := by first | (rw [hy108]; with_reducible exact H) | (have H2_ := (Option.bind_some _ _).symm.trans H; rw [hy108]; with_reducible exact H2_) | (have H2_ := (Option.bind_some _ _).symm.trans H; with_reducible exact H2_) | with_reducible exact H | (rw [hy108]; exact H) | exact H
 have Ny108 := Aside0.mk hy108
 clear hy108
 have H' := Aside0.mk H
 clear H
 go_enter Try.func28, Try.ntmps28
 go_wp2_with (((with_reducible refine gate_dst (N := 5) rfl ?_); refine Kd.R_lit (Kd.int .i64) _ 3 ?hg (N := 5) ?hd (xs := ([0] : List Int)) (inner := [.int .i64 0]) (ok := fun _ => True) (okp := fun _ => True) ?hr ?hp (fun _ hk => hk) trivial (Below.refl _ _) (Nat.le_refl _) (by simp) ?_; (case hd => rfl); (case hg => rfl); (case hr => first | (go_simp; done) | (go_simp; rfl)); (case hp => exact (Reps.one (show Kd.M (Kd.int .i64) _ _ _ 0 [.int .i64 0] from rfl) (Reps.none _ _))); intro v109 w2 ho3 hb hg_ hnew_; clear hg_ hnew_; (first | rw [← Ny108.out] at ho3 | (simp only [Int.reduceToNat] at ho3; rw [← Ny108.out] at ho3)); have n0_ := Aside0.mk (Kd.R_lower ho3 (below_size (by repeat (first | (with_reducible first | exact HB.out | apply below_alloc | apply pw_below_drewN | apply below_drew1) | exact HB.out)))); have n1_ := Aside0.mk (below_step (by repeat (first | (with_reducible first | exact HB.out | apply below_alloc | apply pw_below_drewN | apply below_drew1) | exact HB.out)) hb); clear HB; have HO110 := n0_; have HB := n1_; clear n0_ n1_; clear hb ho3))
 go_loopg [3, 4] k (fun kq v3 v4 w' => ∃ (x3_1 : List Int) (x4_1 : Int), v4 = .int .i64 x4_1 ∧ Aside0 (rootstocklaw14_Sum.l0 kq a0 x3_1 x4_1 = some r) ∧ Aside0 (kq ≤ k) ∧ Aside0 (Kd.R (Kd.int .i64) 3 w' w.heap.size (fun _ => True) v3 x3_1) ∧ Aside0 (Below w.heap.size w w'))
 case atStart => exact ⟨(y108), (1), (by first | rfl | (simp; done) | (simp [*]; done)), H', ⟨Nat.le_refl _⟩, ⟨by (with_reducible repeat (first | apply Kd.R_alloc | apply Kd.R_drewN | apply Kd.R_drew)); exact HO110.out⟩, ⟨by repeat (first | (with_reducible first | exact HB.out | apply below_alloc | apply pw_below_drewN | apply below_drew1) | exact HB.out)⟩⟩
 case round =>
  clear H'
  (try clear c2); (try clear p2)
  obtain ⟨x3_1, x4_1, rfl, HA, HK1, HO_3, HB⟩ := hrel
  cases gk with
  | zero => exact absurd HA.out (by simp [rootstocklaw14_Sum.l0])
  | succ k1 =>
   have H := HA.out
   clear HA
   simp only [rootstocklaw14_Sum.l0] at H
   by_cases c4 : x4_1 < a0
   rotate_left
   · rw [if_neg c4] at H
     have c4b0 : decide (x4_1 < a0) = false := decide_eq_false c4
     clear c4
     as_aux_lemma =>
      obtain rfl := Option.some.inj H
      go_wp2
      go_ret
      exact ⟨_, by first | rfl | (simp [errW_none, errW_some] <;> rfl) | (simp [*, errW_none, errW_some] <;> rfl), by (with_reducible repeat (first | apply Kd.R_alloc | apply Kd.R_drewN | apply Kd.R_drew)); exact HO_3.out, by repeat (first | (with_reducible first | exact HB.out | apply below_alloc | apply pw_below_drewN | apply below_drew1) | exact HB.out)⟩
   rw [if_pos c4] at H
   have c4b0 : decide (x4_1 < a0) = true := decide_eq_true c4
   clear c4
   obtain ⟨y111, hy111⟩ : ∃ y_ : List Int, y_ = (([1, 0] : List Int)) := ⟨_, rfl⟩
   replace H : (if x3_1.length + y111.length < 17592186044416 then (rootstocklaw14_Sum.l0 k1 a0 (x3_1 ++ y111) (wrap64 (x4_1 + 1))) else (none)) = some r := by first | (rw [hy111]; with_reducible exact H) | (have H2_ := (Option.bind_some _ _).symm.trans H; rw [hy111]; with_reducible exact H2_) | (have H2_ := (Option.bind_some _ _).symm.trans H; with_reducible exact H2_) | with_reducible exact H | (rw [hy111]; exact H) | exact H
   have Ny111 := Aside0.mk hy111
   clear hy111
   by_cases c5 : x3_1.length + y111.length < 17592186044416
   rotate_left
   · rw [if_neg c5] at H
     exact absurd H (by simp)
   rw [if_pos c5] at H
   have LMc5 := Aside0.mk c5
   clear c5
   obtain ⟨y114, hy114⟩ : ∃ y_ : List Int, y_ = (x3_1 ++ y111) := ⟨_, rfl⟩
   replace H : (rootstocklaw14_Sum.l0 k1 a0 y114 (wrap64 (x4_1 + 1))) = some r := by first | (rw [hy114]; with_reducible exact H) | (have H2_ := (Option.bind_some _ _).symm.trans H; rw [hy114]; with_reducible exact H2_) | (have H2_ := (Option.bind_some _ _).symm.trans H; with_reducible exact H2_) | with_reducible exact H | (rw [hy114]; exact H) | exact H
   have Ny114 := Aside0.mk hy114
   clear hy114
   as_aux_lemma =>
    have H' := Aside0.mk H
    clear H
    go_wp2_with (first | ((with_reducible refine gate_dst (N := 12) rfl ?_); refine Kd.R_lit (Kd.int .i64) _ 3 ?hg (N := 12) ?hd (xs := ([1, 0] : List Int)) (inner := [.int .i64 1, .int .i64 0]) (ok := fun _ => True) (okp := fun _ => True) ?hr ?hp (fun _ hk => hk) trivial (Below.refl _ _) (Nat.le_refl _) (by simp) ?_; (case hd => rfl); (case hg => rfl); (case hr => first | (go_simp; done) | (go_simp; rfl)); (case hp => exact (Reps.one (show Kd.M (Kd.int .i64) _ _ _ 1 [.int .i64 1] from rfl) (Reps.one (show Kd.M (Kd.int .i64) _ _ _ 0 [.int .i64 0] from rfl) (Reps.none _ _)))); intro v112 w6 ho7 hb hg_ hnew_; clear hg_ hnew_; (first | rw [← Ny111.out] at ho7 | (simp only [Int.reduceToNat] at ho7; rw [← Ny111.out] at ho7)); have n0_ := Aside0.mk (Kd.R_elder' (by (with_reducible repeat (first | apply Kd.R_alloc | apply Kd.R_drewN | apply Kd.R_drew)); exact HO_3.out) (Kd.R_base ho7) hb); have n1_ := Aside0.mk (Kd.R_lower (Kd.R_new' ho7 (Kd.R_lt (by (with_reducible repeat (first | apply Kd.R_alloc | apply Kd.R_drewN | apply Kd.R_drew)); exact HO_3.out))) (below_size (by repeat (first | (with_reducible first | exact HB.out | apply below_alloc | apply pw_below_drewN | apply below_drew1) | exact HB.out)))); have n2_ := Aside0.mk (below_step (by repeat (first | (with_reducible first | exact HB.out | apply below_alloc | apply pw_below_drewN | apply below_drew1) | exact HB.out)) hb); clear HO_3; clear HB; have HO_3 := n0_; have HO113 := n1_; have HB := n2_; clear n0_ n1_ n2_; clear hb ho7; obtain ⟨Ao9, co9, eo9⟩ := Kd.R_slice HO113.out; subst eo9) | ((with_reducible refine gate_builtin (b := .append) (xs := #[.tmp 11, .tmp 12]) rfl ?_); at_builtin; refine Kd.R_append_rows (Kd.int .i64) (w0 := w) w.heap.size rfl (.tmp 11) (.tmp 12) 25 3 (.int .i64 0) 8 rfl Try.underlying25 info3 rfl (by decide) (by omega) u3 x3_1 y111 _ _ _ (fun k_ => some k_ ≠ (.slice Ao9 y111.length co9 : Value).ownBlock) (fun _ => False) rfl rfl ?aO ?aR (fun _ _ h => h) (fun _ h => h.elim) ?aF ?aB ?aS ?aL ?_; (case aR => repeat (first | exact (Kd.R_reads' HO113.out).2.2 | (with_reducible refine Kd.C_alloc ?_ _) | (with_reducible refine Kd.C_drewN ?_ _) | (with_reducible refine Kd.C_drew ?_))); (case aB => exact (by repeat (first | (with_reducible first | exact HB.out | apply below_alloc | apply pw_below_drewN | apply below_drew1) | exact HB.out))); (case aF => exact (fun k_ hk => Kd.fresh' (Kd.R_lt (by (with_reducible repeat (first | apply Kd.R_alloc | apply Kd.R_drewN | apply Kd.R_drew)); exact HO113.out)) k_ hk)); (case aO => exact (by (with_reducible repeat (first | apply Kd.R_alloc | apply Kd.R_drewN | apply Kd.R_drew)); exact Kd.R_mono HO_3.out (fun _ hk => hk.2))); (case aS => exact (below_size (by repeat (first | (with_reducible first | exact HB.out | apply below_alloc | apply pw_below_drewN | apply below_drew1) | exact HB.out)))); (case aL => have := LMc5.out; omega); intro v115 w8 ho hb hg hat; rw [← Ny114.out] at ho; have n0_ := Aside0.mk (Kd.R_after (ok := (fun _ => True)) (by (with_reducible repeat (first | apply Kd.R_alloc | apply Kd.R_drewN | apply Kd.R_drew)); exact HO113.out) hg hat); have n1_ := Aside0.mk (hb); have n2_ := Aside0.mk (ho); clear HO113; clear HB; clear HO_3; have HO113 := n0_; have HB := n1_; have HO116 := n2_; clear n0_ n1_ n2_; clear ho hb hg hat))
    go_roundg k1
    case measure => have := HK1.out; omega
    case rel => exact ⟨(y114), (wrap64 (x4_1 + 1)), (by first | rfl | (simp; done) | (simp [*]; done)), H', ⟨by have := HK1.out; omega⟩, ⟨by (with_reducible repeat (first | apply Kd.R_alloc | apply Kd.R_drewN | apply Kd.R_drew)); exact Kd.R_mono HO116.out (fun _ hk => trivial)⟩, ⟨by repeat (first | (with_reducible first | exact HB.out | apply below_alloc | apply pw_below_drewN | apply below_drew1) | exact HB.out)⟩⟩

/-! ### rootstocklaw14_Sums: function 29 -/
noncomputable def rootstocklaw14_Sums.f  : Option (Int × Int × Int × (List (S55))) := some (2, 3, 2, (([(⟨2, (([2, 1, 2] : List Int)), false⟩ : S55), (⟨2, (([0] : List Int)), false⟩ : S55)] : List (S55))))
theorem own_blk {W : World} {g B n size : Nat} {e : TypeId} {cs : Array Value} (h : H.Blk W g e cs) (hB : B ≤ g) (hm : n ≤ maxLen) (hs : cs.size = n * size) : W.ownsRow B e size (.slice (some ⟨g, 0, none⟩) n n) n cs.toList :=
  ⟨by simpa using hs, .inr ⟨g, n, cs, rfl, hB, h, Nat.le_refl _, hm, hs, List.take_of_length_le (by rw [Array.length_toList, hs]; exact Nat.le_refl _)⟩⟩
set_option maxHeartbeats 4000000 in
set_option maxRecDepth 100000 in
theorem sums_walk (w : World) : Calls Try.prog 29 #[] w fun e W => e = .returned (.agg #[.int .i64 2, .int .i64 3, .int .i64 2, .slice (some ⟨w.heap.size + 3, 0, none⟩) 2 2]) ∧ H.Blk W (w.heap.size + 1) 3 #[.int .i64 2, .int .i64 1, .int .i64 2] ∧ H.Blk W (w.heap.size + 2) 3 #[.int .i64 0] ∧
    H.Blk W (w.heap.size + 3) 55 #[.int .i64 2, .slice (some ⟨w.heap.size + 1, 0, none⟩) 3 3, .bool false, .int .i64 2, .slice (some ⟨w.heap.size + 2, 0, none⟩) 1 1, .bool false] ∧ Below w.heap.size w W := by
  go_enter Try.func29, Try.ntmps29
  go_wp2
  refine bodyPost_ret (results_cell_row rfl _ _ w.heap.size 24 #[.int .i64 2, .int .i64 3, .int .i64 2, .slice (some ⟨w.heap.size + 3, 0, none⟩) 2 2] (0, 0) _ rfl (((H.Blk.new _ _ _).alloc _).alloc _ |>.alloc _) Try.underlying24 rfl (by kernel_rfl)) rfl ?_
  refine ⟨rfl, ((H.Blk.newAt (by simp)).alloc _).alloc _, (H.Blk.newAt (by simp)).alloc _, H.Blk.newAt (by simp), ((((Below.refl _ _).alloc (Nat.le_refl _) _).alloc (by simp) _).alloc (by simp; omega) _).alloc (by simp; omega) _⟩
theorem rootstocklaw14_Sums.calls  (r1 : Int) (r2 : Int) (r3 : Int) (r4 : List (S55)) (w : World) (h : rootstocklaw14_Sums.f  = some (r1, r2, r3, r4)) :
    Calls Try.prog 29 #[] w fun e w' => ∃ v3_ : Value, e = .returned (.agg #[.int .i64 r1, .int .i64 r2, .int .i64 r3, v3_]) ∧ Kd.R k55 55 w' w.heap.size (fun _ => True) v3_ r4 ∧ Below w.heap.size w w' := by
  have h' := Option.some.inj h
  simp only [Prod.mk.injEq] at h'
  obtain ⟨rfl, rfl, rfl, rfl⟩ := h'
  refine (sums_walk w).mono ?_
  rintro e W ⟨rfl, b1, b2, b3, hb⟩
  refine ⟨_, rfl, ⟨fun k hk => trivial, _, own_blk b3 (by omega) (by decide) rfl, ?_⟩, hb⟩
  · have r1 : (Kd.int .i64).R 3 W w.heap.size (fun k => True ∧ some k ≠ (Value.slice (some ⟨w.heap.size + 3, 0, none⟩) 2 2).ownBlock) (.slice (some ⟨w.heap.size + 1, 0, none⟩) 3 3) [2, 1, 2] := Kd.R_of_own (own_blk b1 (by omega) (by decide) rfl) (fun k hk => by simp [Value.ownBlock] at hk ⊢; omega)
    have r2 : (Kd.int .i64).R 3 W w.heap.size (fun k => True ∧ some k ≠ (Value.slice (some ⟨w.heap.size + 3, 0, none⟩) 2 2).ownBlock) (.slice (some ⟨w.heap.size + 2, 0, none⟩) 1 1) [0] := Kd.R_of_own (own_blk b2 (by omega) (by decide) rfl) (fun k hk => by simp [Value.ownBlock] at hk ⊢; omega)
    exact Reps.c3 (k55_mkM _ _ _ ⟨2, [2, 1, 2], false⟩ r1) (Reps.c3 (k55_mkM _ _ _ ⟨2, [0], false⟩ r2) (Reps.none _ _))

/-! ### rootstocklaw14_lives: function 10 -/
noncomputable def rootstocklaw14_lives.f (k : Nat)  : Option (Bool) := (rootstocklaw14_Sums.f).bind fun bt117 => ((rootstocklaw14_Sum.f k 2).bind fun t124 => ((derive_Derives.f bt117.1 bt117.2.1 bt117.2.2.1 bt117.2.2.2 2 t124).bind fun bt127 => ((derive_Derives.f bt117.1 bt117.2.1 bt117.2.2.1 bt117.2.2.2 2 (([0, 1] : List Int))).bind fun bt132 => ((derive_Viable.f bt117.1 bt117.2.1 bt117.2.2.1 bt117.2.2.2 (([0, 1] : List Int))).bind fun bt137 => ((derive_Judge.f k bt117.1 bt117.2.1 bt117.2.2.1 bt117.2.2.2 (([0, 0] : List Int))).bind fun bt142 => ((rootstocklaw14_Sum.f k 3).bind fun t146 => ((derive_Count.f bt117.1 bt117.2.1 bt117.2.2.1 bt117.2.2.2 2 t146).bind fun bt149 => ((derive_Derives.f bt117.1 bt117.2.1 bt117.2.2.1 bt117.2.2.2 3 ([] : List Int)).bind fun bt151 => (if bt127.1 = true then (if bt132.1 = true then (some false) else (if bt137.1 = true then (if bt149.1 = 2 then (if (!bt142.1 && (bt142.2.1 == 1)) = true then (if bt127.2 = 0 then (if bt132.2 = 0 then (if bt137.2 = 0 then (if bt142.2.2 = 0 then (if bt149.2 = 0 then (if bt151.2 = 2 then ((derive_Fits.f bt117.1 bt117.2.1 bt117.2.2.1 bt117.2.2.2 0 (-1) ([] : List (S43))).bind fun t153 => (if t153 = 0 then ((derive_Yield.f 0 0 ([] : List (S43))).bind fun t154 => (some ((t154.length : Int) == 1))) else (some false))) else (some false)) else (some false)) else (some false)) else (some false)) else (some false)) else (some false)) else (some false)) else (some false)) else (some false))) else (some false))))))))))
theorem rootstocklaw14_lives.mono : ∀ k, LeO (rootstocklaw14_lives.f k ) (rootstocklaw14_lives.f (k + 1) ) := by
 intro  k
 unfold rootstocklaw14_lives.f
 repeat' first
  | (with_reducible exact derive_Judge.mono _ _ _ _ _ _)
  | (with_reducible exact rootstocklaw14_Sum.mono _ _)
  | (with_reducible exact LeO.refl _)
  | (with_reducible exact LeO.none _)
  | (with_reducible refine LeO.ite ?_ ?_)
  | (with_reducible refine LeO.bind ?_ (fun _ => ?_))
  | exact derive_Judge.mono _ _ _ _ _ _
  | exact rootstocklaw14_Sum.mono _ _
  | exact LeO.none _
  | refine LeO.ite ?_ ?_
  | refine LeO.bind ?_ (fun _ => ?_)
def rootstocklaw14_lives.T2 : Bool × List (List Nat × List Nat) := (true, [([], []), ([], []), ([0, 1, 1], [0, 1]), ([2], [2]), ([3], [3]), ([3], [3]), ([4, 2, 0, 1, 2, 3, 4], [4]), ([5, 6, 0, 1, 2, 3, 4, 5, 6], [5])])
def rootstocklaw14_lives.B2 : List Nat := [0, 0, 3, 7, 15, 15, 31, 127]
theorem rootstocklaw14_lives.tab2 : rtab .any (opsOf Try.f10 2) = rootstocklaw14_lives.T2 := by kernel_rfl
theorem rootstocklaw14_lives.bits2 : waitsOk rootstocklaw14_lives.T2.2 rootstocklaw14_lives.B2 = true := by kernel_rfl
def rootstocklaw14_lives.T6 : Bool × List (List Nat × List Nat) := (true, [([], []), ([], []), ([0, 1, 1], [0, 1]), ([2], [2]), ([3], [3]), ([3], [3]), ([4, 2, 0, 1, 2, 3, 4], [4]), ([5, 6, 0, 1, 2, 3, 4, 5, 6], [5])])
def rootstocklaw14_lives.B6 : List Nat := [0, 0, 3, 7, 15, 15, 31, 127]
theorem rootstocklaw14_lives.tab6 : rtab .any (opsOf Try.f10 6) = rootstocklaw14_lives.T6 := by kernel_rfl
theorem rootstocklaw14_lives.bits6 : waitsOk rootstocklaw14_lives.T6.2 rootstocklaw14_lives.B6 = true := by kernel_rfl

/-! ### rootstocklaw14_lives: function 10 -/
set_option maxHeartbeats 8000000 in
set_option maxRecDepth 100000 in
theorem rootstocklaw14_lives.calls (k : Nat)  (r : Bool) (w : World) (hrt_ : r = true) (h : rootstocklaw14_lives.f k  = some r) :
    Calls Try.prog 10 #[] w fun e w' => e = .returned (.bool r) ∧ Below w.heap.size w w' := by
 have HRT := Aside0.mk hrt_
 clear hrt_
 have hu24 := Try.underlying24
 have hu35 := Try.underlying35
 have hu43 := Try.underlying43
 have HB := Aside0.mk (Below.refl w.heap.size w)
 have H : ((rootstocklaw14_Sums.f).bind fun bt117 => ((rootstocklaw14_Sum.f k 2).bind fun t124 => ((derive_Derives.f bt117.1 bt117.2.1 bt117.2.2.1 bt117.2.2.2 2 t124).bind fun bt127 => ((derive_Derives.f bt117.1 bt117.2.1 bt117.2.2.1 bt117.2.2.2 2 (([0, 1] : List Int))).bind fun bt132 => ((derive_Viable.f bt117.1 bt117.2.1 bt117.2.2.1 bt117.2.2.2 (([0, 1] : List Int))).bind fun bt137 => ((derive_Judge.f k bt117.1 bt117.2.1 bt117.2.2.1 bt117.2.2.2 (([0, 0] : List Int))).bind fun bt142 => ((rootstocklaw14_Sum.f k 3).bind fun t146 => ((derive_Count.f bt117.1 bt117.2.1 bt117.2.2.1 bt117.2.2.2 2 t146).bind fun bt149 => ((derive_Derives.f bt117.1 bt117.2.1 bt117.2.2.1 bt117.2.2.2 3 ([] : List Int)).bind fun bt151 => (if bt127.1 = true then (if bt132.1 = true then (some false) else (if bt137.1 = true then (if bt149.1 = 2 then (if (!bt142.1 && (bt142.2.1 == 1)) = true then (if bt127.2 = 0 then (if bt132.2 = 0 then (if bt137.2 = 0 then (if bt142.2.2 = 0 then (if bt149.2 = 0 then (if bt151.2 = 2 then ((derive_Fits.f bt117.1 bt117.2.1 bt117.2.2.1 bt117.2.2.2 0 (-1) ([] : List (S43))).bind fun t153 => (if t153 = 0 then ((derive_Yield.f 0 0 ([] : List (S43))).bind fun t154 => (some ((t154.length : Int) == 1))) else (some false))) else (some false)) else (some false)) else (some false)) else (some false)) else (some false)) else (some false)) else (some false)) else (some false)) else (some false))) else (some false))))))))))) = some r := h
 clear h
 replace H := Option.bind_eq_some_iff.mp H
 obtain ⟨⟨t117, t118, t119, t120⟩, A10, H⟩ := H
 replace H : ((rootstocklaw14_Sum.f k 2).bind fun t124 => ((derive_Derives.f t117 t118 t119 t120 2 t124).bind fun bt127 => ((derive_Derives.f t117 t118 t119 t120 2 (([0, 1] : List Int))).bind fun bt132 => ((derive_Viable.f t117 t118 t119 t120 (([0, 1] : List Int))).bind fun bt137 => ((derive_Judge.f k t117 t118 t119 t120 (([0, 0] : List Int))).bind fun bt142 => ((rootstocklaw14_Sum.f k 3).bind fun t146 => ((derive_Count.f t117 t118 t119 t120 2 t146).bind fun bt149 => ((derive_Derives.f t117 t118 t119 t120 3 ([] : List Int)).bind fun bt151 => (if bt127.1 = true then (if bt132.1 = true then (some false) else (if bt137.1 = true then (if bt149.1 = 2 then (if (!bt142.1 && (bt142.2.1 == 1)) = true then (if bt127.2 = 0 then (if bt132.2 = 0 then (if bt137.2 = 0 then (if bt142.2.2 = 0 then (if bt149.2 = 0 then (if bt151.2 = 2 then ((derive_Fits.f t117 t118 t119 t120 0 (-1) ([] : List (S43))).bind fun t153 => (if t153 = 0 then ((derive_Yield.f 0 0 ([] : List (S43))).bind fun t154 => (some ((t154.length : Int) == 1))) else (some false))) else (some false)) else (some false)) else (some false)) else (some false)) else (some false)) else (some false)) else (some false)) else (some false)) else (some false))) else (some false)))))))))) = some r := H
 have A1 := Aside0.mk A10
 clear A10
 replace H := Option.bind_eq_some_iff.mp H
 obtain ⟨t124, A20, H⟩ := H
 replace H : ((derive_Derives.f t117 t118 t119 t120 2 t124).bind fun bt127 => ((derive_Derives.f t117 t118 t119 t120 2 (([0, 1] : List Int))).bind fun bt132 => ((derive_Viable.f t117 t118 t119 t120 (([0, 1] : List Int))).bind fun bt137 => ((derive_Judge.f k t117 t118 t119 t120 (([0, 0] : List Int))).bind fun bt142 => ((rootstocklaw14_Sum.f k 3).bind fun t146 => ((derive_Count.f t117 t118 t119 t120 2 t146).bind fun bt149 => ((derive_Derives.f t117 t118 t119 t120 3 ([] : List Int)).bind fun bt151 => (if bt127.1 = true then (if bt132.1 = true then (some false) else (if bt137.1 = true then (if bt149.1 = 2 then (if (!bt142.1 && (bt142.2.1 == 1)) = true then (if bt127.2 = 0 then (if bt132.2 = 0 then (if bt137.2 = 0 then (if bt142.2.2 = 0 then (if bt149.2 = 0 then (if bt151.2 = 2 then ((derive_Fits.f t117 t118 t119 t120 0 (-1) ([] : List (S43))).bind fun t153 => (if t153 = 0 then ((derive_Yield.f 0 0 ([] : List (S43))).bind fun t154 => (some ((t154.length : Int) == 1))) else (some false))) else (some false)) else (some false)) else (some false)) else (some false)) else (some false)) else (some false)) else (some false)) else (some false)) else (some false))) else (some false))))))))) = some r := H
 have A2 := Aside0.mk A20
 clear A20
 replace H := Option.bind_eq_some_iff.mp H
 obtain ⟨⟨t127, t128⟩, A30, H⟩ := H
 replace H : ((derive_Derives.f t117 t118 t119 t120 2 (([0, 1] : List Int))).bind fun bt132 => ((derive_Viable.f t117 t118 t119 t120 (([0, 1] : List Int))).bind fun bt137 => ((derive_Judge.f k t117 t118 t119 t120 (([0, 0] : List Int))).bind fun bt142 => ((rootstocklaw14_Sum.f k 3).bind fun t146 => ((derive_Count.f t117 t118 t119 t120 2 t146).bind fun bt149 => ((derive_Derives.f t117 t118 t119 t120 3 ([] : List Int)).bind fun bt151 => (if t127 = true then (if bt132.1 = true then (some false) else (if bt137.1 = true then (if bt149.1 = 2 then (if (!bt142.1 && (bt142.2.1 == 1)) = true then (if t128 = 0 then (if bt132.2 = 0 then (if bt137.2 = 0 then (if bt142.2.2 = 0 then (if bt149.2 = 0 then (if bt151.2 = 2 then ((derive_Fits.f t117 t118 t119 t120 0 (-1) ([] : List (S43))).bind fun t153 => (if t153 = 0 then ((derive_Yield.f 0 0 ([] : List (S43))).bind fun t154 => (some ((t154.length : Int) == 1))) else (some false))) else (some false)) else (some false)) else (some false)) else (some false)) else (some false)) else (some false)) else (some false)) else (some false)) else (some false))) else (some false)))))))) = some r := H
 have A3 := Aside0.mk A30
 clear A30
 obtain ⟨y129, hy129⟩ : ∃ y_ : List Int, y_ = (([0, 1] : List Int)) := ⟨_, rfl⟩
 replace H : ((derive_Derives.f t117 t118 t119 t120 2 y129).bind fun bt132 => ((derive_Viable.f t117 t118 t119 t120 (([0, 1] : List Int))).bind fun bt137 => ((derive_Judge.f k t117 t118 t119 t120 (([0, 0] : List Int))).bind fun bt142 => ((rootstocklaw14_Sum.f k 3).bind fun t146 => ((derive_Count.f t117 t118 t119 t120 2 t146).bind fun bt149 => ((derive_Derives.f t117 t118 t119 t120 3 ([] : List Int)).bind fun bt151 => (if t127 = true then (if bt132.1 = true then (some false) else (if bt137.1 = true then (if bt149.1 = 2 then (if (!bt142.1 && (bt142.2.1 == 1)) = true then (if t128 = 0 then (if bt132.2 = 0 then (if bt137.2 = 0 then (if bt142.2.2 = 0 then (if bt149.2 = 0 then (if bt151.2 = 2 then ((derive_Fits.f t117 t118 t119 t120 0 (-1) ([] : List (S43))).bind fun t153 => (if t153 = 0 then ((derive_Yield.f 0 0 ([] : List (S43))).bind fun t154 => (some ((t154.length : Int) == 1))) else (some false))) else (some false)) else (some false)) else (some false)) else (some false)) else (some false)) else (some false)) else (some false)) else (some false)) else (some false))) else (some false)))))))) = some r := by first | (rw [hy129]; with_reducible exact H) | (have H2_ := (Option.bind_some _ _).symm.trans H; rw [hy129]; with_reducible exact H2_) | (have H2_ := (Option.bind_some _ _).symm.trans H; with_reducible exact H2_) | with_reducible exact H | (rw [hy129]; exact H) | exact H
 have Ny129 := Aside0.mk hy129
 clear hy129
 replace H := Option.bind_eq_some_iff.mp H
 obtain ⟨⟨t132, t133⟩, A40, H⟩ := H
 replace H : ((derive_Viable.f t117 t118 t119 t120 (([0, 1] : List Int))).bind fun bt137 => ((derive_Judge.f k t117 t118 t119 t120 (([0, 0] : List Int))).bind fun bt142 => ((rootstocklaw14_Sum.f k 3).bind fun t146 => ((derive_Count.f t117 t118 t119 t120 2 t146).bind fun bt149 => ((derive_Derives.f t117 t118 t119 t120 3 ([] : List Int)).bind fun bt151 => (if t127 = true then (if t132 = true then (some false) else (if bt137.1 = true then (if bt149.1 = 2 then (if (!bt142.1 && (bt142.2.1 == 1)) = true then (if t128 = 0 then (if t133 = 0 then (if bt137.2 = 0 then (if bt142.2.2 = 0 then (if bt149.2 = 0 then (if bt151.2 = 2 then ((derive_Fits.f t117 t118 t119 t120 0 (-1) ([] : List (S43))).bind fun t153 => (if t153 = 0 then ((derive_Yield.f 0 0 ([] : List (S43))).bind fun t154 => (some ((t154.length : Int) == 1))) else (some false))) else (some false)) else (some false)) else (some false)) else (some false)) else (some false)) else (some false)) else (some false)) else (some false)) else (some false))) else (some false))))))) = some r := H
 have A4 := Aside0.mk A40
 clear A40
 obtain ⟨y134, hy134⟩ : ∃ y_ : List Int, y_ = (([0, 1] : List Int)) := ⟨_, rfl⟩
 replace H : ((derive_Viable.f t117 t118 t119 t120 y134).bind fun bt137 => ((derive_Judge.f k t117 t118 t119 t120 (([0, 0] : List Int))).bind fun bt142 => ((rootstocklaw14_Sum.f k 3).bind fun t146 => ((derive_Count.f t117 t118 t119 t120 2 t146).bind fun bt149 => ((derive_Derives.f t117 t118 t119 t120 3 ([] : List Int)).bind fun bt151 => (if t127 = true then (if t132 = true then (some false) else (if bt137.1 = true then (if bt149.1 = 2 then (if (!bt142.1 && (bt142.2.1 == 1)) = true then (if t128 = 0 then (if t133 = 0 then (if bt137.2 = 0 then (if bt142.2.2 = 0 then (if bt149.2 = 0 then (if bt151.2 = 2 then ((derive_Fits.f t117 t118 t119 t120 0 (-1) ([] : List (S43))).bind fun t153 => (if t153 = 0 then ((derive_Yield.f 0 0 ([] : List (S43))).bind fun t154 => (some ((t154.length : Int) == 1))) else (some false))) else (some false)) else (some false)) else (some false)) else (some false)) else (some false)) else (some false)) else (some false)) else (some false)) else (some false))) else (some false))))))) = some r := by first | (rw [hy134]; with_reducible exact H) | (have H2_ := (Option.bind_some _ _).symm.trans H; rw [hy134]; with_reducible exact H2_) | (have H2_ := (Option.bind_some _ _).symm.trans H; with_reducible exact H2_) | with_reducible exact H | (rw [hy134]; exact H) | exact H
 have Ny134 := Aside0.mk hy134
 clear hy134
 replace H := Option.bind_eq_some_iff.mp H
 obtain ⟨⟨t137, t138⟩, A50, H⟩ := H
 replace H : ((derive_Judge.f k t117 t118 t119 t120 (([0, 0] : List Int))).bind fun bt142 => ((rootstocklaw14_Sum.f k 3).bind fun t146 => ((derive_Count.f t117 t118 t119 t120 2 t146).bind fun bt149 => ((derive_Derives.f t117 t118 t119 t120 3 ([] : List Int)).bind fun bt151 => (if t127 = true then (if t132 = true then (some false) else (if t137 = true then (if bt149.1 = 2 then (if (!bt142.1 && (bt142.2.1 == 1)) = true then (if t128 = 0 then (if t133 = 0 then (if t138 = 0 then (if bt142.2.2 = 0 then (if bt149.2 = 0 then (if bt151.2 = 2 then ((derive_Fits.f t117 t118 t119 t120 0 (-1) ([] : List (S43))).bind fun t153 => (if t153 = 0 then ((derive_Yield.f 0 0 ([] : List (S43))).bind fun t154 => (some ((t154.length : Int) == 1))) else (some false))) else (some false)) else (some false)) else (some false)) else (some false)) else (some false)) else (some false)) else (some false)) else (some false)) else (some false))) else (some false)))))) = some r := H
 have A5 := Aside0.mk A50
 clear A50
 obtain ⟨y139, hy139⟩ : ∃ y_ : List Int, y_ = (([0, 0] : List Int)) := ⟨_, rfl⟩
 replace H : ((derive_Judge.f k t117 t118 t119 t120 y139).bind fun bt142 => ((rootstocklaw14_Sum.f k 3).bind fun t146 => ((derive_Count.f t117 t118 t119 t120 2 t146).bind fun bt149 => ((derive_Derives.f t117 t118 t119 t120 3 ([] : List Int)).bind fun bt151 => (if t127 = true then (if t132 = true then (some false) else (if t137 = true then (if bt149.1 = 2 then (if (!bt142.1 && (bt142.2.1 == 1)) = true then (if t128 = 0 then (if t133 = 0 then (if t138 = 0 then (if bt142.2.2 = 0 then (if bt149.2 = 0 then (if bt151.2 = 2 then ((derive_Fits.f t117 t118 t119 t120 0 (-1) ([] : List (S43))).bind fun t153 => (if t153 = 0 then ((derive_Yield.f 0 0 ([] : List (S43))).bind fun t154 => (some ((t154.length : Int) == 1))) else (some false))) else (some false)) else (some false)) else (some false)) else (some false)) else (some false)) else (some false)) else (some false)) else (some false)) else (some false))) else (some false)))))) = some r := by first | (rw [hy139]; with_reducible exact H) | (have H2_ := (Option.bind_some _ _).symm.trans H; rw [hy139]; with_reducible exact H2_) | (have H2_ := (Option.bind_some _ _).symm.trans H; with_reducible exact H2_) | with_reducible exact H | (rw [hy139]; exact H) | exact H
 have Ny139 := Aside0.mk hy139
 clear hy139
 replace H := Option.bind_eq_some_iff.mp H
 obtain ⟨⟨t142, t143, t144⟩, A60, H⟩ := H
 replace H : ((rootstocklaw14_Sum.f k 3).bind fun t146 => ((derive_Count.f t117 t118 t119 t120 2 t146).bind fun bt149 => ((derive_Derives.f t117 t118 t119 t120 3 ([] : List Int)).bind fun bt151 => (if t127 = true then (if t132 = true then (some false) else (if t137 = true then (if bt149.1 = 2 then (if (!t142 && (t143 == 1)) = true then (if t128 = 0 then (if t133 = 0 then (if t138 = 0 then (if t144 = 0 then (if bt149.2 = 0 then (if bt151.2 = 2 then ((derive_Fits.f t117 t118 t119 t120 0 (-1) ([] : List (S43))).bind fun t153 => (if t153 = 0 then ((derive_Yield.f 0 0 ([] : List (S43))).bind fun t154 => (some ((t154.length : Int) == 1))) else (some false))) else (some false)) else (some false)) else (some false)) else (some false)) else (some false)) else (some false)) else (some false)) else (some false)) else (some false))) else (some false))))) = some r := H
 have A6 := Aside0.mk A60
 clear A60
 replace H := Option.bind_eq_some_iff.mp H
 obtain ⟨t146, A70, H⟩ := H
 replace H : ((derive_Count.f t117 t118 t119 t120 2 t146).bind fun bt149 => ((derive_Derives.f t117 t118 t119 t120 3 ([] : List Int)).bind fun bt151 => (if t127 = true then (if t132 = true then (some false) else (if t137 = true then (if bt149.1 = 2 then (if (!t142 && (t143 == 1)) = true then (if t128 = 0 then (if t133 = 0 then (if t138 = 0 then (if t144 = 0 then (if bt149.2 = 0 then (if bt151.2 = 2 then ((derive_Fits.f t117 t118 t119 t120 0 (-1) ([] : List (S43))).bind fun t153 => (if t153 = 0 then ((derive_Yield.f 0 0 ([] : List (S43))).bind fun t154 => (some ((t154.length : Int) == 1))) else (some false))) else (some false)) else (some false)) else (some false)) else (some false)) else (some false)) else (some false)) else (some false)) else (some false)) else (some false))) else (some false)))) = some r := H
 have A7 := Aside0.mk A70
 clear A70
 replace H := Option.bind_eq_some_iff.mp H
 obtain ⟨⟨t149, t150⟩, A80, H⟩ := H
 replace H : ((derive_Derives.f t117 t118 t119 t120 3 ([] : List Int)).bind fun bt151 => (if t127 = true then (if t132 = true then (some false) else (if t137 = true then (if t149 = 2 then (if (!t142 && (t143 == 1)) = true then (if t128 = 0 then (if t133 = 0 then (if t138 = 0 then (if t144 = 0 then (if t150 = 0 then (if bt151.2 = 2 then ((derive_Fits.f t117 t118 t119 t120 0 (-1) ([] : List (S43))).bind fun t153 => (if t153 = 0 then ((derive_Yield.f 0 0 ([] : List (S43))).bind fun t154 => (some ((t154.length : Int) == 1))) else (some false))) else (some false)) else (some false)) else (some false)) else (some false)) else (some false)) else (some false)) else (some false)) else (some false)) else (some false))) else (some false))) = some r := H
 have A8 := Aside0.mk A80
 clear A80
 replace H := Option.bind_eq_some_iff.mp H
 obtain ⟨⟨t151, t152⟩, A90, H⟩ := H
 replace H : (if t127 = true then (if t132 = true then (some false) else (if t137 = true then (if t149 = 2 then (if (!t142 && (t143 == 1)) = true then (if t128 = 0 then (if t133 = 0 then (if t138 = 0 then (if t144 = 0 then (if t150 = 0 then (if t152 = 2 then ((derive_Fits.f t117 t118 t119 t120 0 (-1) ([] : List (S43))).bind fun t153 => (if t153 = 0 then ((derive_Yield.f 0 0 ([] : List (S43))).bind fun t154 => (some ((t154.length : Int) == 1))) else (some false))) else (some false)) else (some false)) else (some false)) else (some false)) else (some false)) else (some false)) else (some false)) else (some false)) else (some false))) else (some false)) = some r := H
 have A9 := Aside0.mk A90
 clear A90
 by_cases c10 : t127 = true
 rotate_left
 · replace c10 := Bool.eq_false_iff.mpr c10
   subst c10
   have H1 : (some false) = some r := by rw [if_neg (show ¬ (false = true) by decide)] at H; exact H
   clear H
   have H := H1
   clear H1
   exact absurd ((Option.some.inj H).trans HRT.out) (by decide)
 subst c10
 have H1 : (if t132 = true then (some false) else (if t137 = true then (if t149 = 2 then (if (!t142 && (t143 == 1)) = true then (if t128 = 0 then (if t133 = 0 then (if t138 = 0 then (if t144 = 0 then (if t150 = 0 then (if t152 = 2 then ((derive_Fits.f t117 t118 t119 t120 0 (-1) ([] : List (S43))).bind fun t153 => (if t153 = 0 then ((derive_Yield.f 0 0 ([] : List (S43))).bind fun t154 => (some ((t154.length : Int) == 1))) else (some false))) else (some false)) else (some false)) else (some false)) else (some false)) else (some false)) else (some false)) else (some false)) else (some false)) else (some false))) = some r := by rw [if_pos rfl] at H; exact H
 clear H
 have H := H1
 clear H1
 by_cases c11 : t132 = true
 · subst c11
   have H1 : (some false) = some r := by rw [if_pos rfl] at H; exact H
   clear H
   have H := H1
   clear H1
   exact absurd ((Option.some.inj H).trans HRT.out) (by decide)
 replace c11 := Bool.eq_false_iff.mpr c11
 subst c11
 have H1 : (if t137 = true then (if t149 = 2 then (if (!t142 && (t143 == 1)) = true then (if t128 = 0 then (if t133 = 0 then (if t138 = 0 then (if t144 = 0 then (if t150 = 0 then (if t152 = 2 then ((derive_Fits.f t117 t118 t119 t120 0 (-1) ([] : List (S43))).bind fun t153 => (if t153 = 0 then ((derive_Yield.f 0 0 ([] : List (S43))).bind fun t154 => (some ((t154.length : Int) == 1))) else (some false))) else (some false)) else (some false)) else (some false)) else (some false)) else (some false)) else (some false)) else (some false)) else (some false)) else (some false)) = some r := by rw [if_neg (show ¬ (false = true) by decide)] at H; exact H
 clear H
 have H := H1
 clear H1
 by_cases c12 : t137 = true
 rotate_left
 · replace c12 := Bool.eq_false_iff.mpr c12
   subst c12
   have H1 : (some false) = some r := by rw [if_neg (show ¬ (false = true) by decide)] at H; exact H
   clear H
   have H := H1
   clear H1
   exact absurd ((Option.some.inj H).trans HRT.out) (by decide)
 subst c12
 have H1 : (if t149 = 2 then (if (!t142 && (t143 == 1)) = true then (if t128 = 0 then (if t133 = 0 then (if t138 = 0 then (if t144 = 0 then (if t150 = 0 then (if t152 = 2 then ((derive_Fits.f t117 t118 t119 t120 0 (-1) ([] : List (S43))).bind fun t153 => (if t153 = 0 then ((derive_Yield.f 0 0 ([] : List (S43))).bind fun t154 => (some ((t154.length : Int) == 1))) else (some false))) else (some false)) else (some false)) else (some false)) else (some false)) else (some false)) else (some false)) else (some false)) else (some false)) = some r := by rw [if_pos rfl] at H; exact H
 clear H
 have H := H1
 clear H1
 by_cases c13 : t149 = 2
 rotate_left
 · rw [if_neg c13] at H
   have c13b0 : (t149 == 2) = false := beq_eq_false_iff_ne.mpr c13
   have c13b1 : (t149 != 2) = true := bne_iff_ne.mpr c13
   exact absurd ((Option.some.inj H).trans HRT.out) (by decide)
 rw [if_pos c13] at H
 have c13b0 : (t149 == 2) = true := beq_iff_eq.mpr c13
 have c13b1 : (t149 != 2) = false := bne_eq_false_iff_eq.mpr c13
 clear c13
 by_cases c14 : (!t142 && (t143 == 1)) = true
 rotate_left
 · rw [if_neg c14] at H
   have c14b0 : (!t142 && (t143 == 1)) = false := by simpa using c14
   clear c14
   exact absurd ((Option.some.inj H).trans HRT.out) (by decide)
 rw [if_pos c14] at H
 have c14b0 : (!t142 && (t143 == 1)) = true := c14
 clear c14
 by_cases c15 : t128 = 0
 rotate_left
 · rw [if_neg c15] at H
   have c15b0 : (t128 == 0) = false := beq_eq_false_iff_ne.mpr c15
   have c15b1 : (t128 != 0) = true := bne_iff_ne.mpr c15
   exact absurd ((Option.some.inj H).trans HRT.out) (by decide)
 rw [if_pos c15] at H
 have c15b0 : (t128 == 0) = true := beq_iff_eq.mpr c15
 have c15b1 : (t128 != 0) = false := bne_eq_false_iff_eq.mpr c15
 clear c15
 by_cases c16 : t133 = 0
 rotate_left
 · rw [if_neg c16] at H
   have c16b0 : (t133 == 0) = false := beq_eq_false_iff_ne.mpr c16
   have c16b1 : (t133 != 0) = true := bne_iff_ne.mpr c16
   exact absurd ((Option.some.inj H).trans HRT.out) (by decide)
 rw [if_pos c16] at H
 have c16b0 : (t133 == 0) = true := beq_iff_eq.mpr c16
 have c16b1 : (t133 != 0) = false := bne_eq_false_iff_eq.mpr c16
 clear c16
 by_cases c17 : t138 = 0
 rotate_left
 · rw [if_neg c17] at H
   have c17b0 : (t138 == 0) = false := beq_eq_false_iff_ne.mpr c17
   have c17b1 : (t138 != 0) = true := bne_iff_ne.mpr c17
   exact absurd ((Option.some.inj H).trans HRT.out) (by decide)
 rw [if_pos c17] at H
 have c17b0 : (t138 == 0) = true := beq_iff_eq.mpr c17
 have c17b1 : (t138 != 0) = false := bne_eq_false_iff_eq.mpr c17
 clear c17
 by_cases c18 : t144 = 0
 rotate_left
 · rw [if_neg c18] at H
   have c18b0 : (t144 == 0) = false := beq_eq_false_iff_ne.mpr c18
   have c18b1 : (t144 != 0) = true := bne_iff_ne.mpr c18
   exact absurd ((Option.some.inj H).trans HRT.out) (by decide)
 rw [if_pos c18] at H
 have c18b0 : (t144 == 0) = true := beq_iff_eq.mpr c18
 have c18b1 : (t144 != 0) = false := bne_eq_false_iff_eq.mpr c18
 clear c18
 by_cases c19 : t150 = 0
 rotate_left
 · rw [if_neg c19] at H
   have c19b0 : (t150 == 0) = false := beq_eq_false_iff_ne.mpr c19
   have c19b1 : (t150 != 0) = true := bne_iff_ne.mpr c19
   exact absurd ((Option.some.inj H).trans HRT.out) (by decide)
 rw [if_pos c19] at H
 have c19b0 : (t150 == 0) = true := beq_iff_eq.mpr c19
 have c19b1 : (t150 != 0) = false := bne_eq_false_iff_eq.mpr c19
 clear c19
 by_cases c20 : t152 = 2
 rotate_left
 · rw [if_neg c20] at H
   have c20b0 : (t152 == 2) = false := beq_eq_false_iff_ne.mpr c20
   have c20b1 : (t152 != 2) = true := bne_iff_ne.mpr c20
   exact absurd ((Option.some.inj H).trans HRT.out) (by decide)
 rw [if_pos c20] at H
 have c20b0 : (t152 == 2) = true := beq_iff_eq.mpr c20
 have c20b1 : (t152 != 2) = false := bne_eq_false_iff_eq.mpr c20
 clear c20
 replace H := Option.bind_eq_some_iff.mp H
 obtain ⟨t153, A210, H⟩ := H
 replace H : (if t153 = 0 then ((derive_Yield.f 0 0 ([] : List (S43))).bind fun t154 => (some ((t154.length : Int) == 1))) else (some false)) = some r := H
 have A21 := Aside0.mk A210
 clear A210
 by_cases c22 : t153 = 0
 rotate_left
 · rw [if_neg c22] at H
   have c22b0 : (t153 == 0) = false := beq_eq_false_iff_ne.mpr c22
   have c22b1 : (t153 != 0) = true := bne_iff_ne.mpr c22
   exact absurd ((Option.some.inj H).trans HRT.out) (by decide)
 rw [if_pos c22] at H
 have c22b0 : (t153 == 0) = true := beq_iff_eq.mpr c22
 have c22b1 : (t153 != 0) = false := bne_eq_false_iff_eq.mpr c22
 clear c22
 replace H := Option.bind_eq_some_iff.mp H
 obtain ⟨t154, A230, H⟩ := H
 replace H : (some ((t154.length : Int) == 1)) = some r := H
 have A23 := Aside0.mk A230
 clear A230
 as_aux_lemma =>
  obtain rfl := Option.some.inj H
  go_enter Try.func10, Try.ntmps10
  try go_wp2_with (first | ((with_reducible refine gate_callee (f := 29) rfl ?_); refine goesL_ (some 14) rfl rfl Try.func29 (by kernel_rfl) rfl #[] rfl (by (try simp only [List.map_toArray, List.map_cons, List.map_nil]); first | done | rfl | (simp only [List.length_drop, List.length_take]; rfl)) ?_; (with_reducible refine (rootstocklaw14_Sums.calls  t117 t118 t119 t120 _ A1.out).mono ?_); rintro e w24 ⟨v121, rfl, ho0, hb⟩; refine ⟨_, rfl, ?_⟩; have n0_ := Aside0.mk (Kd.R_lower ho0 (below_size (by repeat (first | (with_reducible first | exact HB.out | apply below_alloc | apply pw_below_drewN | apply below_drew1) | exact HB.out)))); have n1_ := Aside0.mk (below_step (by repeat (first | (with_reducible first | exact HB.out | apply below_alloc | apply pw_below_drewN | apply below_drew1) | exact HB.out)) hb); clear HB; have HO122 := n0_; have HB := n1_; clear n0_ n1_; (try clear hb); (try clear hb2); (try clear hk); (try clear hi); (try clear ho0)) | ((with_reducible refine gate_dst (N := 1) rfl ?_); (try (refine gate_guard (by rfl) ?_; dsimp only)); refine box_event ?hg (N := 1) ?hd (cs := #[.int .i64 0, .int .i64 0, .int .i64 0, .slice none 0 0]) (t := 24) ?hr ?_; (case hd => rfl); (case hg => rfl); (case hr => first | (go_simp; done) | (go_simp; rfl)); intro gb123 hg w25 hbox hb; have n0_ := Aside0.mk (Kd.R_below (by (with_reducible repeat (first | apply Kd.R_alloc | apply Kd.R_drewN | apply Kd.R_drew)); exact HO122.out) hb); have n1_ := Aside0.mk (below_step (by repeat (first | (with_reducible first | exact HB.out | apply below_alloc | apply pw_below_drewN | apply below_drew1) | exact HB.out)) hb); have n2_ := Aside0.mk (hbox); have n3_ := Aside0.mk ((by rw [hg]; exact (below_size (by repeat (first | (with_reducible first | exact HB.out | apply below_alloc | apply pw_below_drewN | apply below_drew1) | exact HB.out))) : w.heap.size ≤ gb123)); have n4_ := Aside0.mk ((by rw [hg]; exact (below_size (by repeat (first | (with_reducible first | exact HB.out | apply below_alloc | apply pw_below_drewN | apply below_drew1) | exact HB.out))) : w.heap.size ≤ gb123)); clear HO122; clear HB; have HO122 := n0_; have HB := n1_; have BK123 := n2_; have GW123 := n3_; have GE123 := n4_; clear n0_ n1_ n2_ n3_ n4_; clear hb hbox hg; have hcz26_0 : w25.cell? ⟨gb123, 0, none⟩ = some (.int .i64 0) := (blk_cell BK123.out 0).trans rfl; have hcz26_1 : w25.cell? ⟨gb123, 1, none⟩ = some (.int .i64 0) := (blk_cell BK123.out 1).trans rfl; have hcz26_2 : w25.cell? ⟨gb123, 2, none⟩ = some (.int .i64 0) := (blk_cell BK123.out 2).trans rfl; have hcz26_3 : w25.cell? ⟨gb123, 3, none⟩ = some (.slice none 0 0) := (blk_cell BK123.out 3).trans rfl; have hfz26_0 := blk_frozen BK123.out 0; have hfz26_1 := blk_frozen BK123.out 1; have hfz26_2 := blk_frozen BK123.out 2; have hfz26_3 := blk_frozen BK123.out 3; obtain ⟨Ao27, co27, eo27⟩ := Kd.R_slice HO122.out; subst eo27))
  have n0_ : Aside0 (Kd.R k55 55 ((((w25.setCell ⟨gb123, 0, none⟩ (.int .i64 t117)).setCell ⟨gb123, 1, none⟩ (.int .i64 t118)).setCell ⟨gb123, 2, none⟩ (.int .i64 t119)).setCell ⟨gb123, 3, none⟩ (.slice Ao27 t120.length co27)) w.heap.size (fun _ => True) (.slice Ao27 t120.length co27) t120) := ⟨by (with_reducible repeat (first | apply Kd.R_alloc | apply Kd.R_drewN | apply Kd.R_drew)); exact Kd.R_mono (Kd.R_far (p := ⟨gb123, 3, none⟩) (Kd.R_far (p := ⟨gb123, 2, none⟩) (Kd.R_far (p := ⟨gb123, 1, none⟩) (Kd.R_far (p := ⟨gb123, 0, none⟩) (Kd.R_types HO122.out BK123.out (by decide)) (fun _ hk => hk.2) (.int .i64 t117)) (fun _ hk => hk.2) (.int .i64 t118)) (fun _ hk => hk.2) (.int .i64 t119)) (fun _ hk => hk.2) (.slice Ao27 t120.length co27)) (fun _ hk => trivial)⟩
  have n1_ : Aside0 (((((w25.setCell ⟨gb123, 0, none⟩ (.int .i64 t117)).setCell ⟨gb123, 1, none⟩ (.int .i64 t118)).setCell ⟨gb123, 2, none⟩ (.int .i64 t119)).setCell ⟨gb123, 3, none⟩ (.slice Ao27 t120.length co27)).heap[gb123]? = some (.cells #[.int .i64 t117, .int .i64 t118, .int .i64 t119, .slice Ao27 t120.length co27] 24 (0, 0))) := ⟨by (with_reducible repeat (first | refine blk_drewN ?_ _ | refine blk_drew ?_ | refine blk_alloc ?_ _)); refine blk_put (cs := #[.int .i64 t117, .int .i64 t118, .int .i64 t119, .slice none 0 0]) ?_ 3 _ rfl; (with_reducible repeat (first | refine blk_drewN ?_ _ | refine blk_drew ?_ | refine blk_alloc ?_ _)); refine blk_put (cs := #[.int .i64 t117, .int .i64 t118, .int .i64 0, .slice none 0 0]) ?_ 2 _ rfl; (with_reducible repeat (first | refine blk_drewN ?_ _ | refine blk_drew ?_ | refine blk_alloc ?_ _)); refine blk_put (cs := #[.int .i64 t117, .int .i64 0, .int .i64 0, .slice none 0 0]) ?_ 1 _ rfl; (with_reducible repeat (first | refine blk_drewN ?_ _ | refine blk_drew ?_ | refine blk_alloc ?_ _)); refine blk_put (cs := #[.int .i64 0, .int .i64 0, .int .i64 0, .slice none 0 0]) ?_ 0 _ rfl; (with_reducible repeat (first | refine blk_drewN ?_ _ | refine blk_drew ?_ | refine blk_alloc ?_ _)); exact BK123.out⟩
  have n2_ : Aside0 (Below w.heap.size w ((((w25.setCell ⟨gb123, 0, none⟩ (.int .i64 t117)).setCell ⟨gb123, 1, none⟩ (.int .i64 t118)).setCell ⟨gb123, 2, none⟩ (.int .i64 t119)).setCell ⟨gb123, 3, none⟩ (.slice Ao27 t120.length co27))) := ⟨by repeat (first | (with_reducible first | exact HB.out | apply below_alloc | apply pw_below_drewN | apply below_drew1 | refine below_set ?_ GE123.out) | exact HB.out)⟩
  (try clear HO122)
  (try clear BK123)
  (try clear HB)
  generalize ((((w25.setCell ⟨gb123, 0, none⟩ (.int .i64 t117)).setCell ⟨gb123, 1, none⟩ (.int .i64 t118)).setCell ⟨gb123, 2, none⟩ (.int .i64 t119)).setCell ⟨gb123, 3, none⟩ (.slice Ao27 t120.length co27)) = w28 at n0_ n1_ n2_ ⊢
  have HO122 := n0_
  have BK123 := n1_
  have HB := n2_
  clear n0_ n1_ n2_
  have n0_ := Aside0.mk (Kd.R_drew HO122.out)
  have n1_ := Aside0.mk (blk_drew BK123.out)
  have n2_ := Aside0.mk (below_drew1 HB.out)
  clear HO122
  clear BK123
  clear HB
  have HO122 := n0_
  have BK123 := n1_
  have HB := n2_
  clear n0_ n1_ n2_
  refine start_ (n := 8) (S := fun w' => w'.cell? ⟨gb123, 0, none⟩ = some (.int .i64 t117) ∧ w'.cell? ⟨gb123, 1, none⟩ = some (.int .i64 t118) ∧ w'.cell? ⟨gb123, 2, none⟩ = some (.int .i64 t119) ∧ w'.cell? ⟨gb123, 3, none⟩ = some (.slice Ao27 t120.length co27)) (ds := []) #[false, false, false, false, false, false, false, false] (by kernel_rfl) rfl rfl ⟨(blk_cell BK123.out 0).trans rfl, (blk_cell BK123.out 1).trans rfl, (blk_cell BK123.out 2).trans rfl, (blk_cell BK123.out 3).trans rfl⟩ (fun hHeld => ?_); refine with_tabW rootstocklaw14_lives.tab2 rootstocklaw14_lives.bits2 (fun HT_ HW_ => ?_)
  generalize w28.drew = w29 at HO122 BK123 HB hHeld ⊢
  refine take_ (i := 0) (N := some 16) (v := ?_) (a' := ?_) #[true, false, false, false, false, false, false, false] rfl rfl (take_ofW HT_.out HW_.out (by kernel_rfl)) (fun _ _ _ h => h) (Or.inl ⟨by rfl, ?_⟩) hHeld ?_ ?_
  rotate_left
  · rintro w' ⟨s0, s1, s2, s3⟩
    go_simp
    with_reducible rfl
  rotate_left
  · simp only [Act.put, List.setIfInBounds_toArray, List.set_cons_zero, List.set_cons_succ, i64_w, i32_w]
    rfl
  refine one_ (i := 1) (N := some 17) #[true, true, false, false, false, false, false, false] rfl rfl (one_of HT_.out (by kernel_rfl)) (by decide) (fun K hK => ?_)
  refine goes_ Try.func28 (by kernel_rfl) rfl #[.int .i64 2] (by rfl) rfl rfl (by (try simp only [List.map_toArray, List.map_cons, List.map_nil]); first | done | rfl | (simp only [List.length_drop, List.length_take]; rfl)) ?_
  with_reducible refine (rootstocklaw14_Sum.calls k 2 t124 _ A2.out).mono ?_
  rintro e w30 ⟨v125, rfl, ho0, hb⟩
  refine ⟨_, rfl, ?_⟩
  have n0_ := Aside0.mk (Kd.R_elder' (by (with_reducible repeat (first | apply Kd.R_alloc | apply Kd.R_drewN | apply Kd.R_drew)); exact HO122.out) (Kd.R_base ho0) hb)
  have n1_ := Aside0.mk (Kd.R_lower ho0 (below_size (by repeat (first | (with_reducible first | exact HB.out | apply below_alloc | apply pw_below_drewN | apply below_drew1 | refine below_set ?_ GE123.out) | exact HB.out))))
  have n2_ := Aside0.mk (blk_below (g := gb123) (o := .cells #[.int .i64 t117, .int .i64 t118, .int .i64 t119, .slice Ao27 t120.length co27] 24 (0, 0)) (by (with_reducible repeat (first | refine blk_drewN ?_ _ | refine blk_drew ?_ | refine blk_alloc ?_ _)); exact BK123.out) hb)
  have n3_ := Aside0.mk (below_step (by repeat (first | (with_reducible first | exact HB.out | apply below_alloc | apply pw_below_drewN | apply below_drew1 | refine below_set ?_ GE123.out) | exact HB.out)) hb)
  clear HO122
  clear BK123
  clear HB
  have HO122 := n0_
  have HO126 := n1_
  have BK123 := n2_
  have HB := n3_
  clear n0_ n1_ n2_ n3_
  (try clear hb)
  (try clear hb2)
  (try clear hk)
  (try clear hi)
  (try clear ho0)
  obtain ⟨Ao31, co31, eo31⟩ := Kd.R_slice HO126.out
  (first | subst eo31 | (injection eo31 with f1_ f2_ f3_; have f4_ := f1_.symm; have f5_ := f3_.symm; clear f1_ f2_ f3_; subst f4_; subst f5_))
  refine hK.out _ _ ⟨(blk_cell BK123.out 0).trans rfl, (blk_cell BK123.out 1).trans rfl, (blk_cell BK123.out 2).trans rfl, (blk_cell BK123.out 3).trans rfl⟩ (fun hHeld => ?_)
  clear hK K
  refine norm_ (a' := ?_) ?_ ?_
  rotate_left
  · show Act.put _ (some 17) _ = _
    simp only [Act.put, List.setIfInBounds_toArray, List.set_cons_zero, List.set_cons_succ, i64_w, i32_w]
    rfl
  refine one_ (i := 2) (N := some 18) #[true, true, true, false, false, false, false, false] rfl rfl (one_of HT_.out (by kernel_rfl)) (by decide) (fun K hK => ?_)
  refine goes_ Try.func11 (by kernel_rfl) rfl #[.agg #[.int .i64 t117, .int .i64 t118, .int .i64 t119, .slice Ao27 t120.length co27], .int .i64 2, .slice Ao31 t124.length co31] (by rfl) rfl rfl (by (try simp only [List.map_toArray, List.map_cons, List.map_nil]); first | done | rfl | (simp only [List.length_drop, List.length_take]; rfl)) ?_
  with_reducible refine (derive_Derives.calls t117 t118 t119 _ _ t120 2 _ _ t124 true t128 _ ?side1 ?side2 ?side3 ?side4 A3.out).mono ?_
  (case side1 => repeat (first | exact (Kd.R_reads' HO122.out).2.2 | (with_reducible refine Kd.C_alloc ?_ _) | (with_reducible refine Kd.C_drewN ?_ _) | (with_reducible refine Kd.C_drew ?_)))
  (case side2 => exact (Kd.R_reads' HO122.out).2.1)
  (case side3 => repeat (first | exact (Kd.R_reads' HO126.out).2.2 | (with_reducible refine Kd.C_alloc ?_ _) | (with_reducible refine Kd.C_drewN ?_ _) | (with_reducible refine Kd.C_drew ?_)))
  (case side4 => exact (Kd.R_reads' HO126.out).2.1)
  rintro e w32 ⟨rfl, hb⟩
  refine ⟨_, rfl, ?_⟩
  have n0_ := Aside0.mk (Kd.R_below (by (with_reducible repeat (first | apply Kd.R_alloc | apply Kd.R_drewN | apply Kd.R_drew)); exact HO122.out) hb)
  have n1_ := Aside0.mk (Kd.R_below (by (with_reducible repeat (first | apply Kd.R_alloc | apply Kd.R_drewN | apply Kd.R_drew)); exact HO126.out) hb)
  have n2_ := Aside0.mk (blk_below (g := gb123) (o := .cells #[.int .i64 t117, .int .i64 t118, .int .i64 t119, .slice Ao27 t120.length co27] 24 (0, 0)) (by (with_reducible repeat (first | refine blk_drewN ?_ _ | refine blk_drew ?_ | refine blk_alloc ?_ _)); exact BK123.out) hb)
  have n3_ := Aside0.mk (below_step (by repeat (first | (with_reducible first | exact HB.out | apply below_alloc | apply pw_below_drewN | apply below_drew1 | refine below_set ?_ GE123.out) | exact HB.out)) hb)
  clear HO122
  clear HO126
  clear BK123
  clear HB
  have HO122 := n0_
  have HO126 := n1_
  have BK123 := n2_
  have HB := n3_
  clear n0_ n1_ n2_ n3_
  (try clear hb)
  (try clear hb2)
  (try clear hk)
  (try clear hi)
  refine hK.out _ _ ⟨(blk_cell BK123.out 0).trans rfl, (blk_cell BK123.out 1).trans rfl, (blk_cell BK123.out 2).trans rfl, (blk_cell BK123.out 3).trans rfl⟩ (fun hHeld => ?_)
  clear hK K
  refine norm_ (a' := ?_) ?_ ?_
  rotate_left
  · show Act.put _ (some 18) _ = _
    simp only [Act.put, List.setIfInBounds_toArray, List.set_cons_zero, List.set_cons_succ, i64_w, i32_w]
    rfl
  refine pure_ (i := 3) (N := some 15) (v := ?_) (a' := ?_) #[true, true, true, true, false, false, false, false] rfl rfl (any_of HT_.out (by kernel_rfl)) (fun _ _ _ h => h) (Or.inl ⟨by rfl, ?_⟩) ?_ ?_
  rotate_left
  · intro w'
    go_simp
    with_reducible rfl
  rotate_left
  · simp only [Act.put, List.setIfInBounds_toArray, List.set_cons_zero, List.set_cons_succ, i64_w, i32_w]
    rfl
  refine pure_ (i := 4) (N := some 19) (v := ?_) (a' := ?_) #[true, true, true, true, true, false, false, false] rfl rfl (any_of HT_.out (by kernel_rfl)) (fun _ _ _ h => h) (Or.inl ⟨by rfl, ?_⟩) ?_ ?_
  rotate_left
  · intro w'
    go_simp
    with_reducible rfl
  rotate_left
  · simp only [Act.put, List.setIfInBounds_toArray, List.set_cons_zero, List.set_cons_succ, i64_w, i32_w]
    rfl
  refine pure_ (i := 5) (N := some 20) (v := ?_) (a' := ?_) #[true, true, true, true, true, true, false, false] rfl rfl (any_of HT_.out (by kernel_rfl)) (fun _ _ _ h => h) (Or.inl ⟨by rfl, ?_⟩) ?_ ?_
  rotate_left
  · intro w'
    go_simp
    with_reducible rfl
  rotate_left
  · simp only [Act.put, List.setIfInBounds_toArray, List.set_cons_zero, List.set_cons_succ, i64_w, i32_w]
    rfl
  refine pure_ (i := 6) (N := some 2) (v := ?_) (a' := ?_) #[true, true, true, true, true, true, true, false] rfl rfl (any_of HT_.out (by kernel_rfl)) (fun _ _ _ h => h) (Or.inl ⟨by rfl, ?_⟩) ?_ ?_
  rotate_left
  · intro w'
    go_simp
    with_reducible rfl
  rotate_left
  · simp only [Act.put, List.setIfInBounds_toArray, List.set_cons_zero, List.set_cons_succ, i64_w, i32_w]
    rfl
  refine pure_ (i := 7) (N := some 3) (v := ?_) (a' := ?_) #[true, true, true, true, true, true, true, true] rfl rfl (any_of HT_.out (by kernel_rfl)) (fun _ _ _ h => h) (Or.inl ⟨by rfl, ?_⟩) ?_ ?_
  rotate_left
  · intro w'
    go_simp
    with_reducible rfl
  rotate_left
  · simp only [Act.put, List.setIfInBounds_toArray, List.set_cons_zero, List.set_cons_succ, i64_w, i32_w]
    rfl
  refine done_ (done_of HT_.out (by kernel_rfl)) ?_
  have hcz33_0 : w32.cell? ⟨gb123, 0, none⟩ = some (.int .i64 t117) := (blk_cell BK123.out 0).trans rfl
  have hcz33_1 : w32.cell? ⟨gb123, 1, none⟩ = some (.int .i64 t118) := (blk_cell BK123.out 1).trans rfl
  have hcz33_2 : w32.cell? ⟨gb123, 2, none⟩ = some (.int .i64 t119) := (blk_cell BK123.out 2).trans rfl
  have hcz33_3 : w32.cell? ⟨gb123, 3, none⟩ = some (.slice Ao27 t120.length co27) := (blk_cell BK123.out 3).trans rfl
  have hfz33_0 := blk_frozen BK123.out 0
  have hfz33_1 := blk_frozen BK123.out 1
  have hfz33_2 := blk_frozen BK123.out 2
  have hfz33_3 := blk_frozen BK123.out 3
  try go_wp2_with (first | ((with_reducible refine gate_dst (N := 23) rfl ?_); (try (refine gate_guard (by rfl) ?_; dsimp only)); refine Kd.R_lit (Kd.int .i64) _ 3 ?hg (N := 23) ?hd (xs := ([0, 1] : List Int)) (inner := [.int .i64 0, .int .i64 1]) (ok := fun _ => True) (okp := fun _ => True) ?hr ?hp (fun _ hk => hk) trivial (Below.refl _ _) (Nat.le_refl _) (by simp) ?_; (case hd => rfl); (case hg => rfl); (case hr => first | (go_simp; done) | (go_simp; rfl)); (case hp => exact (Reps.one (show Kd.M (Kd.int .i64) _ _ _ 0 [.int .i64 0] from rfl) (Reps.one (show Kd.M (Kd.int .i64) _ _ _ 1 [.int .i64 1] from rfl) (Reps.none _ _)))); intro v130 w34 ho35 hb hg_ hnew_; clear hg_ hnew_; (first | rw [← Ny129.out] at ho35 | (simp only [Int.reduceToNat] at ho35; rw [← Ny129.out] at ho35)); have n0_ := Aside0.mk (Kd.R_elder' (by (with_reducible repeat (first | apply Kd.R_alloc | apply Kd.R_drewN | apply Kd.R_drew)); exact HO122.out) (Kd.R_base ho35) hb); have n1_ := Aside0.mk (Kd.R_elder' (by (with_reducible repeat (first | apply Kd.R_alloc | apply Kd.R_drewN | apply Kd.R_drew)); exact HO126.out) (Kd.R_base ho35) hb); have n2_ := Aside0.mk (Kd.R_lower (Kd.R_new' ho35 (Kd.R_lt (by (with_reducible repeat (first | apply Kd.R_alloc | apply Kd.R_drewN | apply Kd.R_drew)); exact HO126.out))) (below_size (by repeat (first | (with_reducible first | exact HB.out | apply below_alloc | apply pw_below_drewN | apply below_drew1 | refine below_set ?_ GE123.out) | exact HB.out)))); have n3_ := Aside0.mk (blk_below (g := gb123) (o := .cells #[.int .i64 t117, .int .i64 t118, .int .i64 t119, .slice Ao27 t120.length co27] 24 (0, 0)) (by (with_reducible repeat (first | refine blk_drewN ?_ _ | refine blk_drew ?_ | refine blk_alloc ?_ _)); exact BK123.out) hb); have n4_ := Aside0.mk (below_step (by repeat (first | (with_reducible first | exact HB.out | apply below_alloc | apply pw_below_drewN | apply below_drew1 | refine below_set ?_ GE123.out) | exact HB.out)) hb); clear HO122; clear HO126; clear BK123; clear HB; have HO122 := n0_; have HO126 := n1_; have HO131 := n2_; have BK123 := n3_; have HB := n4_; clear n0_ n1_ n2_ n3_ n4_; clear hb ho35; obtain ⟨Ao36, co36, eo36⟩ := Kd.R_slice HO131.out; subst eo36) | ((with_reducible refine gate_callee (f := 11) rfl ?_); refine goesL_ (some 24) rfl rfl Try.func11 (by kernel_rfl) rfl #[.agg #[.int .i64 t117, .int .i64 t118, .int .i64 t119, .slice Ao27 t120.length co27], .int .i64 2, .slice Ao36 y129.length co36] rfl (by (try simp only [List.map_toArray, List.map_cons, List.map_nil]); first | done | rfl | (simp only [List.length_drop, List.length_take]; rfl)) ?_; (with_reducible refine (derive_Derives.calls t117 t118 t119 _ _ t120 2 _ _ y129 false t133 _ ?side1 ?side2 ?side3 ?side4 A4.out).mono ?_); (case side1 => repeat (first | exact (Kd.R_reads' HO122.out).2.2 | (with_reducible refine Kd.C_alloc ?_ _) | (with_reducible refine Kd.C_drewN ?_ _) | (with_reducible refine Kd.C_drew ?_))); (case side2 => exact (Kd.R_reads' HO122.out).2.1); (case side3 => repeat (first | exact (Kd.R_reads' HO131.out).2.2 | (with_reducible refine Kd.C_alloc ?_ _) | (with_reducible refine Kd.C_drewN ?_ _) | (with_reducible refine Kd.C_drew ?_))); (case side4 => exact (Kd.R_reads' HO131.out).2.1); rintro e w37 ⟨rfl, hb⟩; refine ⟨_, rfl, ?_⟩; have n0_ := Aside0.mk (Kd.R_below (by (with_reducible repeat (first | apply Kd.R_alloc | apply Kd.R_drewN | apply Kd.R_drew)); exact HO122.out) hb); have n1_ := Aside0.mk (Kd.R_below (by (with_reducible repeat (first | apply Kd.R_alloc | apply Kd.R_drewN | apply Kd.R_drew)); exact HO126.out) hb); have n2_ := Aside0.mk (Kd.R_below (by (with_reducible repeat (first | apply Kd.R_alloc | apply Kd.R_drewN | apply Kd.R_drew)); exact HO131.out) hb); have n3_ := Aside0.mk (blk_below (g := gb123) (o := .cells #[.int .i64 t117, .int .i64 t118, .int .i64 t119, .slice Ao27 t120.length co27] 24 (0, 0)) (by (with_reducible repeat (first | refine blk_drewN ?_ _ | refine blk_drew ?_ | refine blk_alloc ?_ _)); exact BK123.out) hb); have n4_ := Aside0.mk (below_step (by repeat (first | (with_reducible first | exact HB.out | apply below_alloc | apply pw_below_drewN | apply below_drew1 | refine below_set ?_ GE123.out) | exact HB.out)) hb); clear HO122; clear HO126; clear HO131; clear BK123; clear HB; have HO122 := n0_; have HO126 := n1_; have HO131 := n2_; have BK123 := n3_; have HB := n4_; clear n0_ n1_ n2_ n3_ n4_; (try clear hb); (try clear hb2); (try clear hk); (try clear hi); have hcz38_0 : w37.cell? ⟨gb123, 0, none⟩ = some (.int .i64 t117) := (blk_cell BK123.out 0).trans rfl; have hcz38_1 : w37.cell? ⟨gb123, 1, none⟩ = some (.int .i64 t118) := (blk_cell BK123.out 1).trans rfl; have hcz38_2 : w37.cell? ⟨gb123, 2, none⟩ = some (.int .i64 t119) := (blk_cell BK123.out 2).trans rfl; have hcz38_3 : w37.cell? ⟨gb123, 3, none⟩ = some (.slice Ao27 t120.length co27) := (blk_cell BK123.out 3).trans rfl; have hfz38_0 := blk_frozen BK123.out 0; have hfz38_1 := blk_frozen BK123.out 1; have hfz38_2 := blk_frozen BK123.out 2; have hfz38_3 := blk_frozen BK123.out 3) | ((with_reducible refine gate_dst (N := 29) rfl ?_); (try (refine gate_guard (by rfl) ?_; dsimp only)); refine Kd.R_lit (Kd.int .i64) _ 3 ?hg (N := 29) ?hd (xs := ([0, 1] : List Int)) (inner := [.int .i64 0, .int .i64 1]) (ok := fun _ => True) (okp := fun _ => True) ?hr ?hp (fun _ hk => hk) trivial (Below.refl _ _) (Nat.le_refl _) (by simp) ?_; (case hd => rfl); (case hg => rfl); (case hr => first | (go_simp; done) | (go_simp; rfl)); (case hp => exact (Reps.one (show Kd.M (Kd.int .i64) _ _ _ 0 [.int .i64 0] from rfl) (Reps.one (show Kd.M (Kd.int .i64) _ _ _ 1 [.int .i64 1] from rfl) (Reps.none _ _)))); intro v135 w39 ho40 hb hg_ hnew_; clear hg_ hnew_; (first | rw [← Ny134.out] at ho40 | (simp only [Int.reduceToNat] at ho40; rw [← Ny134.out] at ho40)); have n0_ := Aside0.mk (Kd.R_elder' (by (with_reducible repeat (first | apply Kd.R_alloc | apply Kd.R_drewN | apply Kd.R_drew)); exact HO122.out) (Kd.R_base ho40) hb); have n1_ := Aside0.mk (Kd.R_elder' (by (with_reducible repeat (first | apply Kd.R_alloc | apply Kd.R_drewN | apply Kd.R_drew)); exact HO126.out) (Kd.R_base ho40) hb); have n2_ := Aside0.mk (Kd.R_elder' (by (with_reducible repeat (first | apply Kd.R_alloc | apply Kd.R_drewN | apply Kd.R_drew)); exact HO131.out) (Kd.R_base ho40) hb); have n3_ := Aside0.mk (Kd.R_lower (Kd.R_new' (Kd.R_new' ho40 (Kd.R_lt (by (with_reducible repeat (first | apply Kd.R_alloc | apply Kd.R_drewN | apply Kd.R_drew)); exact HO126.out))) (Kd.R_lt (by (with_reducible repeat (first | apply Kd.R_alloc | apply Kd.R_drewN | apply Kd.R_drew)); exact HO131.out))) (below_size (by repeat (first | (with_reducible first | exact HB.out | apply below_alloc | apply pw_below_drewN | apply below_drew1 | refine below_set ?_ GE123.out) | exact HB.out)))); have n4_ := Aside0.mk (blk_below (g := gb123) (o := .cells #[.int .i64 t117, .int .i64 t118, .int .i64 t119, .slice Ao27 t120.length co27] 24 (0, 0)) (by (with_reducible repeat (first | refine blk_drewN ?_ _ | refine blk_drew ?_ | refine blk_alloc ?_ _)); exact BK123.out) hb); have n5_ := Aside0.mk (below_step (by repeat (first | (with_reducible first | exact HB.out | apply below_alloc | apply pw_below_drewN | apply below_drew1 | refine below_set ?_ GE123.out) | exact HB.out)) hb); clear HO122; clear HO126; clear HO131; clear BK123; clear HB; have HO122 := n0_; have HO126 := n1_; have HO131 := n2_; have HO136 := n3_; have BK123 := n4_; have HB := n5_; clear n0_ n1_ n2_ n3_ n4_ n5_; clear hb ho40; obtain ⟨Ao41, co41, eo41⟩ := Kd.R_slice HO136.out; subst eo41) | ((with_reducible refine gate_callee (f := 15) rfl ?_); refine goesL_ (some 30) rfl rfl Try.func15 (by kernel_rfl) rfl #[.agg #[.int .i64 t117, .int .i64 t118, .int .i64 t119, .slice Ao27 t120.length co27], .slice Ao41 y134.length co41] rfl (by (try simp only [List.map_toArray, List.map_cons, List.map_nil]); first | done | rfl | (simp only [List.length_drop, List.length_take]; rfl)) ?_; (with_reducible refine (derive_Viable.calls t117 t118 t119 _ _ t120 _ _ y134 true t138 _ ?side1 ?side2 ?side3 ?side4 A5.out).mono ?_); (case side1 => repeat (first | exact (Kd.R_reads' HO122.out).2.2 | (with_reducible refine Kd.C_alloc ?_ _) | (with_reducible refine Kd.C_drewN ?_ _) | (with_reducible refine Kd.C_drew ?_))); (case side2 => exact (Kd.R_reads' HO122.out).2.1); (case side3 => repeat (first | exact (Kd.R_reads' HO136.out).2.2 | (with_reducible refine Kd.C_alloc ?_ _) | (with_reducible refine Kd.C_drewN ?_ _) | (with_reducible refine Kd.C_drew ?_))); (case side4 => exact (Kd.R_reads' HO136.out).2.1); rintro e w42 ⟨rfl, hb⟩; refine ⟨_, rfl, ?_⟩; have n0_ := Aside0.mk (Kd.R_below (by (with_reducible repeat (first | apply Kd.R_alloc | apply Kd.R_drewN | apply Kd.R_drew)); exact HO122.out) hb); have n1_ := Aside0.mk (Kd.R_below (by (with_reducible repeat (first | apply Kd.R_alloc | apply Kd.R_drewN | apply Kd.R_drew)); exact HO126.out) hb); have n2_ := Aside0.mk (Kd.R_below (by (with_reducible repeat (first | apply Kd.R_alloc | apply Kd.R_drewN | apply Kd.R_drew)); exact HO131.out) hb); have n3_ := Aside0.mk (Kd.R_below (by (with_reducible repeat (first | apply Kd.R_alloc | apply Kd.R_drewN | apply Kd.R_drew)); exact HO136.out) hb); have n4_ := Aside0.mk (blk_below (g := gb123) (o := .cells #[.int .i64 t117, .int .i64 t118, .int .i64 t119, .slice Ao27 t120.length co27] 24 (0, 0)) (by (with_reducible repeat (first | refine blk_drewN ?_ _ | refine blk_drew ?_ | refine blk_alloc ?_ _)); exact BK123.out) hb); have n5_ := Aside0.mk (below_step (by repeat (first | (with_reducible first | exact HB.out | apply below_alloc | apply pw_below_drewN | apply below_drew1 | refine below_set ?_ GE123.out) | exact HB.out)) hb); clear HO122; clear HO126; clear HO131; clear HO136; clear BK123; clear HB; have HO122 := n0_; have HO126 := n1_; have HO131 := n2_; have HO136 := n3_; have BK123 := n4_; have HB := n5_; clear n0_ n1_ n2_ n3_ n4_ n5_; (try clear hb); (try clear hb2); (try clear hk); (try clear hi); have hcz43_0 : w42.cell? ⟨gb123, 0, none⟩ = some (.int .i64 t117) := (blk_cell BK123.out 0).trans rfl; have hcz43_1 : w42.cell? ⟨gb123, 1, none⟩ = some (.int .i64 t118) := (blk_cell BK123.out 1).trans rfl; have hcz43_2 : w42.cell? ⟨gb123, 2, none⟩ = some (.int .i64 t119) := (blk_cell BK123.out 2).trans rfl; have hcz43_3 : w42.cell? ⟨gb123, 3, none⟩ = some (.slice Ao27 t120.length co27) := (blk_cell BK123.out 3).trans rfl; have hfz43_0 := blk_frozen BK123.out 0; have hfz43_1 := blk_frozen BK123.out 1; have hfz43_2 := blk_frozen BK123.out 2; have hfz43_3 := blk_frozen BK123.out 3) | ((with_reducible refine gate_dst (N := 35) rfl ?_); (try (refine gate_guard (by rfl) ?_; dsimp only)); refine Kd.R_lit (Kd.int .i64) _ 3 ?hg (N := 35) ?hd (xs := ([0, 0] : List Int)) (inner := [.int .i64 0, .int .i64 0]) (ok := fun _ => True) (okp := fun _ => True) ?hr ?hp (fun _ hk => hk) trivial (Below.refl _ _) (Nat.le_refl _) (by simp) ?_; (case hd => rfl); (case hg => rfl); (case hr => first | (go_simp; done) | (go_simp; rfl)); (case hp => exact (Reps.one (show Kd.M (Kd.int .i64) _ _ _ 0 [.int .i64 0] from rfl) (Reps.one (show Kd.M (Kd.int .i64) _ _ _ 0 [.int .i64 0] from rfl) (Reps.none _ _)))); intro v140 w44 ho45 hb hg_ hnew_; clear hg_ hnew_; (first | rw [← Ny139.out] at ho45 | (simp only [Int.reduceToNat] at ho45; rw [← Ny139.out] at ho45)); have n0_ := Aside0.mk (Kd.R_elder' (by (with_reducible repeat (first | apply Kd.R_alloc | apply Kd.R_drewN | apply Kd.R_drew)); exact HO122.out) (Kd.R_base ho45) hb); have n1_ := Aside0.mk (Kd.R_elder' (by (with_reducible repeat (first | apply Kd.R_alloc | apply Kd.R_drewN | apply Kd.R_drew)); exact HO126.out) (Kd.R_base ho45) hb); have n2_ := Aside0.mk (Kd.R_elder' (by (with_reducible repeat (first | apply Kd.R_alloc | apply Kd.R_drewN | apply Kd.R_drew)); exact HO131.out) (Kd.R_base ho45) hb); have n3_ := Aside0.mk (Kd.R_elder' (by (with_reducible repeat (first | apply Kd.R_alloc | apply Kd.R_drewN | apply Kd.R_drew)); exact HO136.out) (Kd.R_base ho45) hb); have n4_ := Aside0.mk (Kd.R_lower (Kd.R_new' (Kd.R_new' (Kd.R_new' ho45 (Kd.R_lt (by (with_reducible repeat (first | apply Kd.R_alloc | apply Kd.R_drewN | apply Kd.R_drew)); exact HO126.out))) (Kd.R_lt (by (with_reducible repeat (first | apply Kd.R_alloc | apply Kd.R_drewN | apply Kd.R_drew)); exact HO131.out))) (Kd.R_lt (by (with_reducible repeat (first | apply Kd.R_alloc | apply Kd.R_drewN | apply Kd.R_drew)); exact HO136.out))) (below_size (by repeat (first | (with_reducible first | exact HB.out | apply below_alloc | apply pw_below_drewN | apply below_drew1 | refine below_set ?_ GE123.out) | exact HB.out)))); have n5_ := Aside0.mk (blk_below (g := gb123) (o := .cells #[.int .i64 t117, .int .i64 t118, .int .i64 t119, .slice Ao27 t120.length co27] 24 (0, 0)) (by (with_reducible repeat (first | refine blk_drewN ?_ _ | refine blk_drew ?_ | refine blk_alloc ?_ _)); exact BK123.out) hb); have n6_ := Aside0.mk (below_step (by repeat (first | (with_reducible first | exact HB.out | apply below_alloc | apply pw_below_drewN | apply below_drew1 | refine below_set ?_ GE123.out) | exact HB.out)) hb); clear HO122; clear HO126; clear HO131; clear HO136; clear BK123; clear HB; have HO122 := n0_; have HO126 := n1_; have HO131 := n2_; have HO136 := n3_; have HO141 := n4_; have BK123 := n5_; have HB := n6_; clear n0_ n1_ n2_ n3_ n4_ n5_ n6_; clear hb ho45; obtain ⟨Ao46, co46, eo46⟩ := Kd.R_slice HO141.out; subst eo46) | ((with_reducible refine gate_callee (f := 17) rfl ?_); refine goesL_ (some 36) rfl rfl Try.func17 (by kernel_rfl) rfl #[.agg #[.int .i64 t117, .int .i64 t118, .int .i64 t119, .slice Ao27 t120.length co27], .slice Ao46 y139.length co46] rfl (by (try simp only [List.map_toArray, List.map_cons, List.map_nil]); first | done | rfl | (simp only [List.length_drop, List.length_take]; rfl)) ?_; (with_reducible refine (derive_Judge.calls k t117 t118 t119 _ _ t120 _ _ y139 t142 t143 t144 _ ?side1 ?side2 ?side3 ?side4 A6.out).mono ?_); (case side1 => repeat (first | exact (Kd.R_reads' HO122.out).2.2 | (with_reducible refine Kd.C_alloc ?_ _) | (with_reducible refine Kd.C_drewN ?_ _) | (with_reducible refine Kd.C_drew ?_))); (case side2 => exact (Kd.R_reads' HO122.out).2.1); (case side3 => repeat (first | exact (Kd.R_reads' HO141.out).2.2 | (with_reducible refine Kd.C_alloc ?_ _) | (with_reducible refine Kd.C_drewN ?_ _) | (with_reducible refine Kd.C_drew ?_))); (case side4 => exact (Kd.R_reads' HO141.out).2.1); rintro e w47 ⟨rfl, hb⟩; refine ⟨_, rfl, ?_⟩; have n0_ := Aside0.mk (Kd.R_below (by (with_reducible repeat (first | apply Kd.R_alloc | apply Kd.R_drewN | apply Kd.R_drew)); exact HO122.out) hb); have n1_ := Aside0.mk (Kd.R_below (by (with_reducible repeat (first | apply Kd.R_alloc | apply Kd.R_drewN | apply Kd.R_drew)); exact HO126.out) hb); have n2_ := Aside0.mk (Kd.R_below (by (with_reducible repeat (first | apply Kd.R_alloc | apply Kd.R_drewN | apply Kd.R_drew)); exact HO131.out) hb); have n3_ := Aside0.mk (Kd.R_below (by (with_reducible repeat (first | apply Kd.R_alloc | apply Kd.R_drewN | apply Kd.R_drew)); exact HO136.out) hb); have n4_ := Aside0.mk (Kd.R_below (by (with_reducible repeat (first | apply Kd.R_alloc | apply Kd.R_drewN | apply Kd.R_drew)); exact HO141.out) hb); have n5_ := Aside0.mk (blk_below (g := gb123) (o := .cells #[.int .i64 t117, .int .i64 t118, .int .i64 t119, .slice Ao27 t120.length co27] 24 (0, 0)) (by (with_reducible repeat (first | refine blk_drewN ?_ _ | refine blk_drew ?_ | refine blk_alloc ?_ _)); exact BK123.out) hb); have n6_ := Aside0.mk (below_step (by repeat (first | (with_reducible first | exact HB.out | apply below_alloc | apply pw_below_drewN | apply below_drew1 | refine below_set ?_ GE123.out) | exact HB.out)) hb); clear HO122; clear HO126; clear HO131; clear HO136; clear HO141; clear BK123; clear HB; have HO122 := n0_; have HO126 := n1_; have HO131 := n2_; have HO136 := n3_; have HO141 := n4_; have BK123 := n5_; have HB := n6_; clear n0_ n1_ n2_ n3_ n4_ n5_ n6_; (try clear hb); (try clear hb2); (try clear hk); (try clear hi)) | ((with_reducible refine gate_dst (N := 8) rfl ?_); (try (refine gate_guard (by rfl) ?_; dsimp only)); refine box_event ?hg (N := 8) ?hd (cs := #[.bool false, .int .i64 0]) (t := 35) ?hr ?_; (case hd => rfl); (case hg => rfl); (case hr => first | (go_simp; done) | (go_simp; rfl)); intro gb145 hg w48 hbox hb; have n0_ := Aside0.mk (Kd.R_below (by (with_reducible repeat (first | apply Kd.R_alloc | apply Kd.R_drewN | apply Kd.R_drew)); exact HO122.out) hb); have n1_ := Aside0.mk (Kd.R_below (by (with_reducible repeat (first | apply Kd.R_alloc | apply Kd.R_drewN | apply Kd.R_drew)); exact HO126.out) hb); have n2_ := Aside0.mk (Kd.R_below (by (with_reducible repeat (first | apply Kd.R_alloc | apply Kd.R_drewN | apply Kd.R_drew)); exact HO131.out) hb); have n3_ := Aside0.mk (Kd.R_below (by (with_reducible repeat (first | apply Kd.R_alloc | apply Kd.R_drewN | apply Kd.R_drew)); exact HO136.out) hb); have n4_ := Aside0.mk (Kd.R_below (by (with_reducible repeat (first | apply Kd.R_alloc | apply Kd.R_drewN | apply Kd.R_drew)); exact HO141.out) hb); have n5_ := Aside0.mk (blk_below (g := gb123) (o := .cells #[.int .i64 t117, .int .i64 t118, .int .i64 t119, .slice Ao27 t120.length co27] 24 (0, 0)) (by (with_reducible repeat (first | refine blk_drewN ?_ _ | refine blk_drew ?_ | refine blk_alloc ?_ _)); exact BK123.out) hb); have n6_ := Aside0.mk (below_step (by repeat (first | (with_reducible first | exact HB.out | apply below_alloc | apply pw_below_drewN | apply below_drew1 | refine below_set ?_ GE123.out) | exact HB.out)) hb); have n7_ := Aside0.mk (hbox); have n8_ := Aside0.mk ((by rw [hg]; exact (below_size (by repeat (first | (with_reducible first | exact HB.out | apply below_alloc | apply pw_below_drewN | apply below_drew1 | refine below_set ?_ GE123.out) | exact HB.out))) : w.heap.size ≤ gb145)); have n9_ := Aside0.mk ((by rw [hg]; exact (below_size (by repeat (first | (with_reducible first | exact HB.out | apply below_alloc | apply pw_below_drewN | apply below_drew1 | refine below_set ?_ GE123.out) | exact HB.out))) : w.heap.size ≤ gb145)); have n10_ := Aside0.mk ((by rw [hg]; exact Nat.ne_of_lt (blk_lt (g := gb123) (o := .cells #[.int .i64 t117, .int .i64 t118, .int .i64 t119, .slice Ao27 t120.length co27] 24 (0, 0)) (by (with_reducible repeat (first | refine blk_drewN ?_ _ | refine blk_drew ?_ | refine blk_alloc ?_ _)); exact BK123.out)) : gb123 ≠ gb145)); have n11_ := Aside0.mk ((by rw [hg]; exact Nat.ne_of_gt (blk_lt (g := gb123) (o := .cells #[.int .i64 t117, .int .i64 t118, .int .i64 t119, .slice Ao27 t120.length co27] 24 (0, 0)) (by (with_reducible repeat (first | refine blk_drewN ?_ _ | refine blk_drew ?_ | refine blk_alloc ?_ _)); exact BK123.out)) : gb145 ≠ gb123)); clear HO122; clear HO126; clear HO131; clear HO136; clear HO141; clear BK123; clear HB; have HO122 := n0_; have HO126 := n1_; have HO131 := n2_; have HO136 := n3_; have HO141 := n4_; have BK123 := n5_; have HB := n6_; have BK145 := n7_; have GW145 := n8_; have GE145 := n9_; have NB123_145 := n10_; have NB145_123 := n11_; clear n0_ n1_ n2_ n3_ n4_ n5_ n6_ n7_ n8_ n9_ n10_ n11_; clear hb hbox hg; have hnb49 := NB145_123.out; have hnc49 := NB123_145.out; have hcz50_0 : w48.cell? ⟨gb145, 0, none⟩ = some (.bool false) := (blk_cell BK145.out 0).trans rfl; have hcz50_1 : w48.cell? ⟨gb145, 1, none⟩ = some (.int .i64 0) := (blk_cell BK145.out 1).trans rfl; have hfz50_0 := blk_frozen BK145.out 0; have hfz50_1 := blk_frozen BK145.out 1))
  have n0_ : Aside0 (Kd.R k55 55 ((w48.setCell ⟨gb145, 0, none⟩ (.bool t142)).setCell ⟨gb145, 1, none⟩ (.int .i64 t143)) w.heap.size (fun k_ => some k_ ≠ (.slice Ao31 t124.length co31 : Value).ownBlock ∧ some k_ ≠ (.slice Ao36 y129.length co36 : Value).ownBlock ∧ some k_ ≠ (.slice Ao41 y134.length co41 : Value).ownBlock ∧ some k_ ≠ (.slice Ao46 y139.length co46 : Value).ownBlock) (.slice Ao27 t120.length co27) t120) := ⟨by (with_reducible repeat (first | apply Kd.R_alloc | apply Kd.R_drewN | apply Kd.R_drew)); exact Kd.R_mono (Kd.R_far (p := ⟨gb145, 1, none⟩) (Kd.R_far (p := ⟨gb145, 0, none⟩) (Kd.R_types HO122.out BK145.out (by decide)) (fun _ hk => hk.2) (.bool t142)) (fun _ hk => hk.2) (.int .i64 t143)) (fun _ hk => ⟨hk.1.1.1.1.2, ⟨hk.1.1.1.2, ⟨hk.1.1.2, hk.1.2⟩⟩⟩)⟩
  have n1_ : Aside0 (Kd.R (Kd.int .i64) 3 ((w48.setCell ⟨gb145, 0, none⟩ (.bool t142)).setCell ⟨gb145, 1, none⟩ (.int .i64 t143)) w.heap.size (fun k_ => some k_ ≠ (.slice Ao36 y129.length co36 : Value).ownBlock ∧ some k_ ≠ (.slice Ao41 y134.length co41 : Value).ownBlock ∧ some k_ ≠ (.slice Ao46 y139.length co46 : Value).ownBlock) (.slice Ao31 t124.length co31) t124) := ⟨by (with_reducible repeat (first | apply Kd.R_alloc | apply Kd.R_drewN | apply Kd.R_drew)); exact Kd.R_mono (Kd.R_far (p := ⟨gb145, 1, none⟩) (Kd.R_far (p := ⟨gb145, 0, none⟩) (Kd.R_types HO126.out BK145.out (by decide)) (fun _ hk => hk.2) (.bool t142)) (fun _ hk => hk.2) (.int .i64 t143)) (fun _ hk => ⟨hk.1.1.1.2, ⟨hk.1.1.2, hk.1.2⟩⟩)⟩
  have n2_ : Aside0 (Kd.R (Kd.int .i64) 3 ((w48.setCell ⟨gb145, 0, none⟩ (.bool t142)).setCell ⟨gb145, 1, none⟩ (.int .i64 t143)) w.heap.size (fun k_ => some k_ ≠ (.slice Ao31 t124.length co31 : Value).ownBlock ∧ some k_ ≠ (.slice Ao41 y134.length co41 : Value).ownBlock ∧ some k_ ≠ (.slice Ao46 y139.length co46 : Value).ownBlock) (.slice Ao36 y129.length co36) y129) := ⟨by (with_reducible repeat (first | apply Kd.R_alloc | apply Kd.R_drewN | apply Kd.R_drew)); exact Kd.R_mono (Kd.R_far (p := ⟨gb145, 1, none⟩) (Kd.R_far (p := ⟨gb145, 0, none⟩) (Kd.R_types HO131.out BK145.out (by decide)) (fun _ hk => hk.2) (.bool t142)) (fun _ hk => hk.2) (.int .i64 t143)) (fun _ hk => ⟨hk.1.1.1.2, ⟨hk.1.1.2, hk.1.2⟩⟩)⟩
  have n3_ : Aside0 (Kd.R (Kd.int .i64) 3 ((w48.setCell ⟨gb145, 0, none⟩ (.bool t142)).setCell ⟨gb145, 1, none⟩ (.int .i64 t143)) w.heap.size (fun k_ => some k_ ≠ (.slice Ao31 t124.length co31 : Value).ownBlock ∧ some k_ ≠ (.slice Ao36 y129.length co36 : Value).ownBlock ∧ some k_ ≠ (.slice Ao46 y139.length co46 : Value).ownBlock) (.slice Ao41 y134.length co41) y134) := ⟨by (with_reducible repeat (first | apply Kd.R_alloc | apply Kd.R_drewN | apply Kd.R_drew)); exact Kd.R_mono (Kd.R_far (p := ⟨gb145, 1, none⟩) (Kd.R_far (p := ⟨gb145, 0, none⟩) (Kd.R_types HO136.out BK145.out (by decide)) (fun _ hk => hk.2) (.bool t142)) (fun _ hk => hk.2) (.int .i64 t143)) (fun _ hk => ⟨hk.1.1.1.2, ⟨hk.1.1.2, hk.1.2⟩⟩)⟩
  have n4_ : Aside0 (Kd.R (Kd.int .i64) 3 ((w48.setCell ⟨gb145, 0, none⟩ (.bool t142)).setCell ⟨gb145, 1, none⟩ (.int .i64 t143)) w.heap.size (fun k_ => some k_ ≠ (.slice Ao31 t124.length co31 : Value).ownBlock ∧ some k_ ≠ (.slice Ao36 y129.length co36 : Value).ownBlock ∧ some k_ ≠ (.slice Ao41 y134.length co41 : Value).ownBlock) (.slice Ao46 y139.length co46) y139) := ⟨by (with_reducible repeat (first | apply Kd.R_alloc | apply Kd.R_drewN | apply Kd.R_drew)); exact Kd.R_mono (Kd.R_far (p := ⟨gb145, 1, none⟩) (Kd.R_far (p := ⟨gb145, 0, none⟩) (Kd.R_types HO141.out BK145.out (by decide)) (fun _ hk => hk.2) (.bool t142)) (fun _ hk => hk.2) (.int .i64 t143)) (fun _ hk => ⟨hk.1.1.1.2, ⟨hk.1.1.2, hk.1.2⟩⟩)⟩
  have n5_ : Aside0 (((w48.setCell ⟨gb145, 0, none⟩ (.bool t142)).setCell ⟨gb145, 1, none⟩ (.int .i64 t143)).heap[gb123]? = some (.cells #[.int .i64 t117, .int .i64 t118, .int .i64 t119, .slice Ao27 t120.length co27] 24 (0, 0))) := ⟨by (with_reducible repeat (first | refine blk_drewN ?_ _ | refine blk_drew ?_ | refine blk_alloc ?_ _)); refine blk_far ?_ NB123_145.out _; (with_reducible repeat (first | refine blk_drewN ?_ _ | refine blk_drew ?_ | refine blk_alloc ?_ _)); refine blk_far ?_ NB123_145.out _; (with_reducible repeat (first | refine blk_drewN ?_ _ | refine blk_drew ?_ | refine blk_alloc ?_ _)); exact BK123.out⟩
  have n6_ : Aside0 (((w48.setCell ⟨gb145, 0, none⟩ (.bool t142)).setCell ⟨gb145, 1, none⟩ (.int .i64 t143)).heap[gb145]? = some (.cells #[.bool t142, .int .i64 t143] 35 (0, 0))) := ⟨by (with_reducible repeat (first | refine blk_drewN ?_ _ | refine blk_drew ?_ | refine blk_alloc ?_ _)); refine blk_put (cs := #[.bool t142, .int .i64 0]) ?_ 1 _ rfl; (with_reducible repeat (first | refine blk_drewN ?_ _ | refine blk_drew ?_ | refine blk_alloc ?_ _)); refine blk_put (cs := #[.bool false, .int .i64 0]) ?_ 0 _ rfl; (with_reducible repeat (first | refine blk_drewN ?_ _ | refine blk_drew ?_ | refine blk_alloc ?_ _)); exact BK145.out⟩
  have n7_ : Aside0 (Below w.heap.size w ((w48.setCell ⟨gb145, 0, none⟩ (.bool t142)).setCell ⟨gb145, 1, none⟩ (.int .i64 t143))) := ⟨by repeat (first | (with_reducible first | exact HB.out | apply below_alloc | apply pw_below_drewN | apply below_drew1 | refine below_set ?_ GE123.out | refine below_set ?_ GE145.out) | exact HB.out)⟩
  (try clear HO122)
  (try clear HO126)
  (try clear HO131)
  (try clear HO136)
  (try clear HO141)
  (try clear BK123)
  (try clear BK145)
  (try clear HB)
  generalize ((w48.setCell ⟨gb145, 0, none⟩ (.bool t142)).setCell ⟨gb145, 1, none⟩ (.int .i64 t143)) = w51 at n0_ n1_ n2_ n3_ n4_ n5_ n6_ n7_ ⊢
  have HO122 := n0_
  have HO126 := n1_
  have HO131 := n2_
  have HO136 := n3_
  have HO141 := n4_
  have BK123 := n5_
  have BK145 := n6_
  have HB := n7_
  clear n0_ n1_ n2_ n3_ n4_ n5_ n6_ n7_
  have n0_ := Aside0.mk (Kd.R_drew HO122.out)
  have n1_ := Aside0.mk (Kd.R_drew HO126.out)
  have n2_ := Aside0.mk (Kd.R_drew HO131.out)
  have n3_ := Aside0.mk (Kd.R_drew HO136.out)
  have n4_ := Aside0.mk (Kd.R_drew HO141.out)
  have n5_ := Aside0.mk (blk_drew BK123.out)
  have n6_ := Aside0.mk (blk_drew BK145.out)
  have n7_ := Aside0.mk (below_drew1 HB.out)
  clear HO122
  clear HO126
  clear HO131
  clear HO136
  clear HO141
  clear BK123
  clear BK145
  clear HB
  have HO122 := n0_
  have HO126 := n1_
  have HO131 := n2_
  have HO136 := n3_
  have HO141 := n4_
  have BK123 := n5_
  have BK145 := n6_
  have HB := n7_
  clear n0_ n1_ n2_ n3_ n4_ n5_ n6_ n7_
  refine start_ (n := 8) (S := fun w' => w'.cell? ⟨gb123, 0, none⟩ = some (.int .i64 t117) ∧ w'.cell? ⟨gb123, 1, none⟩ = some (.int .i64 t118) ∧ w'.cell? ⟨gb123, 2, none⟩ = some (.int .i64 t119) ∧ w'.cell? ⟨gb123, 3, none⟩ = some (.slice Ao27 t120.length co27)) (ds := []) #[false, false, false, false, false, false, false, false] (by kernel_rfl) rfl rfl ⟨(blk_cell BK123.out 0).trans rfl, (blk_cell BK123.out 1).trans rfl, (blk_cell BK123.out 2).trans rfl, (blk_cell BK123.out 3).trans rfl⟩ (fun hHeld => ?_); refine with_tabW rootstocklaw14_lives.tab6 rootstocklaw14_lives.bits6 (fun HT_ HW_ => ?_)
  generalize w51.drew = w52 at HO122 HO126 HO131 HO136 HO141 BK123 BK145 HB hHeld ⊢
  refine take_ (i := 0) (N := some 40) (v := ?_) (a' := ?_) #[true, false, false, false, false, false, false, false] rfl rfl (take_ofW HT_.out HW_.out (by kernel_rfl)) (fun _ _ _ h => h) (Or.inl ⟨by rfl, ?_⟩) hHeld ?_ ?_
  rotate_left
  · rintro w' ⟨s0, s1, s2, s3⟩
    go_simp
    with_reducible rfl
  rotate_left
  · simp only [Act.put, List.setIfInBounds_toArray, List.set_cons_zero, List.set_cons_succ, i64_w, i32_w]
    rfl
  refine one_ (i := 1) (N := some 41) #[true, true, false, false, false, false, false, false] rfl rfl (one_of HT_.out (by kernel_rfl)) (by decide) (fun K hK => ?_)
  refine goes_ Try.func28 (by kernel_rfl) rfl #[.int .i64 3] (by rfl) rfl rfl (by (try simp only [List.map_toArray, List.map_cons, List.map_nil]); first | done | rfl | (simp only [List.length_drop, List.length_take]; rfl)) ?_
  with_reducible refine (rootstocklaw14_Sum.calls k 3 t146 _ A7.out).mono ?_
  rintro e w53 ⟨v147, rfl, ho0, hb⟩
  refine ⟨_, rfl, ?_⟩
  have n0_ := Aside0.mk (Kd.R_elder' (by (with_reducible repeat (first | apply Kd.R_alloc | apply Kd.R_drewN | apply Kd.R_drew)); exact HO122.out) (Kd.R_base ho0) hb)
  have n1_ := Aside0.mk (Kd.R_elder' (by (with_reducible repeat (first | apply Kd.R_alloc | apply Kd.R_drewN | apply Kd.R_drew)); exact HO126.out) (Kd.R_base ho0) hb)
  have n2_ := Aside0.mk (Kd.R_elder' (by (with_reducible repeat (first | apply Kd.R_alloc | apply Kd.R_drewN | apply Kd.R_drew)); exact HO131.out) (Kd.R_base ho0) hb)
  have n3_ := Aside0.mk (Kd.R_elder' (by (with_reducible repeat (first | apply Kd.R_alloc | apply Kd.R_drewN | apply Kd.R_drew)); exact HO136.out) (Kd.R_base ho0) hb)
  have n4_ := Aside0.mk (Kd.R_elder' (by (with_reducible repeat (first | apply Kd.R_alloc | apply Kd.R_drewN | apply Kd.R_drew)); exact HO141.out) (Kd.R_base ho0) hb)
  have n5_ := Aside0.mk (Kd.R_lower (Kd.R_new' (Kd.R_new' (Kd.R_new' (Kd.R_new' ho0 (Kd.R_lt (by (with_reducible repeat (first | apply Kd.R_alloc | apply Kd.R_drewN | apply Kd.R_drew)); exact HO126.out))) (Kd.R_lt (by (with_reducible repeat (first | apply Kd.R_alloc | apply Kd.R_drewN | apply Kd.R_drew)); exact HO131.out))) (Kd.R_lt (by (with_reducible repeat (first | apply Kd.R_alloc | apply Kd.R_drewN | apply Kd.R_drew)); exact HO136.out))) (Kd.R_lt (by (with_reducible repeat (first | apply Kd.R_alloc | apply Kd.R_drewN | apply Kd.R_drew)); exact HO141.out))) (below_size (by repeat (first | (with_reducible first | exact HB.out | apply below_alloc | apply pw_below_drewN | apply below_drew1 | refine below_set ?_ GE123.out | refine below_set ?_ GE145.out) | exact HB.out))))
  have n6_ := Aside0.mk (blk_below (g := gb123) (o := .cells #[.int .i64 t117, .int .i64 t118, .int .i64 t119, .slice Ao27 t120.length co27] 24 (0, 0)) (by (with_reducible repeat (first | refine blk_drewN ?_ _ | refine blk_drew ?_ | refine blk_alloc ?_ _)); exact BK123.out) hb)
  have n7_ := Aside0.mk (blk_below (g := gb145) (o := .cells #[.bool t142, .int .i64 t143] 35 (0, 0)) (by (with_reducible repeat (first | refine blk_drewN ?_ _ | refine blk_drew ?_ | refine blk_alloc ?_ _)); exact BK145.out) hb)
  have n8_ := Aside0.mk (below_step (by repeat (first | (with_reducible first | exact HB.out | apply below_alloc | apply pw_below_drewN | apply below_drew1 | refine below_set ?_ GE123.out | refine below_set ?_ GE145.out) | exact HB.out)) hb)
  clear HO122
  clear HO126
  clear HO131
  clear HO136
  clear HO141
  clear BK123
  clear BK145
  clear HB
  have HO122 := n0_
  have HO126 := n1_
  have HO131 := n2_
  have HO136 := n3_
  have HO141 := n4_
  have HO148 := n5_
  have BK123 := n6_
  have BK145 := n7_
  have HB := n8_
  clear n0_ n1_ n2_ n3_ n4_ n5_ n6_ n7_ n8_
  (try clear hb)
  (try clear hb2)
  (try clear hk)
  (try clear hi)
  (try clear ho0)
  obtain ⟨Ao54, co54, eo54⟩ := Kd.R_slice HO148.out
  (first | subst eo54 | (injection eo54 with f1_ f2_ f3_; have f4_ := f1_.symm; have f5_ := f3_.symm; clear f1_ f2_ f3_; subst f4_; subst f5_))
  refine hK.out _ _ ⟨(blk_cell BK123.out 0).trans rfl, (blk_cell BK123.out 1).trans rfl, (blk_cell BK123.out 2).trans rfl, (blk_cell BK123.out 3).trans rfl⟩ (fun hHeld => ?_)
  clear hK K
  refine norm_ (a' := ?_) ?_ ?_
  rotate_left
  · show Act.put _ (some 41) _ = _
    simp only [Act.put, List.setIfInBounds_toArray, List.set_cons_zero, List.set_cons_succ, i64_w, i32_w]
    rfl
  refine one_ (i := 2) (N := some 42) #[true, true, true, false, false, false, false, false] rfl rfl (one_of HT_.out (by kernel_rfl)) (by decide) (fun K hK => ?_)
  refine goes_ Try.func19 (by kernel_rfl) rfl #[.agg #[.int .i64 t117, .int .i64 t118, .int .i64 t119, .slice Ao27 t120.length co27], .int .i64 2, .slice Ao54 t146.length co54] (by rfl) rfl rfl (by (try simp only [List.map_toArray, List.map_cons, List.map_nil]); first | done | rfl | (simp only [List.length_drop, List.length_take]; rfl)) ?_
  with_reducible refine (derive_Count.calls t117 t118 t119 _ _ t120 2 _ _ t146 t149 t150 _ ?side1 ?side2 ?side3 ?side4 A8.out).mono ?_
  (case side1 => repeat (first | exact (Kd.R_reads' HO122.out).2.2 | (with_reducible refine Kd.C_alloc ?_ _) | (with_reducible refine Kd.C_drewN ?_ _) | (with_reducible refine Kd.C_drew ?_)))
  (case side2 => exact (Kd.R_reads' HO122.out).2.1)
  (case side3 => repeat (first | exact (Kd.R_reads' HO148.out).2.2 | (with_reducible refine Kd.C_alloc ?_ _) | (with_reducible refine Kd.C_drewN ?_ _) | (with_reducible refine Kd.C_drew ?_)))
  (case side4 => exact (Kd.R_reads' HO148.out).2.1)
  rintro e w55 ⟨rfl, hb⟩
  refine ⟨_, rfl, ?_⟩
  have n0_ := Aside0.mk (Kd.R_below (by (with_reducible repeat (first | apply Kd.R_alloc | apply Kd.R_drewN | apply Kd.R_drew)); exact HO122.out) hb)
  have n1_ := Aside0.mk (Kd.R_below (by (with_reducible repeat (first | apply Kd.R_alloc | apply Kd.R_drewN | apply Kd.R_drew)); exact HO126.out) hb)
  have n2_ := Aside0.mk (Kd.R_below (by (with_reducible repeat (first | apply Kd.R_alloc | apply Kd.R_drewN | apply Kd.R_drew)); exact HO131.out) hb)
  have n3_ := Aside0.mk (Kd.R_below (by (with_reducible repeat (first | apply Kd.R_alloc | apply Kd.R_drewN | apply Kd.R_drew)); exact HO136.out) hb)
  have n4_ := Aside0.mk (Kd.R_below (by (with_reducible repeat (first | apply Kd.R_alloc | apply Kd.R_drewN | apply Kd.R_drew)); exact HO141.out) hb)
  have n5_ := Aside0.mk (Kd.R_below (by (with_reducible repeat (first | apply Kd.R_alloc | apply Kd.R_drewN | apply Kd.R_drew)); exact HO148.out) hb)
  have n6_ := Aside0.mk (blk_below (g := gb123) (o := .cells #[.int .i64 t117, .int .i64 t118, .int .i64 t119, .slice Ao27 t120.length co27] 24 (0, 0)) (by (with_reducible repeat (first | refine blk_drewN ?_ _ | refine blk_drew ?_ | refine blk_alloc ?_ _)); exact BK123.out) hb)
  have n7_ := Aside0.mk (blk_below (g := gb145) (o := .cells #[.bool t142, .int .i64 t143] 35 (0, 0)) (by (with_reducible repeat (first | refine blk_drewN ?_ _ | refine blk_drew ?_ | refine blk_alloc ?_ _)); exact BK145.out) hb)
  have n8_ := Aside0.mk (below_step (by repeat (first | (with_reducible first | exact HB.out | apply below_alloc | apply pw_below_drewN | apply below_drew1 | refine below_set ?_ GE123.out | refine below_set ?_ GE145.out) | exact HB.out)) hb)
  clear HO122
  clear HO126
  clear HO131
  clear HO136
  clear HO141
  clear HO148
  clear BK123
  clear BK145
  clear HB
  have HO122 := n0_
  have HO126 := n1_
  have HO131 := n2_
  have HO136 := n3_
  have HO141 := n4_
  have HO148 := n5_
  have BK123 := n6_
  have BK145 := n7_
  have HB := n8_
  clear n0_ n1_ n2_ n3_ n4_ n5_ n6_ n7_ n8_
  (try clear hb)
  (try clear hb2)
  (try clear hk)
  (try clear hi)
  refine hK.out _ _ ⟨(blk_cell BK123.out 0).trans rfl, (blk_cell BK123.out 1).trans rfl, (blk_cell BK123.out 2).trans rfl, (blk_cell BK123.out 3).trans rfl⟩ (fun hHeld => ?_)
  clear hK K
  refine norm_ (a' := ?_) ?_ ?_
  rotate_left
  · show Act.put _ (some 42) _ = _
    simp only [Act.put, List.setIfInBounds_toArray, List.set_cons_zero, List.set_cons_succ, i64_w, i32_w]
    rfl
  refine pure_ (i := 3) (N := some 39) (v := ?_) (a' := ?_) #[true, true, true, true, false, false, false, false] rfl rfl (any_of HT_.out (by kernel_rfl)) (fun _ _ _ h => h) (Or.inl ⟨by rfl, ?_⟩) ?_ ?_
  rotate_left
  · intro w'
    go_simp
    with_reducible rfl
  rotate_left
  · simp only [Act.put, List.setIfInBounds_toArray, List.set_cons_zero, List.set_cons_succ, i64_w, i32_w]
    rfl
  refine pure_ (i := 4) (N := some 43) (v := ?_) (a' := ?_) #[true, true, true, true, true, false, false, false] rfl rfl (any_of HT_.out (by kernel_rfl)) (fun _ _ _ h => h) (Or.inl ⟨by rfl, ?_⟩) ?_ ?_
  rotate_left
  · intro w'
    go_simp
    with_reducible rfl
  rotate_left
  · simp only [Act.put, List.setIfInBounds_toArray, List.set_cons_zero, List.set_cons_succ, i64_w, i32_w]
    rfl
  refine pure_ (i := 5) (N := some 44) (v := ?_) (a' := ?_) #[true, true, true, true, true, true, false, false] rfl rfl (any_of HT_.out (by kernel_rfl)) (fun _ _ _ h => h) (Or.inl ⟨by rfl, ?_⟩) ?_ ?_
  rotate_left
  · intro w'
    go_simp
    with_reducible rfl
  rotate_left
  · simp only [Act.put, List.setIfInBounds_toArray, List.set_cons_zero, List.set_cons_succ, i64_w, i32_w]
    rfl
  refine pure_ (i := 6) (N := some 10) (v := ?_) (a' := ?_) #[true, true, true, true, true, true, true, false] rfl rfl (any_of HT_.out (by kernel_rfl)) (fun _ _ _ h => h) (Or.inl ⟨by rfl, ?_⟩) ?_ ?_
  rotate_left
  · intro w'
    go_simp
    with_reducible rfl
  rotate_left
  · simp only [Act.put, List.setIfInBounds_toArray, List.set_cons_zero, List.set_cons_succ, i64_w, i32_w]
    rfl
  refine pure_ (i := 7) (N := some 11) (v := ?_) (a' := ?_) #[true, true, true, true, true, true, true, true] rfl rfl (any_of HT_.out (by kernel_rfl)) (fun _ _ _ h => h) (Or.inl ⟨by rfl, ?_⟩) ?_ ?_
  rotate_left
  · intro w'
    go_simp
    with_reducible rfl
  rotate_left
  · simp only [Act.put, List.setIfInBounds_toArray, List.set_cons_zero, List.set_cons_succ, i64_w, i32_w]
    rfl
  refine done_ (done_of HT_.out (by kernel_rfl)) ?_
  have hcz56_0 : w55.cell? ⟨gb123, 0, none⟩ = some (.int .i64 t117) := (blk_cell BK123.out 0).trans rfl
  have hcz56_1 : w55.cell? ⟨gb123, 1, none⟩ = some (.int .i64 t118) := (blk_cell BK123.out 1).trans rfl
  have hcz56_2 : w55.cell? ⟨gb123, 2, none⟩ = some (.int .i64 t119) := (blk_cell BK123.out 2).trans rfl
  have hcz56_3 : w55.cell? ⟨gb123, 3, none⟩ = some (.slice Ao27 t120.length co27) := (blk_cell BK123.out 3).trans rfl
  have hfz56_0 := blk_frozen BK123.out 0
  have hfz56_1 := blk_frozen BK123.out 1
  have hfz56_2 := blk_frozen BK123.out 2
  have hfz56_3 := blk_frozen BK123.out 3
  try go_wp2_with (first | ((with_reducible refine gate_callee (f := 11) rfl ?_); refine goesL_ (some 47) rfl rfl Try.func11 (by kernel_rfl) rfl #[.agg #[.int .i64 t117, .int .i64 t118, .int .i64 t119, .slice Ao27 t120.length co27], .int .i64 3, .slice none 0 0] rfl (by (try simp only [List.map_toArray, List.map_cons, List.map_nil]); first | done | rfl | (simp only [List.length_drop, List.length_take]; rfl)) ?_; (refine (derive_Derives.calls t117 t118 t119 _ _ t120 3 _ _ ([] : List Int) t151 t152 _ ?side1 ?side2 ?side3 ?side4 A9.out).mono ?_); (case side1 => repeat (first | exact (Kd.R_reads' HO122.out).2.2 | (with_reducible refine Kd.C_alloc ?_ _) | (with_reducible refine Kd.C_drewN ?_ _) | (with_reducible refine Kd.C_drew ?_))); (case side2 => exact (Kd.R_reads' HO122.out).2.1); (case side3 => exact Kd.C_nil _ _); (case side4 => exact Nat.le_refl _); rintro e w57 ⟨rfl, hb⟩; refine ⟨_, rfl, ?_⟩; have n0_ := Aside0.mk (Kd.R_below (by (with_reducible repeat (first | apply Kd.R_alloc | apply Kd.R_drewN | apply Kd.R_drew)); exact HO122.out) hb); have n1_ := Aside0.mk (Kd.R_below (by (with_reducible repeat (first | apply Kd.R_alloc | apply Kd.R_drewN | apply Kd.R_drew)); exact HO126.out) hb); have n2_ := Aside0.mk (Kd.R_below (by (with_reducible repeat (first | apply Kd.R_alloc | apply Kd.R_drewN | apply Kd.R_drew)); exact HO131.out) hb); have n3_ := Aside0.mk (Kd.R_below (by (with_reducible repeat (first | apply Kd.R_alloc | apply Kd.R_drewN | apply Kd.R_drew)); exact HO136.out) hb); have n4_ := Aside0.mk (Kd.R_below (by (with_reducible repeat (first | apply Kd.R_alloc | apply Kd.R_drewN | apply Kd.R_drew)); exact HO141.out) hb); have n5_ := Aside0.mk (Kd.R_below (by (with_reducible repeat (first | apply Kd.R_alloc | apply Kd.R_drewN | apply Kd.R_drew)); exact HO148.out) hb); have n6_ := Aside0.mk (blk_below (g := gb123) (o := .cells #[.int .i64 t117, .int .i64 t118, .int .i64 t119, .slice Ao27 t120.length co27] 24 (0, 0)) (by (with_reducible repeat (first | refine blk_drewN ?_ _ | refine blk_drew ?_ | refine blk_alloc ?_ _)); exact BK123.out) hb); have n7_ := Aside0.mk (blk_below (g := gb145) (o := .cells #[.bool t142, .int .i64 t143] 35 (0, 0)) (by (with_reducible repeat (first | refine blk_drewN ?_ _ | refine blk_drew ?_ | refine blk_alloc ?_ _)); exact BK145.out) hb); have n8_ := Aside0.mk (below_step (by repeat (first | (with_reducible first | exact HB.out | apply below_alloc | apply pw_below_drewN | apply below_drew1 | refine below_set ?_ GE123.out | refine below_set ?_ GE145.out) | exact HB.out)) hb); clear HO122; clear HO126; clear HO131; clear HO136; clear HO141; clear HO148; clear BK123; clear BK145; clear HB; have HO122 := n0_; have HO126 := n1_; have HO131 := n2_; have HO136 := n3_; have HO141 := n4_; have HO148 := n5_; have BK123 := n6_; have BK145 := n7_; have HB := n8_; clear n0_ n1_ n2_ n3_ n4_ n5_ n6_ n7_ n8_; (try clear hb); (try clear hb2); (try clear hk); (try clear hi); have hcz58_0 : w57.cell? ⟨gb145, 0, none⟩ = some (.bool t142) := (blk_cell BK145.out 0).trans rfl; have hcz58_1 : w57.cell? ⟨gb145, 1, none⟩ = some (.int .i64 t143) := (blk_cell BK145.out 1).trans rfl; have hfz58_0 := blk_frozen BK145.out 0; have hfz58_1 := blk_frozen BK145.out 1; have hcz59_0 : w57.cell? ⟨gb123, 0, none⟩ = some (.int .i64 t117) := (blk_cell BK123.out 0).trans rfl; have hcz59_1 : w57.cell? ⟨gb123, 1, none⟩ = some (.int .i64 t118) := (blk_cell BK123.out 1).trans rfl; have hcz59_2 : w57.cell? ⟨gb123, 2, none⟩ = some (.int .i64 t119) := (blk_cell BK123.out 2).trans rfl; have hcz59_3 : w57.cell? ⟨gb123, 3, none⟩ = some (.slice Ao27 t120.length co27) := (blk_cell BK123.out 3).trans rfl; have hfz59_0 := blk_frozen BK123.out 0; have hfz59_1 := blk_frozen BK123.out 1; have hfz59_2 := blk_frozen BK123.out 2; have hfz59_3 := blk_frozen BK123.out 3) | (go_at_call 22; (refine (derive_Fits.calls t117 t118 t119 _ _ t120 0 (-1) _ _ ([] : List (S43)) t153 _ ?side1 ?side2 ?side3 ?side4 A21.out).mono ?_); (case side1 => repeat (first | exact (Kd.R_reads' HO122.out).2.2 | (with_reducible refine Kd.C_alloc ?_ _) | (with_reducible refine Kd.C_drewN ?_ _) | (with_reducible refine Kd.C_drew ?_))); (case side2 => exact (Kd.R_reads' HO122.out).2.1); (case side3 => exact Kd.C_nil _ _); (case side4 => exact Nat.le_refl _); rintro e w60 ⟨rfl, hb⟩; have n0_ := Aside0.mk (Kd.R_below (by (with_reducible repeat (first | apply Kd.R_alloc | apply Kd.R_drewN | apply Kd.R_drew)); exact HO122.out) hb); have n1_ := Aside0.mk (Kd.R_below (by (with_reducible repeat (first | apply Kd.R_alloc | apply Kd.R_drewN | apply Kd.R_drew)); exact HO126.out) hb); have n2_ := Aside0.mk (Kd.R_below (by (with_reducible repeat (first | apply Kd.R_alloc | apply Kd.R_drewN | apply Kd.R_drew)); exact HO131.out) hb); have n3_ := Aside0.mk (Kd.R_below (by (with_reducible repeat (first | apply Kd.R_alloc | apply Kd.R_drewN | apply Kd.R_drew)); exact HO136.out) hb); have n4_ := Aside0.mk (Kd.R_below (by (with_reducible repeat (first | apply Kd.R_alloc | apply Kd.R_drewN | apply Kd.R_drew)); exact HO141.out) hb); have n5_ := Aside0.mk (Kd.R_below (by (with_reducible repeat (first | apply Kd.R_alloc | apply Kd.R_drewN | apply Kd.R_drew)); exact HO148.out) hb); have n6_ := Aside0.mk (blk_below (g := gb123) (o := .cells #[.int .i64 t117, .int .i64 t118, .int .i64 t119, .slice Ao27 t120.length co27] 24 (0, 0)) (by (with_reducible repeat (first | refine blk_drewN ?_ _ | refine blk_drew ?_ | refine blk_alloc ?_ _)); exact BK123.out) hb); have n7_ := Aside0.mk (blk_below (g := gb145) (o := .cells #[.bool t142, .int .i64 t143] 35 (0, 0)) (by (with_reducible repeat (first | refine blk_drewN ?_ _ | refine blk_drew ?_ | refine blk_alloc ?_ _)); exact BK145.out) hb); have n8_ := Aside0.mk (below_step (by repeat (first | (with_reducible first | exact HB.out | apply below_alloc | apply pw_below_drewN | apply below_drew1 | refine below_set ?_ GE123.out | refine below_set ?_ GE145.out) | exact HB.out)) hb); clear HO122; clear HO126; clear HO131; clear HO136; clear HO141; clear HO148; clear BK123; clear BK145; clear HB; have HO122 := n0_; have HO126 := n1_; have HO131 := n2_; have HO136 := n3_; have HO141 := n4_; have HO148 := n5_; have BK123 := n6_; have BK145 := n7_; have HB := n8_; clear n0_ n1_ n2_ n3_ n4_ n5_ n6_ n7_ n8_; (try clear hb); (try clear hb2); (try clear hk); (try clear hi)) | (go_at_call 26; (refine (derive_Yield.calls 0 0 _ _ ([] : List (S43)) t154 _ ?side1 ?side2 A23.out).mono ?_); (case side1 => exact Kd.C_nil _ _); (case side2 => exact Nat.le_refl _); rintro e w61 ⟨v155, rfl, ho0, hb⟩; have n0_ := Aside0.mk (Kd.R_elder' (by (with_reducible repeat (first | apply Kd.R_alloc | apply Kd.R_drewN | apply Kd.R_drew)); exact HO122.out) (Kd.R_base ho0) hb); have n1_ := Aside0.mk (Kd.R_elder' (by (with_reducible repeat (first | apply Kd.R_alloc | apply Kd.R_drewN | apply Kd.R_drew)); exact HO126.out) (Kd.R_base ho0) hb); have n2_ := Aside0.mk (Kd.R_elder' (by (with_reducible repeat (first | apply Kd.R_alloc | apply Kd.R_drewN | apply Kd.R_drew)); exact HO131.out) (Kd.R_base ho0) hb); have n3_ := Aside0.mk (Kd.R_elder' (by (with_reducible repeat (first | apply Kd.R_alloc | apply Kd.R_drewN | apply Kd.R_drew)); exact HO136.out) (Kd.R_base ho0) hb); have n4_ := Aside0.mk (Kd.R_elder' (by (with_reducible repeat (first | apply Kd.R_alloc | apply Kd.R_drewN | apply Kd.R_drew)); exact HO141.out) (Kd.R_base ho0) hb); have n5_ := Aside0.mk (Kd.R_elder' (by (with_reducible repeat (first | apply Kd.R_alloc | apply Kd.R_drewN | apply Kd.R_drew)); exact HO148.out) (Kd.R_base ho0) hb); have n6_ := Aside0.mk (Kd.R_lower (Kd.R_new' (Kd.R_new' (Kd.R_new' (Kd.R_new' (Kd.R_new' ho0 (Kd.R_lt (by (with_reducible repeat (first | apply Kd.R_alloc | apply Kd.R_drewN | apply Kd.R_drew)); exact HO126.out))) (Kd.R_lt (by (with_reducible repeat (first | apply Kd.R_alloc | apply Kd.R_drewN | apply Kd.R_drew)); exact HO131.out))) (Kd.R_lt (by (with_reducible repeat (first | apply Kd.R_alloc | apply Kd.R_drewN | apply Kd.R_drew)); exact HO136.out))) (Kd.R_lt (by (with_reducible repeat (first | apply Kd.R_alloc | apply Kd.R_drewN | apply Kd.R_drew)); exact HO141.out))) (Kd.R_lt (by (with_reducible repeat (first | apply Kd.R_alloc | apply Kd.R_drewN | apply Kd.R_drew)); exact HO148.out))) (below_size (by repeat (first | (with_reducible first | exact HB.out | apply below_alloc | apply pw_below_drewN | apply below_drew1 | refine below_set ?_ GE123.out | refine below_set ?_ GE145.out) | exact HB.out)))); have n7_ := Aside0.mk (blk_below (g := gb123) (o := .cells #[.int .i64 t117, .int .i64 t118, .int .i64 t119, .slice Ao27 t120.length co27] 24 (0, 0)) (by (with_reducible repeat (first | refine blk_drewN ?_ _ | refine blk_drew ?_ | refine blk_alloc ?_ _)); exact BK123.out) hb); have n8_ := Aside0.mk (blk_below (g := gb145) (o := .cells #[.bool t142, .int .i64 t143] 35 (0, 0)) (by (with_reducible repeat (first | refine blk_drewN ?_ _ | refine blk_drew ?_ | refine blk_alloc ?_ _)); exact BK145.out) hb); have n9_ := Aside0.mk (below_step (by repeat (first | (with_reducible first | exact HB.out | apply below_alloc | apply pw_below_drewN | apply below_drew1 | refine below_set ?_ GE123.out | refine below_set ?_ GE145.out) | exact HB.out)) hb); clear HO122; clear HO126; clear HO131; clear HO136; clear HO141; clear HO148; clear BK123; clear BK145; clear HB; have HO122 := n0_; have HO126 := n1_; have HO131 := n2_; have HO136 := n3_; have HO141 := n4_; have HO148 := n5_; have HO156 := n6_; have BK123 := n7_; have BK145 := n8_; have HB := n9_; clear n0_ n1_ n2_ n3_ n4_ n5_ n6_ n7_ n8_ n9_; (try clear hb); (try clear hb2); (try clear hk); (try clear hi); (try clear ho0); obtain ⟨Ao62, co62, eo62⟩ := Kd.R_slice HO156.out; subst eo62))
  go_ret
  exact ⟨by first | rfl | (simp [errW_none, errW_some] <;> rfl) | (simp [*, errW_none, errW_some] <;> rfl), by repeat (first | (with_reducible first | exact HB.out | apply below_alloc | apply pw_below_drewN | apply below_drew1 | refine below_set ?_ GE123.out | refine below_set ?_ GE145.out) | exact HB.out)⟩

end Go.Proofs.Ytadabkkkalgehaa.PLi
