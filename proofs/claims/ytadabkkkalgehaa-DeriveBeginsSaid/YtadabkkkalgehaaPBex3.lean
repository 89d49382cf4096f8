-- printed by wip/eprint.py of this session's repo, out of the translation and contracts proved by hand
import Derived.Test.YtadabkkkalgehaaPBex0
import Derived.Test.YtadabkkkalgehaaPBex1
import Derived.Test.YtadabkkkalgehaaPBex2
namespace Go.Proofs.Ytadabkkkalgehaa.PBe
open Go.RowKit Go.Proofs.YtadabkkkalgehaaW.PrintWords Go.Proofs.YtadabkkkalgehaaW.PrintLast Go.Proofs.YtadabkkkalgehaaW.PrintMore
attribute [local go_sem] max2_int min2_int max_two min_two max_three min_three max_four min_four   -- for this text's walks alone
set_option linter.unusedVariables false
set_option linter.unusedSimpArgs false

attribute [local go_sem high] eqA35
/-! ### rootstocklaw14_DeriveBegins: function 7 -/
mutual
noncomputable def rootstocklaw14_DeriveBegins.j0 : Nat → List Int → Bool → Int → Int → Int → List (S55) → Option (Bool)
  | 0, _, _, _, _, _, _ => none
  | k + 1, x1, x21, x112000, x112001, x112002, x112003 => if x21 = true then ((rootstocklaw14_lives.f).bind fun t113 => (some t113)) else ((derive_Judge.f k x112000 x112001 x112002 x112003 x1).bind fun bt114 => (if bt114.2.2 = 0 then (rootstocklaw14_DeriveBegins.l0 k x1 0 x112000 x112001 x112002 x112003 bt114.1 bt114.2.1) else (if (!bt114.1 && (bt114.2.1 == 0)) = true then ((rootstocklaw14_lives.f).bind fun t118 => (some t118)) else (some false))))
noncomputable def rootstocklaw14_DeriveBegins.l0 : Nat → List Int → Int → Int → Int → Int → List (S55) → Bool → Int → Option (Bool)
  | 0, _, _, _, _, _, _, _, _ => none
  | k + 1, x1, x7, x112000, x112001, x112002, x112003, x118000, x118001 => if x7 ≤ (x1.length : Int) then (if 0 ≤ x7 then ((derive_Viable.f x112000 x112001 x112002 x112003 (x1.take (x7 : Int).toNat)).bind fun bt120 => (if bt120.2 = 0 then (if x118000 = true then (if (bt120.1 != true) = true then (some false) else (rootstocklaw14_DeriveBegins.l0 k x1 (wrap64 (x7 + 1)) x112000 x112001 x112002 x112003 x118000 x118001)) else (if (bt120.1 != (decide (x7 ≤ x118001))) = true then (some false) else (rootstocklaw14_DeriveBegins.l0 k x1 (wrap64 (x7 + 1)) x112000 x112001 x112002 x112003 x118000 x118001))) else (some false))) else (none)) else ((derive_Derives.f x112000 x112001 x112002 x112003 x112002 x1).bind fun bt122 => (if bt122.2 = 0 then (if (bt122.1 != x118000) = true then (rootstocklaw14_DeriveBegins.j2 k x1 true x112000 x112001 x112002 x112003 x118000 x118001) else (if x118000 = true then (if x118001 = 0 then (if x118001 < 0 then (rootstocklaw14_DeriveBegins.j2 k x1 true x112000 x112001 x112002 x112003 x118000 x118001) else (rootstocklaw14_DeriveBegins.j2 k x1 (decide (x118001 > (x1.length : Int))) x112000 x112001 x112002 x112003 x118000 x118001)) else (rootstocklaw14_DeriveBegins.j2 k x1 true x112000 x112001 x112002 x112003 x118000 x118001)) else (if x118001 < 0 then (rootstocklaw14_DeriveBegins.j2 k x1 true x112000 x112001 x112002 x112003 x118000 x118001) else (rootstocklaw14_DeriveBegins.j2 k x1 (decide (x118001 > (x1.length : Int))) x112000 x112001 x112002 x112003 x118000 x118001)))) else (rootstocklaw14_DeriveBegins.j2 k x1 true x112000 x112001 x112002 x112003 x118000 x118001)))
noncomputable def rootstocklaw14_DeriveBegins.j2 : Nat → List Int → Bool → Int → Int → Int → List (S55) → Bool → Int → Option (Bool)
  | 0, _, _, _, _, _, _, _, _ => none
  | k + 1, x1, x101, x112000, x112001, x112002, x112003, x118000, x118001 => if x101 = true then (some false) else (if x118000 = true then (rootstocklaw14_DeriveBegins.j3 k x1 true x112000 x112001 x112002 x112003) else (rootstocklaw14_DeriveBegins.j3 k x1 (decide (x118001 < (x1.length : Int))) x112000 x112001 x112002 x112003))
noncomputable def rootstocklaw14_DeriveBegins.j3 : Nat → List Int → Bool → Int → Int → Int → List (S55) → Option (Bool)
  | 0, _, _, _, _, _, _ => none
  | k + 1, x1, x110, x112000, x112001, x112002, x112003 => if x110 = true then ((rootstocklaw14_lives.f).bind fun t124 => (some t124)) else (rootstocklaw14_DeriveBegins.l1 k x1 0 x112000 x112001 x112002 x112003)
noncomputable def rootstocklaw14_DeriveBegins.l1 : Nat → List Int → Int → Int → Int → Int → List (S55) → Option (Bool)
  | 0, _, _, _, _, _, _ => none
  | k + 1, x1, x12, x112000, x112001, x112002, x112003 => if x12 < x112000 then ((rootstocklaw14_CopyInts.f x1).bind fun t125 => ((some (([x12] : List Int) : List Int)).bind fun y128 => (if t125.length + y128.length < 17592186044416 then ((derive_Viable.f x112000 x112001 x112002 x112003 (t125 ++ y128)).bind fun bt134 => (if bt134.1 = true then (if bt134.2 = 0 then ((rootstocklaw14_lives.f).bind fun t136 => (some t136)) else (rootstocklaw14_DeriveBegins.l1 k x1 (wrap64 (x12 + 1)) x112000 x112001 x112002 x112003)) else (rootstocklaw14_DeriveBegins.l1 k x1 (wrap64 (x12 + 1)) x112000 x112001 x112002 x112003))) else (none)))) else (some false)
end
noncomputable def rootstocklaw14_DeriveBegins.f (k : Nat) (a0_0 : Int) (a0_1 : Int) (a0_2 : Int) (l0_3 : List (S55)) (l1 : List Int) : Option (Bool) := (rootstocklaw14_Great.f k a0_0 a0_1 a0_2 l0_3).bind fun t112 => (if t112 = true then (rootstocklaw14_DeriveBegins.j0 k l1 true a0_0 a0_1 a0_2 l0_3) else (rootstocklaw14_DeriveBegins.j0 k l1 (decide ((l1.length : Int) > 10)) a0_0 a0_1 a0_2 l0_3))
theorem rootstocklaw14_DeriveBegins.mono_l : ∀ k, (∀ y0 y1 y2 y3 y4 y5, LeO (rootstocklaw14_DeriveBegins.j0 k y0 y1 y2 y3 y4 y5) (rootstocklaw14_DeriveBegins.j0 (k + 1) y0 y1 y2 y3 y4 y5)) ∧ (∀ y0 y1 y2 y3 y4 y5 y6 y7, LeO (rootstocklaw14_DeriveBegins.l0 k y0 y1 y2 y3 y4 y5 y6 y7) (rootstocklaw14_DeriveBegins.l0 (k + 1) y0 y1 y2 y3 y4 y5 y6 y7)) ∧ (∀ y0 y1 y2 y3 y4 y5 y6 y7, LeO (rootstocklaw14_DeriveBegins.j2 k y0 y1 y2 y3 y4 y5 y6 y7) (rootstocklaw14_DeriveBegins.j2 (k + 1) y0 y1 y2 y3 y4 y5 y6 y7)) ∧ (∀ y0 y1 y2 y3 y4 y5, LeO (rootstocklaw14_DeriveBegins.j3 k y0 y1 y2 y3 y4 y5) (rootstocklaw14_DeriveBegins.j3 (k + 1) y0 y1 y2 y3 y4 y5)) ∧ (∀ y0 y1 y2 y3 y4 y5, LeO (rootstocklaw14_DeriveBegins.l1 k y0 y1 y2 y3 y4 y5) (rootstocklaw14_DeriveBegins.l1 (k + 1) y0 y1 y2 y3 y4 y5))
  | 0 => ⟨fun _ _ _ _ _ _ r h => by simp [rootstocklaw14_DeriveBegins.j0] at h, fun _ _ _ _ _ _ _ _ r h => by simp [rootstocklaw14_DeriveBegins.l0] at h, fun _ _ _ _ _ _ _ _ r h => by simp [rootstocklaw14_DeriveBegins.j2] at h, fun _ _ _ _ _ _ r h => by simp [rootstocklaw14_DeriveBegins.j3] at h, fun _ _ _ _ _ _ r h => by simp [rootstocklaw14_DeriveBegins.l1] at h⟩
  | k + 1 => by
    obtain ⟨ih0, ih1, ih2, ih3, ih4⟩ := rootstocklaw14_DeriveBegins.mono_l k
    refine ⟨?_, ?_, ?_, ?_, ?_⟩
    · intro y0 y1 y2 y3 y4 y5
      unfold rootstocklaw14_DeriveBegins.j0
      repeat' first
      | (with_reducible exact ih0 _ _ _ _ _ _)
      | (with_reducible exact ih1 _ _ _ _ _ _ _ _)
      | (with_reducible exact ih2 _ _ _ _ _ _ _ _)
      | (with_reducible exact ih3 _ _ _ _ _ _)
      | (with_reducible exact ih4 _ _ _ _ _ _)
      | (with_reducible exact derive_Judge.mono _ _ _ _ _ _)
      | (with_reducible exact rootstocklaw14_Great.mono _ _ _ _ _)
      | (with_reducible exact LeO.refl _)
      | (with_reducible exact LeO.none _)
      | (with_reducible refine LeO.ite ?_ ?_)
      | (with_reducible refine LeO.bind ?_ (fun _ => ?_))
      | exact ih0 _ _ _ _ _ _
      | exact ih1 _ _ _ _ _ _ _ _
      | exact ih2 _ _ _ _ _ _ _ _
      | exact ih3 _ _ _ _ _ _
      | exact ih4 _ _ _ _ _ _
      | exact derive_Judge.mono _ _ _ _ _ _
      | exact rootstocklaw14_Great.mono _ _ _ _ _
      | exact LeO.none _
      | refine LeO.ite ?_ ?_
      | refine LeO.bind ?_ (fun _ => ?_)
    · intro y0 y1 y2 y3 y4 y5 y6 y7
      unfold rootstocklaw14_DeriveBegins.l0
      repeat' first
      | (with_reducible exact ih0 _ _ _ _ _ _)
      | (with_reducible exact ih1 _ _ _ _ _ _ _ _)
      | (with_reducible exact ih2 _ _ _ _ _ _ _ _)
      | (with_reducible exact ih3 _ _ _ _ _ _)
      | (with_reducible exact ih4 _ _ _ _ _ _)
      | (with_reducible exact derive_Judge.mono _ _ _ _ _ _)
      | (with_reducible exact rootstocklaw14_Great.mono _ _ _ _ _)
      | (with_reducible exact LeO.refl _)
      | (with_reducible exact LeO.none _)
      | (with_reducible refine LeO.ite ?_ ?_)
      | (with_reducible refine LeO.bind ?_ (fun _ => ?_))
      | exact ih0 _ _ _ _ _ _
      | exact ih1 _ _ _ _ _ _ _ _
      | exact ih2 _ _ _ _ _ _ _ _
      | exact ih3 _ _ _ _ _ _
      | exact ih4 _ _ _ _ _ _
      | exact derive_Judge.mono _ _ _ _ _ _
      | exact rootstocklaw14_Great.mono _ _ _ _ _
      | exact LeO.none _
      | refine LeO.ite ?_ ?_
      | refine LeO.bind ?_ (fun _ => ?_)
    · intro y0 y1 y2 y3 y4 y5 y6 y7
      unfold rootstocklaw14_DeriveBegins.j2
      repeat' first
      | (with_reducible exact ih0 _ _ _ _ _ _)
      | (with_reducible exact ih1 _ _ _ _ _ _ _ _)
      | (with_reducible exact ih2 _ _ _ _ _ _ _ _)
      | (with_reducible exact ih3 _ _ _ _ _ _)
      | (with_reducible exact ih4 _ _ _ _ _ _)
      | (with_reducible exact derive_Judge.mono _ _ _ _ _ _)
      | (with_reducible exact rootstocklaw14_Great.mono _ _ _ _ _)
      | (with_reducible exact LeO.refl _)
      | (with_reducible exact LeO.none _)
      | (with_reducible refine LeO.ite ?_ ?_)
      | (with_reducible refine LeO.bind ?_ (fun _ => ?_))
      | exact ih0 _ _ _ _ _ _
      | exact ih1 _ _ _ _ _ _ _ _
      | exact ih2 _ _ _ _ _ _ _ _
      | exact ih3 _ _ _ _ _ _
      | exact ih4 _ _ _ _ _ _
      | exact derive_Judge.mono _ _ _ _ _ _
      | exact rootstocklaw14_Great.mono _ _ _ _ _
      | exact LeO.none _
      | refine LeO.ite ?_ ?_
      | refine LeO.bind ?_ (fun _ => ?_)
    · intro y0 y1 y2 y3 y4 y5
      unfold rootstocklaw14_DeriveBegins.j3
      repeat' first
      | (with_reducible exact ih0 _ _ _ _ _ _)
      | (with_reducible exact ih1 _ _ _ _ _ _ _ _)
      | (with_reducible exact ih2 _ _ _ _ _ _ _ _)
      | (with_reducible exact ih3 _ _ _ _ _ _)
      | (with_reducible exact ih4 _ _ _ _ _ _)
      | (with_reducible exact derive_Judge.mono _ _ _ _ _ _)
      | (with_reducible exact rootstocklaw14_Great.mono _ _ _ _ _)
      | (with_reducible exact LeO.refl _)
      | (with_reducible exact LeO.none _)
      | (with_reducible refine LeO.ite ?_ ?_)
      | (with_reducible refine LeO.bind ?_ (fun _ => ?_))
      | exact ih0 _ _ _ _ _ _
      | exact ih1 _ _ _ _ _ _ _ _
      | exact ih2 _ _ _ _ _ _ _ _
      | exact ih3 _ _ _ _ _ _
      | exact ih4 _ _ _ _ _ _
      | exact derive_Judge.mono _ _ _ _ _ _
      | exact rootstocklaw14_Great.mono _ _ _ _ _
      | exact LeO.none _
      | refine LeO.ite ?_ ?_
      | refine LeO.bind ?_ (fun _ => ?_)
    · intro y0 y1 y2 y3 y4 y5
      unfold rootstocklaw14_DeriveBegins.l1
      repeat' first
      | (with_reducible exact ih0 _ _ _ _ _ _)
      | (with_reducible exact ih1 _ _ _ _ _ _ _ _)
      | (with_reducible exact ih2 _ _ _ _ _ _ _ _)
      | (with_reducible exact ih3 _ _ _ _ _ _)
      | (with_reducible exact ih4 _ _ _ _ _ _)
      | (with_reducible exact derive_Judge.mono _ _ _ _ _ _)
      | (with_reducible exact rootstocklaw14_Great.mono _ _ _ _ _)
      | (with_reducible exact LeO.refl _)
      | (with_reducible exact LeO.none _)
      | (with_reducible refine LeO.ite ?_ ?_)
      | (with_reducible refine LeO.bind ?_ (fun _ => ?_))
      | exact ih0 _ _ _ _ _ _
      | exact ih1 _ _ _ _ _ _ _ _
      | exact ih2 _ _ _ _ _ _ _ _
      | exact ih3 _ _ _ _ _ _
      | exact ih4 _ _ _ _ _ _
      | exact derive_Judge.mono _ _ _ _ _ _
      | exact rootstocklaw14_Great.mono _ _ _ _ _
      | exact LeO.none _
      | refine LeO.ite ?_ ?_
      | refine LeO.bind ?_ (fun _ => ?_)
theorem rootstocklaw14_DeriveBegins.mono : ∀ a0 a1 a2 a3 a4 k, LeO (rootstocklaw14_DeriveBegins.f k a0 a1 a2 a3 a4) (rootstocklaw14_DeriveBegins.f (k + 1) a0 a1 a2 a3 a4) := by
 intro a0 a1 a2 a3 a4 k
 obtain ⟨ih0, ih1, ih2, ih3, ih4⟩ := rootstocklaw14_DeriveBegins.mono_l k
 unfold rootstocklaw14_DeriveBegins.f
 repeat' first
  | (with_reducible exact ih0 _ _ _ _ _ _)
  | (with_reducible exact ih1 _ _ _ _ _ _ _ _)
  | (with_reducible exact ih2 _ _ _ _ _ _ _ _)
  | (with_reducible exact ih3 _ _ _ _ _ _)
  | (with_reducible exact ih4 _ _ _ _ _ _)
  | (with_reducible exact derive_Judge.mono _ _ _ _ _ _)
  | (with_reducible exact rootstocklaw14_Great.mono _ _ _ _ _)
  | (with_reducible exact LeO.refl _)
  | (with_reducible exact LeO.none _)
  | (with_reducible refine LeO.ite ?_ ?_)
  | (with_reducible refine LeO.bind ?_ (fun _ => ?_))
  | exact ih0 _ _ _ _ _ _
  | exact ih1 _ _ _ _ _ _ _ _
  | exact ih2 _ _ _ _ _ _ _ _
  | exact ih3 _ _ _ _ _ _
  | exact ih4 _ _ _ _ _ _
  | exact derive_Judge.mono _ _ _ _ _ _
  | exact rootstocklaw14_Great.mono _ _ _ _ _
  | exact LeO.none _
  | refine LeO.ite ?_ ?_
  | refine LeO.bind ?_ (fun _ => ?_)
def rootstocklaw14_DeriveBegins.T9 : Bool × List (List Nat × List Nat) := (true, [([], []), ([], []), ([], []), ([1, 2], [1, 2]), ([0, 3], [0, 3]), ([4], [4]), ([5], [5]), ([5], [5]), ([6, 4, 0, 1, 2, 3, 4, 5, 6], [6]), ([7, 8, 0, 1, 2, 3, 4, 5, 6, 7, 8], [7])])
def rootstocklaw14_DeriveBegins.B9 : List Nat := [0, 0, 0, 6, 15, 31, 63, 63, 127, 511]
theorem rootstocklaw14_DeriveBegins.tab9 : rtab .any (opsOf Try.f7 9) = rootstocklaw14_DeriveBegins.T9 := by kernel_rfl
theorem rootstocklaw14_DeriveBegins.bits9 : waitsOk rootstocklaw14_DeriveBegins.T9.2 rootstocklaw14_DeriveBegins.B9 = true := by kernel_rfl
def rootstocklaw14_DeriveBegins.T20 : Bool × List (List Nat × List Nat) := (true, [([], []), ([], []), ([1], [1]), ([], []), ([3], [3]), ([2, 4, 2], [2, 4]), ([0, 5, 5], [0, 5]), ([6], [6]), ([7], [7]), ([7], [7]), ([8, 6, 0, 1, 2, 3, 4, 5, 6, 7, 8], [8]), ([9, 10, 0, 1, 2, 3, 4, 5, 6, 7, 8, 9, 10], [9])])
def rootstocklaw14_DeriveBegins.B20 : List Nat := [0, 0, 2, 0, 8, 30, 63, 127, 255, 255, 511, 2047]
theorem rootstocklaw14_DeriveBegins.tab20 : rtab .any (opsOf Try.f7 20) = rootstocklaw14_DeriveBegins.T20 := by kernel_rfl
theorem rootstocklaw14_DeriveBegins.bits20 : waitsOk rootstocklaw14_DeriveBegins.T20.2 rootstocklaw14_DeriveBegins.B20 = true := by kernel_rfl

end Go.Proofs.Ytadabkkkalgehaa.PBe
