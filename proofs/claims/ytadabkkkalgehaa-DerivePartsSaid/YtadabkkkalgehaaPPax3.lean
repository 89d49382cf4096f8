-- printed by wip/eprint.py of this session's repo, out of the translation and contracts proved by hand
import Derived.Test.YtadabkkkalgehaaPPax0
import Derived.Test.YtadabkkkalgehaaPPax1
namespace Go.Proofs.Ytadabkkkalgehaa.PPa
open Go.RowKit Go.Proofs.YtadabkkkalgehaaW.PrintWords Go.Proofs.YtadabkkkalgehaaW.PrintLast Go.Proofs.YtadabkkkalgehaaW.PrintMore
attribute [local go_sem] max2_int min2_int max_two min_two max_three min_three max_four min_four   -- for this text's walks alone
set_option linter.unusedVariables false
set_option linter.unusedSimpArgs false

/-! ### rootstocklaw14_DeriveParts: function 8 -/
mutual
noncomputable def rootstocklaw14_DeriveParts.j0 : Nat → Int → List Int → Bool → Int → Int → Int → List (S55) → Option (Bool)
  | 0, _, _, _, _, _, _, _ => none
  | k + 1, x1, x2, x17, x116000, x116001, x116002, x116003 => if x17 = true then ((rootstocklaw14_lives.f).bind fun t117 => (some t117)) else ((derive_Derives.f x116000 x116001 x116002 x116003 x1 x2).bind fun bt118 => (if bt118.2 = 0 then (if x1 < x116000 then (if (x2.length : Int) = 1 then (if 0 < (x2.length : Int) then (if (bt118.1 == ((rd x2 0) == x1)) = true then ((rootstocklaw14_lives.f).bind fun t122 => (some t122)) else (some false)) else (none)) else (if (bt118.1 == false) = true then ((rootstocklaw14_lives.f).bind fun t123 => (some t123)) else (some false))) else (rootstocklaw14_DeriveParts.l0 k x1 x2 bt118.1 false 0 x116000 x116001 x116002 x116003)) else (if bt118.1 = true then (some false) else ((rootstocklaw14_lives.f).bind fun t120 => (some t120)))))
noncomputable def rootstocklaw14_DeriveParts.l0 : Nat → Int → List Int → Bool → Bool → Int → Int → Int → Int → List (S55) → Option (Bool)
  | 0, _, _, _, _, _, _, _, _, _ => none
  | k + 1, x1, x2, x7, x9, x10, x116000, x116001, x116002, x116003 => if x10 < (x116003.length : Int) then (if x9 = true then (rootstocklaw14_DeriveParts.l0 k x1 x2 x7 true (wrap64 (x10 + 1)) x116000 x116001 x116002 x116003) else (if 0 ≤ x10 then (if ((rd_T55 x116003 x10).f0) = x1 then ((rootstocklaw14_parted.f k x116000 x116001 x116002 x116003 ((rd_T55 x116003 x10).f1) x2).bind fun t126 => (rootstocklaw14_DeriveParts.l0 k x1 x2 x7 t126 (wrap64 (x10 + 1)) x116000 x116001 x116002 x116003)) else (rootstocklaw14_DeriveParts.l0 k x1 x2 x7 false (wrap64 (x10 + 1)) x116000 x116001 x116002 x116003)) else (none))) else (if (x7 == x9) = true then ((rootstocklaw14_lives.f).bind fun t127 => (some t127)) else (some false))
end
noncomputable def rootstocklaw14_DeriveParts.f (k : Nat) (a0_0 : Int) (a0_1 : Int) (a0_2 : Int) (l0_3 : List (S55)) (a1 : Int) (l2 : List Int) : Option (Bool) := (rootstocklaw14_Great.f k a0_0 a0_1 a0_2 l0_3).bind fun t116 => (if t116 = true then (rootstocklaw14_DeriveParts.j0 k a1 l2 true a0_0 a0_1 a0_2 l0_3) else (rootstocklaw14_DeriveParts.j0 k a1 l2 (decide ((l2.length : Int) > 8)) a0_0 a0_1 a0_2 l0_3))
theorem rootstocklaw14_DeriveParts.mono_l : ∀ k, (∀ y0 y1 y2 y3 y4 y5 y6, LeO (rootstocklaw14_DeriveParts.j0 k y0 y1 y2 y3 y4 y5 y6) (rootstocklaw14_DeriveParts.j0 (k + 1) y0 y1 y2 y3 y4 y5 y6)) ∧ (∀ y0 y1 y2 y3 y4 y5 y6 y7 y8, LeO (rootstocklaw14_DeriveParts.l0 k y0 y1 y2 y3 y4 y5 y6 y7 y8) (rootstocklaw14_DeriveParts.l0 (k + 1) y0 y1 y2 y3 y4 y5 y6 y7 y8))
  | 0 => ⟨fun _ _ _ _ _ _ _ r h => by simp [rootstocklaw14_DeriveParts.j0] at h, fun _ _ _ _ _ _ _ _ _ r h => by simp [rootstocklaw14_DeriveParts.l0] at h⟩
  | k + 1 => by
    obtain ⟨ih0, ih1⟩ := rootstocklaw14_DeriveParts.mono_l k
    refine ⟨?_, ?_⟩
    · intro y0 y1 y2 y3 y4 y5 y6
      unfold rootstocklaw14_DeriveParts.j0
      repeat' first
      | (with_reducible exact ih0 _ _ _ _ _ _ _)
      | (with_reducible exact ih1 _ _ _ _ _ _ _ _ _)
      | (with_reducible exact rootstocklaw14_Great.mono _ _ _ _ _)
      | (with_reducible exact rootstocklaw14_parted.mono _ _ _ _ _ _ _)
      | (with_reducible exact LeO.refl _)
      | (with_reducible exact LeO.none _)
      | (with_reducible refine LeO.ite ?_ ?_)
      | (with_reducible refine LeO.bind ?_ (fun _ => ?_))
      | exact ih0 _ _ _ _ _ _ _
      | exact ih1 _ _ _ _ _ _ _ _ _
      | exact rootstocklaw14_Great.mono _ _ _ _ _
      | exact rootstocklaw14_parted.mono _ _ _ _ _ _ _
      | exact LeO.none _
      | refine LeO.ite ?_ ?_
      | refine LeO.bind ?_ (fun _ => ?_)
    · intro y0 y1 y2 y3 y4 y5 y6 y7 y8
      unfold rootstocklaw14_DeriveParts.l0
      repeat' first
      | (with_reducible exact ih0 _ _ _ _ _ _ _)
      | (with_reducible exact ih1 _ _ _ _ _ _ _ _ _)
      | (with_reducible exact rootstocklaw14_Great.mono _ _ _ _ _)
      | (with_reducible exact rootstocklaw14_parted.mono _ _ _ _ _ _ _)
      | (with_reducible exact LeO.refl _)
      | (with_reducible exact LeO.none _)
      | (with_reducible refine LeO.ite ?_ ?_)
      | (with_reducible refine LeO.bind ?_ (fun _ => ?_))
      | exact ih0 _ _ _ _ _ _ _
      | exact ih1 _ _ _ _ _ _ _ _ _
      | exact rootstocklaw14_Great.mono _ _ _ _ _
      | exact rootstocklaw14_parted.mono _ _ _ _ _ _ _
      | exact LeO.none _
      | refine LeO.ite ?_ ?_
      | refine LeO.bind ?_ (fun _ => ?_)
theorem rootstocklaw14_DeriveParts.mono : ∀ a0 a1 a2 a3 a4 a5 k, LeO (rootstocklaw14_DeriveParts.f k a0 a1 a2 a3 a4 a5) (rootstocklaw14_DeriveParts.f (k + 1) a0 a1 a2 a3 a4 a5) := by
 intro a0 a1 a2 a3 a4 a5 k
 obtain ⟨ih0, ih1⟩ := rootstocklaw14_DeriveParts.mono_l k
 unfold rootstocklaw14_DeriveParts.f
 repeat' first
  | (with_reducible exact ih0 _ _ _ _ _ _ _)
  | (with_reducible exact ih1 _ _ _ _ _ _ _ _ _)
  | (with_reducible exact rootstocklaw14_Great.mono _ _ _ _ _)
  | (with_reducible exact rootstocklaw14_parted.mono _ _ _ _ _ _ _)
  | (with_reducible exact LeO.refl _)
  | (with_reducible exact LeO.none _)
  | (with_reducible refine LeO.ite ?_ ?_)
  | (with_reducible refine LeO.bind ?_ (fun _ => ?_))
  | exact ih0 _ _ _ _ _ _ _
  | exact ih1 _ _ _ _ _ _ _ _ _
  | exact rootstocklaw14_Great.mono _ _ _ _ _
  | exact rootstocklaw14_parted.mono _ _ _ _ _ _ _
  | exact LeO.none _
  | refine LeO.ite ?_ ?_
  | refine LeO.bind ?_ (fun _ => ?_)
def rootstocklaw14_DeriveParts.T12 : Bool × List (List Nat × List Nat) := (true, [([], []), ([0], [0]), ([1], [1]), ([2, 1], [1, 2]), ([1], [1]), ([3, 4, 1], [1, 3, 4]), ([5, 1], [1, 5]), ([6, 1], [1, 6]), ([1], [1]), ([7, 8, 1], [1, 7, 8]), ([9, 1, 1], [1, 9]), ([10], [10]), ([10], [10]), ([12, 10], [10, 12]), ([10], [10]), ([13, 14, 10], [10, 13, 14]), ([15, 10], [10, 15]), ([16, 10], [10, 16]), ([10], [10]), ([11, 17, 18, 10, 10], [10, 11, 17, 18]), ([10, 19, 1], [1, 10, 19]), ([1, 20], [1, 20]), ([21, 19, 0, 1, 2, 3, 4, 5, 6, 7, 8, 9, 10, 11, 12, 13, 14, 15, 16, 17, 18, 19, 20, 21], [0, 21])])
def rootstocklaw14_DeriveParts.B12 : List Nat := [0, 1, 3, 7, 3, 31, 63, 127, 3, 511, 1023, 2047, 2047, 6143, 2047, 30719, 63487, 129023, 2047, 524287, 1048575, 2097151, 4194303]
theorem rootstocklaw14_DeriveParts.tab12 : rtab .any (opsOf Try.f8 12) = rootstocklaw14_DeriveParts.T12 := by kernel_rfl
theorem rootstocklaw14_DeriveParts.bits12 : waitsOk rootstocklaw14_DeriveParts.T12.2 rootstocklaw14_DeriveParts.B12 = true := by kernel_rfl

end Go.Proofs.Ytadabkkkalgehaa.PPa
