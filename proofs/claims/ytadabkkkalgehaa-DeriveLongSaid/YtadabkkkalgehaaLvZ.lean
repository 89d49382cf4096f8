import Derived.Test.YtadabkkkalgehaaDv
import Derived.Test.YtadabkkkalgehaaPLix3
/-
  The chapter's sums: what is told of them.
-/
namespace Go.Proofs.Ytadabkkkalgehaa.H
set_option linter.unusedVariables false
set_option linter.unusedSimpArgs false

def sumsG : Gr := ⟨2, 3, 2, [⟨2, [2, 1, 2], false⟩, ⟨2, [0], false⟩]⟩
theorem sums_check : checkI sumsG = 0 := by decide +kernel
theorem sums_gr : GrD sumsG 1 := by
  refine ⟨GrIn.ok sums_check, by decide, fun s h0 h1 => ?_⟩
  have h1' : s < 3 := h1
  have : s = 0 ∨ s = 1 ∨ s = 2 := by omega
  unfold Rk Rk
  rcases this with rfl | rfl | rfl <;> decide
theorem sums_num (row : List Int) {s : Int} {f t : Nat} (h0 : 0 ≤ s) (h1 : s < 3) (hft : f ≤ t) (ht : t ≤ row.length) : numS sumsG row s f t = (cnt sumsG row (depN 1 row.length)).1 s f t :=
  num_eval sums_gr (Nat.le_refl _) h0 h1 hft ht
theorem sums_start (s : Int) (row : List Int) : startE sumsG s row = if ¬ (0 ≤ s ∧ s < 3) then 2 else if row.all (termB sumsG) = false then 2 else if 64 < row.length then 3 else 0 := by
  unfold startE
  rw [sums_check, if_neg (by simp)]
  rfl
theorem lv1 : derR sumsG 2 [0, 1, 0] = (true, 0) := by
  unfold derR
  rw [sums_start, sums_num _ (by decide) (by decide) (by decide) (Nat.le_refl _)]
  decide +kernel
theorem lv2 : derR sumsG 2 [0, 1] = (false, 0) := by
  unfold derR
  rw [sums_start, sums_num _ (by decide) (by decide) (by decide) (Nat.le_refl _)]
  decide +kernel
theorem lv3 : derR sumsG 2 [0, 0] = (false, 0) := by
  unfold derR
  rw [sums_start, sums_num _ (by decide) (by decide) (by decide) (Nat.le_refl _)]
  decide +kernel
theorem lv4 : countR sumsG 2 [0, 1, 0, 1, 0] = (2, 0) := by
  unfold countR
  rw [sums_start, sums_num _ (by decide) (by decide) (by decide) (Nat.le_refl _)]
  decide +kernel
theorem lv5 : derR sumsG 3 [] = (false, 2) := by
  unfold derR
  rw [sums_start, if_neg (by decide)]
  rfl
theorem via_of {g : Gr} {row : List Int} {b : Bool} (h : startE g g.st row = 0) (hb : Be g row g.st 0 ↔ b = true) : viaR g row = (b, 0) := by
  unfold viaR
  rw [if_pos h]
  congr 1
  rw [Bool.eq_iff_iff, beB_iff]
  exact hb
theorem lv6 : viaR sumsG [0, 1] = (true, 0) := by
  refine via_of (by rw [show sumsG.st = 2 from rfl, sums_start]; decide) ⟨fun _ => rfl, fun _ => ?_⟩
  refine ⟨1, .inr ⟨by decide, 0, by decide, rfl, 1, 1, by decide, ⟨0, rfl, by decide, by decide, ?_⟩, .inr ⟨by decide, by decide, by decide⟩⟩⟩
  show 0 < numS sumsG [0, 1] 2 0 1
  rw [sums_num _ (by decide) (by decide) (by decide) (by decide)]
  decide +kernel
theorem lv7 : viaR sumsG [0] = (true, 0) := by
  refine via_of (by rw [show sumsG.st = 2 from rfl, sums_start]; decide) ⟨fun _ => rfl, fun _ => ?_⟩
  exact ⟨1, .inr ⟨by decide, 1, by decide, rfl, 0, 0, by decide, rfl, .inr ⟨by decide, by decide, by decide⟩⟩⟩
theorem lv8 : viaR sumsG [0, 0] = (false, 0) := by
  refine via_of (by rw [show sumsG.st = 2 from rfl, sums_start]; decide) ⟨fun h => ?_, fun h => by cases h⟩
  exfalso
  obtain ⟨n, hn⟩ := h
  have key : ∀ n, ¬ BeN sumsG [0, 0] n 2 0 := by
    intro n
    induction n with
    | zero =>
      rintro (h | ⟨h, _⟩)
      · revert h; decide
      · revert h; decide
    | succ n ih =>
      rintro (h | ⟨_, p, hp, hh, i, q, hi, hr, hb⟩)
      · exact ih h
      · have hp2 : p < 2 := hp
        have : p = 0 ∨ p = 1 := by omega
        rcases this with rfl | rfl
        · have hi3 : i < 3 := hi
          have : i = 0 ∨ i = 1 ∨ i = 2 := by omega
          rcases this with rfl | rfl | rfl
          · have : q = 0 := hr
            subst this
            exact ih hb
          · obtain ⟨q', h1, h2, h3, h4⟩ := hr
            have : q' = 0 := h1
            subst this
            have h3' : q ≤ 2 := h3
            rcases BeN.term (by decide) hb with h | ⟨h, h'⟩
            · have : q = 2 := h
              subst this
              rw [sums_num _ (by decide) (by decide) (by decide) (by decide)] at h4
              revert h4
              decide +kernel
            · have : q = 1 := by simpa using h
              subst this
              revert h'
              decide
          · obtain ⟨q', h1, h2, h3, h4⟩ := hr
            have h3' : q ≤ 2 := h3
            obtain ⟨q2, k1, k2, k3, k4⟩ := h1
            have : q2 = 0 := k1
            subst this
            have : q' = 1 := by omega
            subst this
            have : q = 2 := by omega
            subst this
            have h4' : 0 < numS sumsG [0, 0] 1 1 2 := h4
            rw [sums_num _ (by decide) (by decide) (by decide) (by decide)] at h4'
            revert h4'
            decide +kernel
        · have hi1 : i < 1 := hi
          have : i = 0 := by omega
          subst this
          have : q = 0 := hr
          subst this
          rcases BeN.term (by decide) hb with h | ⟨h, h'⟩
          · revert h; decide
          · revert h; decide
  exact key n hn
end Go.Proofs.Ytadabkkkalgehaa.H
/-
  lives: it answers true.
-/
namespace Go.Proofs.Ytadabkkkalgehaa.PLi
open Go.RowKit Go.Proofs.YtadabkkkalgehaaW.PrintWords Go.Proofs.YtadabkkkalgehaaW.PrintLast Go.Proofs.YtadabkkkalgehaaW.PrintMore
set_option linter.unusedVariables false
set_option linter.unusedSimpArgs false

def sumsL : List S55 := [⟨2, [2, 1, 2], false⟩, ⟨2, [0], false⟩]
theorem sums_to : toGr 2 3 2 sumsL = H.sumsG := rfl
theorem der_s (s : Int) (l : List Int) : derive_Derives.f 2 3 2 sumsL s l = some (H.derR H.sumsG s l) := rfl
theorem via_s (l : List Int) : derive_Viable.f 2 3 2 sumsL l = some (H.viaR H.sumsG l) := rfl
theorem cnt_s (s : Int) (l : List Int) : derive_Count.f 2 3 2 sumsL s l = some (H.countR H.sumsG s l) := rfl
theorem lives_j : derive_Judge.f 20 2 3 2 sumsL [0, 0] = some (false, 1, 0) := by
  have e1 : wrap64 (0 + 1) = 1 := by decide +kernel
  have e2 : wrap64 (1 + 1) = 2 := by decide +kernel
  unfold derive_Judge.f
  rw [der_s, H.lv3, Option.bind_some, if_pos rfl, if_neg (by decide)]
  unfold derive_Judge.l0
  rw [if_pos (by decide), e1, if_pos (by decide), if_pos (by decide), via_s, show ([0, 0] : List Int).take (1 : Int).toNat = [0] from rfl, H.lv7, Option.bind_some, if_pos rfl]
  unfold derive_Judge.l0
  rw [if_pos (by decide), e2, if_pos (by decide), if_pos (by decide), via_s, show ([0, 0] : List Int).take (2 : Int).toNat = [0, 0] from rfl, H.lv8, Option.bind_some, if_neg (by decide)]
theorem lives_s2 : rootstocklaw14_Sum.f 20 2 = some [0, 1, 0] := by decide +kernel
theorem lives_s3 : rootstocklaw14_Sum.f 20 3 = some [0, 1, 0, 1, 0] := by decide +kernel
theorem lives_ft : derive_Fits.f 2 3 2 sumsL 0 (-1) [] = some 0 := by
  unfold derive_Fits.f
  rw [sums_to, H.sums_check]
  rfl
theorem lives_y : derive_Yield.f 0 0 [] = some [0] := by
  unfold derive_Yield.f
  have : yl ⟨0, 0, []⟩ = [0] := by simp [yl, yls]
  rw [this]
  rfl
theorem lives_true : rootstocklaw14_lives.f 20 = some true := by
  unfold rootstocklaw14_lives.f
  rw [show rootstocklaw14_Sums.f = some (2, 3, 2, sumsL) from rfl, Option.bind_some, lives_s2, Option.bind_some]
  dsimp only
  rw [der_s, H.lv1, Option.bind_some, der_s, H.lv2, Option.bind_some, via_s, H.lv6, Option.bind_some, lives_j, Option.bind_some, lives_s3, Option.bind_some, cnt_s, H.lv4, Option.bind_some, der_s, H.lv5, Option.bind_some]
  rw [lives_ft, lives_y]
  rfl
end Go.Proofs.Ytadabkkkalgehaa.PLi
/-
  lives: called.
-/
namespace Go.Proofs.Ytadabkkkalgehaa.H
open Go.RowKit
theorem lives_any (w : World) : Calls Try.prog 10 #[] w fun e w' => e = .returned (.bool true) ∧ Below w.heap.size w w' :=
  Go.Proofs.Ytadabkkkalgehaa.PLi.rootstocklaw14_lives.calls 20 true w rfl Go.Proofs.Ytadabkkkalgehaa.PLi.lives_true
end Go.Proofs.Ytadabkkkalgehaa.H
