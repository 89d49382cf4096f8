/-
  The row of DeriveTells: called with any arguments it returns true, and each reads behind the call as it read before.
-/
import Derived.Test.YtadabkkkalgehaaRows
import Derived.Test.YtadabkkkalgehaaZ1
import Derived.Test.YtadabkkkalgehaaZ6
namespace Go.Proofs.Ytadabkkkalgehaa.deriveTells
open Go.ChangeShapes Go.WideShapes Go.ChangeAt Go.RowKit Go.Proofs.YtadabkkkalgehaaW.PrintWords Go.Proofs.Ytadabkkkalgehaa.PTl Go.Proofs.Ytadabkkkalgehaa.Rg
set_option linter.unusedVariables false
set_option linter.unusedSimpArgs false
theorem rds_55 {H : Type} {enc : TypeId × Value → H} {w : World} : ∀ n, Rds enc w 55 k55 n := by
  intro n
  intro cs y h
  obtain ⟨m, rfl, hl, hf⟩ := str_of Try.underlying55 h
  rw [show Try.prog.cellsOf 55 = 3 from by kernel_rfl] at hl
  have h0 : ∃ z, DataW.trod enc Try.prog w 0 (fun _ => true) true m 3 ((cs.drop 0).take 1) = some z := by
    obtain ⟨z, hz⟩ := hf 0 _ rfl
    refine ⟨z, ?_⟩
    rw [← show Try.prog.cellsOf 3 = 1 from by kernel_rfl]
    exact hz
  obtain ⟨z0, g0⟩ := h0
  have h1 : ∃ z, DataW.trod enc Try.prog w 0 (fun _ => true) true m 25 ((cs.drop 1).take 1) = some z := by
    obtain ⟨z, hz⟩ := hf 1 _ rfl
    refine ⟨z, ?_⟩
    rw [← show Try.prog.cellsOf 25 = 1 from by kernel_rfl]
    exact hz
  obtain ⟨z1, g1⟩ := h1
  have h2 : ∃ z, DataW.trod enc Try.prog w 0 (fun _ => true) true m 4 ((cs.drop 2).take 1) = some z := by
    obtain ⟨z, hz⟩ := hf 2 _ rfl
    refine ⟨z, ?_⟩
    rw [← show Try.prog.cellsOf 4 = 1 from by kernel_rfl]
    exact hz
  obtain ⟨z2, g2⟩ := h2
  exact fld_iso (fun x => ⟨x.1, x.2.1, x.2.2⟩) (fun _ => rfl) (fld_cons (rds_int Try.underlying3 _) g0 (fld_cons (rds_slice Try.underlying25 (by kernel_rfl) (fun j _ => (rds_int Try.underlying3 _))) g1 (fld_last (rds_bool Try.underlying4 _) hl g2)))
theorem rds_24 {H : Type} {enc : TypeId × Value → H} {w : World} : ∀ n, Rds enc w 24 k24 n := by
  intro n
  intro cs y h
  obtain ⟨m, rfl, hl, hf⟩ := str_of Try.underlying24 h
  rw [show Try.prog.cellsOf 24 = 4 from by kernel_rfl] at hl
  have h0 : ∃ z, DataW.trod enc Try.prog w 0 (fun _ => true) true m 3 ((cs.drop 0).take 1) = some z := by
    obtain ⟨z, hz⟩ := hf 0 _ rfl
    refine ⟨z, ?_⟩
    rw [← show Try.prog.cellsOf 3 = 1 from by kernel_rfl]
    exact hz
  obtain ⟨z0, g0⟩ := h0
  have h1 : ∃ z, DataW.trod enc Try.prog w 0 (fun _ => true) true m 3 ((cs.drop 1).take 1) = some z := by
    obtain ⟨z, hz⟩ := hf 1 _ rfl
    refine ⟨z, ?_⟩
    rw [← show Try.prog.cellsOf 3 = 1 from by kernel_rfl]
    exact hz
  obtain ⟨z1, g1⟩ := h1
  have h2 : ∃ z, DataW.trod enc Try.prog w 0 (fun _ => true) true m 3 ((cs.drop 2).take 1) = some z := by
    obtain ⟨z, hz⟩ := hf 2 _ rfl
    refine ⟨z, ?_⟩
    rw [← show Try.prog.cellsOf 3 = 1 from by kernel_rfl]
    exact hz
  obtain ⟨z2, g2⟩ := h2
  have h3 : ∃ z, DataW.trod enc Try.prog w 0 (fun _ => true) true m 22 ((cs.drop 3).take 1) = some z := by
    obtain ⟨z, hz⟩ := hf 3 _ rfl
    refine ⟨z, ?_⟩
    rw [← show Try.prog.cellsOf 22 = 1 from by kernel_rfl]
    exact hz
  obtain ⟨z3, g3⟩ := h3
  exact fld_iso (fun x => ⟨x.1, x.2.1, x.2.2.1, x.2.2.2⟩) (fun _ => rfl) (fld_cons (rds_int Try.underlying3 _) g0 (fld_cons (rds_int Try.underlying3 _) g1 (fld_cons (rds_int Try.underlying3 _) g2 (fld_last (rds_slice Try.underlying22 (by kernel_rfl) (fun j _ => (rds_55 _))) hl g3))))
theorem own : ownKnob Try.prog.godebug = none := by kernel_rfl
theorem laidOut : laidOutB Try.prog = true := by kernel_rfl
set_option maxRecDepth 100000 in
theorem lifted (os : Os) (started : os.Started) (H : Type) (enc : TypeId × Value → H) :
    ReturnsInHanded {} Try.checked os 3 .any (Rows.deriveTellsSpec.pre6 enc Try.prog Try.f3 Rows.deriveTellsRow.domain false) (Rows.deriveTellsSpec.post enc Try.prog Try.f3 false true false false) := by
  refine returnsInHanded_of_change_sized (C := Try.checked) own started (by kernel_rfl) Try.func3
    (ChangeSpec.witness6 (enc := enc) (C := Try.checked) false ⟨#[], #[.agg #[.int .i64 0, .int .i64 0, .int .i64 0, .slice none 0 0], .int .i64 0, .slice none 0 0], []⟩ 8 (by kernel_rfl) (by kernel_rfl) (by kernel_rfl) (by kernel_rfl)) ?_
  intro W base args ds gs before hval0 hW hcnd hsz0 _
  have hval : ∀ (j : Nat) t v, Try.f3.params[j]? = some t → args[j]? = some v → Value.okWide Try.prog W .any base t v := hval0
  have hW' := hW
  obtain ⟨p, q, hA0, hV, rfl, hfz, hnd⟩ := hW
  have hA : DataW.TrodAll enc Try.prog W 0 (fun _ => true) true Try.f3.params.toList args.toList ds p := hA0
  rw [Try.params3] at hA hval
  obtain ⟨v0, vs0, d0, ds0, p0, q0, hargs, rfl, rfl, h0, r0⟩ := trodAll_cons hA
  obtain ⟨v1, vs1, d1, ds1, p1, q1, rfl, rfl, rfl, h1, r1⟩ := trodAll_cons r0
  obtain ⟨v2, vs2, d2, ds2, p2, q2, rfl, rfl, rfl, h2, r2⟩ := trodAll_cons r1
  obtain ⟨rfl, rfl, rfl⟩ := trodAll_nil r2
  obtain rfl : args = #[v0, v1, v2] := by cases args; simp_all
  obtain ⟨rfl, rfl⟩ := trodVars_none hV
  have k0 := h0
  have lt0 : ∀ x ∈ p0, x.block < W.heap.size := by obtain ⟨m, hm⟩ := k0; exact DataW.trod_lt m _ _ _ hm
  obtain ⟨x0, cs0, rfl, K0⟩ := arg_agg (d := k24) Try.underlying24 (hval 0 24 v0 rfl rfl) h0 (fun n => rds_24 n)
  obtain ⟨A0_3, c0_3, rfl, hc0_3, hr0_3⟩ := k24_open K0
  have k1 := h1
  have lt1 : ∀ x ∈ p1, x.block < W.heap.size := by obtain ⟨m, hm⟩ := k1; exact DataW.trod_lt m _ _ _ hm
  obtain ⟨a1, rfl, _, _, wf1⟩ := open_int Try.underlying3 (hval 1 3 v1 rfl rfl) h1
  have k2 := h2
  have lt2 : ∀ x ∈ p2, x.block < W.heap.size := by obtain ⟨m, hm⟩ := k2; exact DataW.trod_lt m _ _ _ hm
  obtain ⟨A2, l2, c2, rfl, hc2, hr2⟩ := arg_slice (d := (Kd.int .i64)) Try.underlying25 (by kernel_rfl) (hval 2 25 v2 rfl rfl) h2 (fun n => (rds_int Try.underlying3 n))
  obtain ⟨fuel, hpure⟩ := tells_pure (x0.f0) (x0.f1) (x0.f2) (x0.f3) (a1) (l2)
  have hcall := rootstocklaw14_DeriveTells.calls (k := fuel) (a0_0 := x0.f0) (a0_1 := x0.f1) (a0_2 := x0.f2) (l0_3 := x0.f3) (A0_3 := A0_3) (c0_3 := c0_3) (hr0_3 := hr0_3) (hc0_3 := hc0_3) (a1 := a1) (l2 := l2) (A2 := A2) (c2 := c2) (hr2 := hr2) (hc2 := hc2) (r := true) (w := W) (hrt_ := rfl) (h := hpure)
  refine hcall.mono fun e W' ⟨he, bel⟩ => ?_
  subst he
  exact ⟨_, rfl, _, _, _, [], _, [], hW', trodAll_mk1 (shut_bool Try.underlying4 _), (trodAll_cons_mk (Below.trod laidOut (by kernel_rfl) (of_decide_eq_true (by kernel_rfl)) k0 bel lt0) (trodAll_cons_mk (Below.trod laidOut (by kernel_rfl) (of_decide_eq_true (by kernel_rfl)) k1 bel lt1) (trodAll_cons_mk (Below.trod laidOut (by kernel_rfl) (of_decide_eq_true (by kernel_rfl)) k2 bel lt2) trodAll_mk0))), rfl, bel.frame _, fun h => by cases h⟩
theorem over : Rows.deriveTellsRow.holds Try.pinned (OpenSpec.ofChange Rows.deriveTellsSpec) :=
  OpenClaim.holds_of_wide 3 Try.f3 rfl rfl rfl rfl rfl rfl rfl ⟨rfl, rfl, rfl, rfl, rfl⟩ rfl rfl rfl rfl rfl (by kernel_rfl) Try.func3 (by kernel_rfl)
    (of_decide_eq_true (by kernel_rfl)) (by unfold Func.isWrapper; first | (rw [if_pos (by decide +kernel)]; kernel_rfl) | (rw [if_neg (by decide +kernel)]; exact ⟨rfl, rfl⟩))
    (fun os started H enc _ => lifted os started H enc)
end Go.Proofs.Ytadabkkkalgehaa.deriveTells
namespace Go.Proofs.Ytadabkkkalgehaa
theorem deriveTells_holds : Rows.DeriveTellsSaid := deriveTells.over
#print axioms deriveTells_holds
end Go.Proofs.Ytadabkkkalgehaa
