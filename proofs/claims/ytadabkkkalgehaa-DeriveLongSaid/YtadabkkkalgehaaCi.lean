import Derived.Test.YtadabkkkalgehaaAp
import Derived.Laws.AppendOwnNone
/-
  CopyInts: a list of its own.
-/
namespace Go.Proofs.Ytadabkkkalgehaa.H
open Go.RowKit
set_option linter.unusedVariables false
set_option linter.unusedSimpArgs false
theorem run_append_none_c {P : Program} {w : World} (base : Nat) (t ty e : TypeId) (i : TypeInfo) (size : Nat) (ht : P.underlying t = some (.slice e)) (hi : P.info? e = some i)
    (v : Value) (n : Nat) (xs : List Value) (c : Nat) (hown : w.ownsRow base e size v n xs) :
    (Builtin.append_ #[t, t] ty #[v, .slice none 0 c]).run P w = .ok v w := by
  rcases hown.2 with ⟨rfl, rfl⟩ | ⟨g, cap, cur, rfl, _, _, hnc, _⟩
  · simp [Builtin.append_, run_underlying ht, sizeOf, typeInfo, hi, Builtin.lenOf, Builtin.firstCells]
  · simp [Builtin.append_, run_underlying ht, sizeOf, typeInfo, hi, Builtin.lenOf, Builtin.firstCells, hnc, storeCells]
theorem wpl_own_none_c {P : Program} {w : World} {ops : Array Oper} {rest : List Oper} {o : Oper} {a : Act} {Q : Exit → Act → World → Prop} (hgd : o.guard = none) (s x : Operand) (t : TypeId)
    (ho : o.op = .call { callee := .builtin .append, args := #[s, x], argTypes := #[t, t] })
    (base : Nat) (e : TypeId) (i : TypeInfo) (size : Nat) (ht : P.underlying t = some (.slice e)) (hi : P.info? e = some i)
    (v : Value) (n : Nat) (xs : List Value) (c : Nat) (hs : a.eval s = v) (hown : w.ownsRow base e size v n xs) (hx : a.eval x = .slice none 0 c)
    (h : wpList P ops Q rest (a.put o.dst v) w) : wpList P ops Q (o :: rest) a w := by
  refine wpList_plain hgd fun K hK => ?_
  have hrun := run_append_none_c (P := P) (w := w) base t o.type e i size ht hi v n xs c hown
  unfold Oper.wp
  simp [execOp, ho, resolve, invoke, builtin, hs, hx, hrun, Result.andThen]
  exact hK _ _ h
/-- append of the numbers that a slice reads as, onto a list of the call's own. -/
theorem wpl_append_rd2 {ops : Array Oper} {rest : List Oper} {o : Oper} {a : Act} {Q : Exit → Act → World → Prop} (w : World) (hgd : o.guard = none) (s x : Operand)
    (ho : o.op = .call { callee := .builtin .append, args := #[s, x], argTypes := #[25, 25] })
    (B : Nat) (v : Value) (xs : List Int) (hs : a.eval s = v) (hown : OwnI w B v xs) (A : Option Addr) (c : Nat) (ys : List Int) (hx : a.eval x = .slice A ys.length c)
    (hr : Rd eI 1 w w.heap.size A ys)
    (hl : xs.length + ys.length < 8796093022208) (hbase : B ≤ w.heap.size)
    (h : ∀ v' w', Grew w w' B v v' xs (xs ++ ys) → wpList Try.prog ops Q rest (a.put o.dst v') w') : wpList Try.prog ops Q (o :: rest) a w := by
  obtain ⟨i0, hi0, hz0, hz1, hz2⟩ := info_parts info_int
  cases A with
  | none =>
    have hy : ys = [] := by
      cases ys with
      | nil => rfl
      | cons y ys => obtain ⟨ad, e, _⟩ := hr 0 (by simp); cases e
    subst hy
    refine wpl_own_none_c hgd s x 25 ho B 3 i0 1 Try.underlying25 hi0 v xs.length _ c hs hown hx (h v w ⟨by simpa using hown, Below.refl _ _, fun _ _ _ hb _ => hb⟩)
  | some ad =>
    refine wpList_append_own w hgd s x 25 ho B 3 i0 (.int .i64 0) 1 8 Try.underlying25 hi0 hz0 hz1 hz2 rfl (by decide) v xs.length (xs.map (Value.int .i64)) hs hown ad ys.length c (ys.map (Value.int .i64)) hx (by simp)
      (fun j u hu => ?_) (fun u hu => by obtain ⟨z, _, rfl⟩ := List.mem_map.1 hu; rfl) (by simp only [maxLen]; omega) (by omega) hbase (fun v' w' h1 h2 _ => h v' w' ⟨?_, ?_, ?_⟩)
    · have hj : j < ys.length := by have := (List.getElem?_eq_some_iff.1 hu).1; simpa using this
      obtain ⟨ad', e, _, hc⟩ := hr.int j hj
      injection e with e
      subst e
      rw [hc, ← hu]
      simp [hj]
    · unfold OwnI
      rw [List.map_append, List.length_append]
      exact h1
    · exact (Below.refl _ _).grown h2 hbase (fun b hb => hown.blk b hb)
    · intro b t cs hb ht
      exact hb.grown h2 (hown.blk_ne hb ht)
set_option maxRecDepth 100000 in
set_option maxHeartbeats 4000000 in
theorem copyInts_any (A : Option Addr) (c : Nat) (l : List Int) (w : World) (hr : Rd eI 1 w w.heap.size A l) (hl : l.length < 8796093022208) :
    Calls Try.prog 13 #[.slice A l.length c] w fun e w' => ∃ v, e = .returned v ∧ OwnI w' w.heap.size v l ∧ Below w.heap.size w w' := by
  go_enter Try.func13, Try.ntmps13
  go_wp2_with (at_builtin; refine wpl_append_rd2 _ rfl (.const (.slice none 0 0)) (.tmp 3) rfl w.heap.size (.slice none 0 0) [] rfl (OwnI.nil _ _) A c l rfl hr (by simpa using hl) (Nat.le_refl _) ?_)
  intro v' w1 hG
  have O1 := Keep.mk hG.own
  have B1 := Keep.mk hG.low
  obtain ⟨A8, c8, e8, _⟩ := hG.own.open_
  subst e8
  clear hG
  go_wp2
  go_ret
  exact ⟨_, rfl, O1.out, B1.out⟩
end Go.Proofs.Ytadabkkkalgehaa.H
