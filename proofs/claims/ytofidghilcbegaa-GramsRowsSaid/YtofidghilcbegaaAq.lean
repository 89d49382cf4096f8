/-
  append of one list of the call's own onto another.
-/
import Derived.Test.YtofidghilcbegaaAp
import Derived.Laws.AppendOwnNone
namespace Go.Proofs.Ytofidghilcbegaa.H
open Go.RowKit
set_option linter.unusedVariables false
set_option linter.unusedSimpArgs false

theorem wpl_append_own2 {ops : Array Oper} {rest : List Oper} {o : Oper} {a : Act} {Q : Exit → Act → World → Prop} (w : World) (hgd : o.guard = none) (s x : Operand)
    (ho : o.op = .call { callee := .builtin .append, args := #[s, x], argTypes := #[31, 31] })
    (B : Nat) (v : Value) (xs : List Int) (hs : a.eval s = v) (hown : OwnI w B v xs) (B2 : Nat) (v2 : Value) (ys : List Int) (hx : a.eval x = v2) (hown2 : OwnI w B2 v2 ys)
    (hl : xs.length + ys.length < 8796093022208) (hbase : B ≤ w.heap.size)
    (h : ∀ v' w', Grew w w' B v v' xs (xs ++ ys) → wpList Try.prog ops Q rest (a.put o.dst v') w') : wpList Try.prog ops Q (o :: rest) a w := by
  obtain ⟨i0, hi0, hz0, hz1, hz2⟩ := info_parts info_int
  rcases hown2.2 with ⟨rfl, h0⟩ | ⟨g, cap, cur, rfl, hB, hh, hn, hc, hsz, ht⟩
  · have hy : ys = [] := List.eq_nil_of_length_eq_zero h0
    subst hy
    refine wpList_append_own_none hgd s x 31 ho B 3 i0 1 Try.underlying31 hi0 v xs.length _ hs hown hx (h v w ⟨by simpa using hown, Below.refl _ _, fun _ _ _ hb _ => hb⟩)
  · refine wpList_append_own w hgd s x 31 ho B 3 i0 (.int .i64 0) 1 8 Try.underlying31 hi0 hz0 hz1 hz2 rfl (by decide) v xs.length (xs.map (Value.int .i64)) hs hown ⟨g, 0, none⟩ ys.length cap (ys.map (Value.int .i64)) hx (by simp)
      (fun j u hu => ?_) (fun u hu => by obtain ⟨z, _, rfl⟩ := List.mem_map.1 hu; rfl) (by simp only [maxLen]; omega) (by omega) hbase (fun v' w' h1 h2 _ => h v' w' ⟨?_, ?_, ?_⟩)
    · have hj : j < ys.length := by have := (List.getElem?_eq_some_iff.1 hu).1; simpa using this
      have e : (Addr.mk g 0 none).add j = ⟨g, j, none⟩ := by by_cases h0 : j = 0 <;> simp [Addr.add, h0]
      rw [e, cell_of_row w g j cur _ _ hh, ← hu, ← ht, List.getElem?_take, if_pos (by omega)]
      simp
    · unfold OwnI
      rw [List.map_append, List.length_append]
      exact h1
    · exact (Below.refl _ _).grown h2 hbase (fun b hb => hown.blk b hb)
    · intro b t cs hb ht
      exact hb.grown h2 (hown.blk_ne hb ht)
end Go.Proofs.Ytofidghilcbegaa.H
