/-
  GramsRows, walked: small laws.
-/
import Derived.Test.YtofidghilcbegaaPlX
import Derived.Test.YtofidghilcbegaaPlB
import Derived.Test.YtofidghilcbegaaWyA
namespace Go.Proofs.Ytofidghilcbegaa.H
open Go.RowKit
set_option linter.unusedVariables false
set_option linter.unusedSimpArgs false

/-- append of the numbers that a slice reads as, onto a list of the call's own. -/
theorem wpl_append_rd {ops : Array Oper} {rest : List Oper} {o : Oper} {a : Act} {Q : Exit → Act → World → Prop} (w : World) (hgd : o.guard = none) (s x : Operand)
    (ho : o.op = .call { callee := .builtin .append, args := #[s, x], argTypes := #[31, 31] })
    (B : Nat) (v : Value) (xs : List Int) (hs : a.eval s = v) (hown : OwnI w B v xs) (ad : Addr) (n c : Nat) (ys : List Int) (hn : n = ys.length) (hx : a.eval x = .slice (some ad) n c)
    (hc : ∀ j (h : j < ys.length), w.cell? (ad.add j) = some (.int .i64 ys[j]))
    (hl : xs.length + ys.length < 8796093022208) (hbase : B ≤ w.heap.size)
    (h : ∀ v' w', Grew w w' B v v' xs (xs ++ ys) → wpList Try.prog ops Q rest (a.put o.dst v') w') : wpList Try.prog ops Q (o :: rest) a w := by
  subst hn
  obtain ⟨i0, hi0, hz0, hz1, hz2⟩ := info_parts info_int
  refine wpList_append_own w hgd s x 31 ho B 3 i0 (.int .i64 0) 1 8 Try.underlying31 hi0 hz0 hz1 hz2 rfl (by decide) v xs.length (xs.map (Value.int .i64)) hs hown ad ys.length c (ys.map (Value.int .i64)) hx (by simp)
    (fun j u hu => ?_) (fun u hu => by obtain ⟨z, _, rfl⟩ := List.mem_map.1 hu; rfl) (by simp only [maxLen]; omega) (by omega) hbase (fun v' w' h1 h2 _ => h v' w' ⟨?_, ?_, ?_⟩)
  · have hj : j < ys.length := by have := (List.getElem?_eq_some_iff.1 hu).1; simpa using this
    rw [hc j hj, ← hu]
    simp [hj]
  · unfold OwnI
    rw [List.map_append, List.length_append]
    exact h1
  · exact (Below.refl _ _).grown h2 hbase (fun b hb => hown.blk b hb)
  · intro b t cs hb ht
    exact hb.grown h2 (hown.blk_ne hb ht)
theorem OwnI.emptyAt {w : World} {B g : Nat} (hg : g = w.heap.size) (hb : B ≤ w.heap.size) : OwnI (w.alloc (.cells #[] 3)) B (.slice (some ⟨g, 0, none⟩) 0 0) [] := by
  subst hg
  exact World.ownsRow_made _ #[] 0 hb (by simp [maxLen]) (by simp)
theorem tmod_low (x : Int) (n : Nat) (hn : 0 < n) (h : x.tmod n < 0) : 0 ≤ x.tmod n + n ∧ x.tmod n + n < n := by
  have h1 : -(n : Int) < x.tmod n := by
    rw [← Int.neg_neg x, Int.neg_tmod]
    have := Int.tmod_lt_of_pos (-x) (show (0 : Int) < n by omega)
    omega
  omega
theorem tmod_high (x : Int) (n : Nat) (hn : 0 < n) (h : ¬ x.tmod n < 0) : 0 ≤ x.tmod n ∧ x.tmod n < n := ⟨by omega, Int.tmod_lt_of_pos x (show (0 : Int) < n by omega)⟩
/-- The row behind a step. -/
theorem row_cut {row : List Int} {k : Nat} (h : k < row.length) : row = row.take k ++ [row[k]] ++ row.drop (k + 1) := by simp
end Go.Proofs.Ytofidghilcbegaa.H
