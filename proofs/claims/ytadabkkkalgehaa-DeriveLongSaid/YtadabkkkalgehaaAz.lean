import Derived.Test.YtadabkkkalgehaaAp
/-
  append(x, make([]int, n)...): noughts behind a list of the call's own.
-/
namespace Go.Proofs.Ytadabkkkalgehaa.H
open Go.RowKit
set_option linter.unusedVariables false
set_option linter.unusedSimpArgs false
theorem zeroCells_int (n : Nat) : Builtin.zeroCells #[Value.int .i64 0] n = (List.replicate n (Value.int .i64 0)).toArray := by
  apply Array.ext
  · simp [Builtin.zeroCells]
  · intro i h1 h2
    simp [Builtin.zeroCells, Nat.mod_one]
theorem run_zeros_own (w : World) (B : Nat) (ty : TypeId) (v : Value) (xs : List Int) (hown : OwnI w B v xs) (n : Nat) (h0 : 0 < n) (hl : xs.length + n ≤ 1000000) (hbase : B ≤ w.heap.size) :
    ∃ v' w', (Builtin.append_ #[25, 3] ty #[v, .int .i64 n]).run Try.prog w = .ok v' w' ∧ OwnI w' B v' (xs ++ List.replicate n 0) ∧ w.grownBy w' v.ownBlock := by
  obtain ⟨i0, hi0, hz0, hz1, hz2⟩ := info_parts info_int
  have ht := Try.underlying25
  have hu := Try.underlying3
  have hw : IntKind.i64.wrap (n : Int) = n := by simp [IntKind.wrap, IntKind.bits, IntKind.signed]; omega
  have hn0 : ¬ n = 0 := by omega
  have hlt : ¬ ((n : Int) < 0) := by omega
  have hbg : ¬ (281474976710656 < (n : Int) * 8) := by omega
  have hmap : (xs ++ List.replicate n 0).map (Value.int .i64) = xs.map (Value.int .i64) ++ List.replicate n (Value.int .i64 0) := by simp
  have hlen : (xs ++ List.replicate n (0 : Int)).length = xs.length + n := by simp
  obtain ⟨hx1, hx2⟩ := hown
  rcases hx2 with ⟨rfl, hx0⟩ | ⟨g, cap, cur, rfl, hbg', hg, hnc, hcm, hcs, htake⟩
  · have hx : xs = [] := List.eq_nil_of_length_eq_zero hx0
    subst hx
    have hge := grownCap_ge w n 0 3
    have hcm : grownCap w n 0 3 ≤ maxLen := grownCap_le_maxLen w n 0 3 (by simp only [maxLen]; simp at hl; omega)
    have h48' : ¬ (281474976710656 < Builtin.nextslicecap n 0 * 8) := by rw [nextslicecap_zero h0]; simp at hl; omega
    have h63' : ¬ (9223372036854775807 < (n : Int)) := by simp at hl; omega
    refine ⟨.slice (some ⟨w.heap.size, 0, none⟩) n (grownCap w n 0 3), w.drew.alloc (.cells ((List.replicate n (Value.int .i64 0)).toArray ++ Builtin.zeroCells #[Value.int .i64 0] (grownCap w n 0 3 - n)) 3), ?_, ?_, ⟨rfl, rfl, rfl, by simp, fun k hk _ => Go.heap_alloc_old w.drew _ hk⟩⟩
    · simp [Builtin.append_, run_underlying ht, run_underlying hu, sizeOf, typeInfo, zeroValue, hi0, hz0, hz1, hz2, asInt, asIntOf, hw, hlt, hbg, hn0, h63', h48', Question.forced, run_firstCells_none, newRow, grownCap, zeroCells_int, Value.cells]
    · unfold OwnI
      rw [hmap, hlen]
      refine ⟨by simp, .inr ⟨w.heap.size, _, _, by simp, hbase, heap_alloc_new w.drew _, by simpa using hge, hcm, ?_, ?_⟩⟩
      · simp [zeroCells_int]; omega
      · simp
  · have hxl : xs.length = (xs.map (Value.int .i64)).length := by simp
    by_cases hroom : xs.length + n ≤ cap
    · have hst := run_storeCells_at Try.prog g xs.length 3 (List.replicate n (Value.int .i64 0)) 0 cur w hg (by simp; omega) (fun u hu => by rw [List.eq_of_mem_replicate hu]; rfl)
      simp only [Nat.add_zero] at hst
      refine ⟨.slice (some ⟨g, 0, none⟩) (xs.length + n) cap, w.setRow g (cur.toList.take xs.length ++ List.replicate n (Value.int .i64 0) ++ cur.toList.drop (xs.length + (List.replicate n (Value.int .i64 0)).length)).toArray, ?_, ?_, ⟨rfl, rfl, rfl, by simp, fun k _ hk => setRow_other w g k _ (fun e => hk (by simp [Value.ownBlock, e]))⟩⟩
      · simp [Builtin.append_, run_underlying ht, run_underlying hu, sizeOf, typeInfo, zeroValue, hi0, hz0, hz1, hz2, asInt, asIntOf, hw, hlt, hbg, hn0, hroom, zeroCells_int, Value.cells, Addr.add_lit, hst]
      · unfold OwnI
        rw [hmap, hlen]
        refine ⟨by simp, .inr ⟨g, cap, _, rfl, hbg', setRow_heap w g cur _ 3 _ hg, hroom, hcm, ?_, ?_⟩⟩
        · simp; omega
        · rw [Nat.mul_one] at htake
          rw [htake, Nat.mul_one]
          rw [List.take_left']
          simp
    · have hge := grownCap_ge w (xs.length + n) cap 3
      have hcm2 : grownCap w (xs.length + n) cap 3 ≤ maxLen := grownCap_le_maxLen w (xs.length + n) cap 3 (by simp only [maxLen]; omega)
      have h48 : Builtin.nextslicecap (xs.length + n) cap * 8 ≤ 281474976710656 := growslice_fits (by omega) (by omega)
      have h48' : ¬ (281474976710656 < Builtin.nextslicecap (xs.length + n) cap * 8) := by omega
      have h63' : ¬ (9223372036854775807 < ((xs.length : Int) + (n : Int))) := by omega
      have hfo := run_firstCells_some (P := Try.prog) w.drew 1 xs.length ⟨g, 0, none⟩ xs.length cap (xs.map (Value.int .i64)) (by simp) (by
        have := World.ownsRow.cells (w := w) (base := B) (e := 3) (size := 1) (v := .slice (some ⟨g, 0, none⟩) xs.length cap) (n := xs.length) (xs := xs.map (Value.int .i64)) ⟨hx1, .inr ⟨g, cap, cur, rfl, hbg', hg, hnc, hcm, hcs, htake⟩⟩ (g := g) rfl
        simpa using this)
      refine ⟨.slice (some ⟨w.heap.size, 0, none⟩) (xs.length + n) (grownCap w (xs.length + n) cap 3), w.drew.alloc (.cells ((xs.map (Value.int .i64)).toArray ++ (List.replicate n (Value.int .i64 0)).toArray ++ Builtin.zeroCells #[Value.int .i64 0] (grownCap w (xs.length + n) cap 3 - (xs.length + n))) 3), ?_, ?_, ⟨rfl, rfl, rfl, by simp, fun k hk _ => Go.heap_alloc_old w.drew _ hk⟩⟩
      · simp [Builtin.append_, run_underlying ht, run_underlying hu, sizeOf, typeInfo, zeroValue, hi0, hz0, hz1, hz2, asInt, asIntOf, hw, hlt, hbg, hn0, hroom, h63', h48', Question.forced, hfo, newRow, grownCap, zeroCells_int, Value.cells]
      · unfold OwnI
        rw [hmap, hlen]
        refine ⟨by simp, .inr ⟨w.heap.size, _, _, rfl, hbase, heap_alloc_new w.drew _, hge, hcm2, ?_, ?_⟩⟩
        · simp [zeroCells_int]; omega
        · rw [Nat.mul_one]
          simp only [Array.toList_append, List.append_assoc]
          rw [← List.append_assoc, List.take_left']
          simp
theorem wpl_zeros {ops : Array Oper} {rest : List Oper} {o : Oper} {a : Act} {Q : Exit → Act → World → Prop} (w : World) (hgd : o.guard = none) (s x : Operand)
    (ho : o.op = .call { callee := .builtin .append, args := #[s, x], argTypes := #[25, 3] })
    (B : Nat) (v : Value) (xs : List Int) (hs : a.eval s = v) (hown : OwnI w B v xs) (n : Nat) (hx : a.eval x = .int .i64 n) (h0 : 0 < n) (hl : xs.length + n ≤ 1000000) (hbase : B ≤ w.heap.size)
    (h : ∀ v' w', OwnI w' B v' (xs ++ List.replicate n 0) → w.grownBy w' v.ownBlock → wpList Try.prog ops Q rest (a.put o.dst v') w') : wpList Try.prog ops Q (o :: rest) a w := by
  refine wpList_plain hgd fun K hK => ?_
  obtain ⟨v', w', hr, h2, h3⟩ := run_zeros_own w B o.type v xs hown n h0 hl hbase
  unfold Oper.wp execOp
  simp only [ho, resolve, invoke, builtin, Sem.run_bind, Sem.run_pure, Result.andThen_ok, List.map_toArray, List.map_cons, List.map_nil, hs, hx, hr]
  exact hK _ _ (h v' w' h2 h3)
end Go.Proofs.Ytadabkkkalgehaa.H
