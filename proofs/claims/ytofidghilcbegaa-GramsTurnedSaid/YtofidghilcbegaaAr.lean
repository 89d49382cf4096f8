/-
  Rows of productions of the call's own: what they read as, and append onto them, also in a statement that draws its order.
-/
import Derived.Test.YtofidghilcbegaaAp
import Derived.Deep.RegionLaw
import Derived.Deep.Onto
import Derived.Laws.OwnMore
namespace Go.Proofs.Ytofidghilcbegaa
open Go.RowKit
set_option linter.unusedVariables false
set_option linter.unusedSimpArgs false

theorem info_prod : (Try.prog.info? 38).map (fun i => (i.zero, i.size, i.bytes)) = some (some (.agg #[.int .i64 0, .slice none 0 0, .bool false]), 3, 40) := by kernel_rfl
/-- A production, and where its body lies. -/
structure PA where
  p : Pr
  A : Option Addr
  c : Nat
def cellsPA (m : List PA) : List Value := m.flatMap fun x => [.int .i64 x.p.head, .slice x.A x.p.body.length x.c, .bool x.p.right]
theorem cellsPA_length (m : List PA) : (cellsPA m).length = m.length * 3 := by
  induction m with
  | nil => rfl
  | cons x m ih => simp only [cellsPA, List.flatMap_cons, List.length_append, List.length_cons, List.length_nil] at ih ⊢; omega
theorem cellsPA_append (m n : List PA) : cellsPA (m ++ n) = cellsPA m ++ cellsPA n := by simp [cellsPA]
theorem cellsPA_at (m : List PA) : ∀ (i : Nat) (h : i < m.length), (cellsPA m)[i * 3]? = some (.int .i64 m[i].p.head) ∧ (cellsPA m)[i * 3 + 1]? = some (.slice m[i].A m[i].p.body.length m[i].c) ∧ (cellsPA m)[i * 3 + 2]? = some (.bool m[i].p.right) := by
  induction m with
  | nil => intro i h; exact absurd h (by simp)
  | cons x m ih =>
    intro i h
    cases i with
    | zero => simp [cellsPA]
    | succ i =>
      have := ih i (by simpa using h)
      have e : cellsPA (x :: m) = [.int .i64 x.p.head, .slice x.A x.p.body.length x.c, .bool x.p.right] ++ cellsPA m := by simp [cellsPA]
      rw [e]
      refine ⟨?_, ?_, ?_⟩
      · rw [List.getElem?_append_right (by simp; omega), show (i + 1) * 3 - _ = i * 3 from by simp; omega]; exact this.1
      · rw [List.getElem?_append_right (by simp; omega), show (i + 1) * 3 + 1 - _ = i * 3 + 1 from by simp; omega]; exact this.2.1
      · rw [List.getElem?_append_right (by simp; omega), show (i + 1) * 3 + 2 - _ = i * 3 + 2 from by simp; omega]; exact this.2.2
theorem cellsPA_one (m : List PA) : ∀ u ∈ cellsPA m, u.oneCell' = true := by
  intro u hu
  obtain ⟨x, _, hx⟩ := List.mem_flatMap.1 hu
  simp at hx
  rcases hx with rfl | rfl | rfl <;> rfl
theorem addr_add0 (g i : Nat) : (Addr.mk g 0 none).add i = ⟨g, i, none⟩ := by by_cases h0 : i = 0 <;> simp [Addr.add, h0]

/-- A row of productions of the call's own, from block B on, whose bodies lie below block L. -/
def OwnP (w : World) (B L : Nat) (v : Value) (m : List PA) : Prop :=
  w.ownsRow B 38 3 v m.length (cellsPA m) ∧ ∀ x ∈ m, x.p.body.length ≤ x.c ∧ Rd eI 1 w L x.A x.p.body
theorem OwnP.open_ {w : World} {B L : Nat} {v : Value} {m : List PA} (h : OwnP w B L v m) (hL : L ≤ w.heap.size) :
    ∃ A c, v = .slice A m.length c ∧ m.length ≤ c ∧ c ≤ maxLen ∧ RdP w w.heap.size A (m.map (·.p)) := by
  obtain ⟨⟨h1, h2⟩, hb⟩ := h
  rcases h2 with ⟨rfl, h0⟩ | ⟨g, cap, cur, rfl, hB, hh, hn, hc, hs, ht⟩
  · have : m = [] := List.eq_nil_of_length_eq_zero h0
    subst this
    exact ⟨none, 0, rfl, by simp, by simp [maxLen], fun i hi => absurd hi (by simp)⟩
  · have hlt : g < w.heap.size := by
      rcases Nat.lt_or_ge g w.heap.size with h | h
      · exact h
      · rw [Array.getElem?_eq_none h] at hh; cases hh
    refine ⟨some ⟨g, 0, none⟩, cap, rfl, hn, hc, fun i hi => ?_⟩
    rw [List.length_map] at hi
    obtain ⟨a0, a1, a2⟩ := cellsPA_at m i hi
    have cell : ∀ j u, (cellsPA m)[j]? = some u → j < m.length * 3 → w.cell? ⟨g, j, none⟩ = some u := by
      intro j u hu hj
      rw [cell_of_row w g j cur _ _ hh, ← hu, ← ht, List.getElem?_take, if_pos hj]
      simp
    have hx := hb m[i] (List.getElem_mem hi)
    simp only [List.getElem_map]
    refine ⟨⟨g, 0, none⟩, m[i].A, m[i].c, rfl, hlt, ?_, ?_, ?_, hx.1, hx.2.mono hL⟩
    · rw [addr_add0]; exact cell _ _ a0 (by omega)
    · rw [addr_add0]; exact cell (i * 3 + 1) _ a1 (by omega)
    · rw [addr_add0]; exact cell (i * 3 + 2) _ a2 (by omega)
theorem OwnP.below {w w' : World} {B L : Nat} {v : Value} {m : List PA} (h : OwnP w B L v m) (hb : Below w.heap.size w w') (hL : L ≤ w.heap.size) : OwnP w' B L v m := by
  obtain ⟨⟨h1, h2⟩, hx⟩ := h
  refine ⟨⟨h1, ?_⟩, fun x hm => ⟨(hx x hm).1, (hx x hm).2.below (hb.mono hL)⟩⟩
  rcases h2 with h0 | ⟨g, cap, cur, hv, hB, hh, hr⟩
  · exact .inl h0
  · refine .inr ⟨g, cap, cur, hv, hB, ?_, hr⟩
    have hlt : g < w.heap.size := by
      rcases Nat.lt_or_ge g w.heap.size with h | h
      · exact h
      · rw [Array.getElem?_eq_none h] at hh; cases hh
    exact (hb.block g hlt).trans hh
/-- Of a slice of productions that reads: its cells, one behind the other. -/
theorem RdP.cells {w : World} {B : Nat} {A : Option Addr} {ps : List Pr} (h : RdP w B A ps) : ∃ m : List PA, m.map (·.p) = ps ∧ (∀ ad, A = some ad → ∀ j u, (cellsPA m)[j]? = some u → w.cell? (ad.add j) = some u) ∧ (A = none → ps = []) ∧ ∀ x ∈ m, x.p.body.length ≤ x.c ∧ Rd eI 1 w B x.A x.p.body := by
  have each : ∀ i, i < ps.length → ∃ x : PA, ps[i]? = some x.p ∧ ∃ ad, A = some ad ∧ w.cell? (ad.add (i * 3)) = some (.int .i64 x.p.head) ∧ w.cell? (ad.add (i * 3 + 1)) = some (.slice x.A x.p.body.length x.c) ∧ w.cell? (ad.add (i * 3 + 2)) = some (.bool x.p.right) ∧ x.p.body.length ≤ x.c ∧ Rd eI 1 w B x.A x.p.body := by
    intro i hi
    obtain ⟨ad, Ab, cb, e, hb, c0, c1, c2, hl, hr⟩ := h i hi
    have after : ∀ k, k ≠ 0 → ad.add (i * 3 + k) = ⟨(ad.add (i * 3)).block, (ad.add (i * 3)).off + k, none⟩ := by
      intro k hk
      have h : i * 3 + k ≠ 0 := by omega
      unfold Addr.add
      rw [if_neg h]
      by_cases h0 : i * 3 = 0
      · rw [if_pos h0]; simp [h0]
      · rw [if_neg h0]; simp [Nat.add_assoc]
    exact ⟨⟨ps[i], Ab, cb⟩, List.getElem?_eq_getElem hi, ad, e, c0, by rw [after 1 (by decide)]; exact c1, by rw [after 2 (by decide)]; exact c2, hl, hr⟩
  have : ∃ f : Nat → PA, ∀ i, i < ps.length → ps[i]? = some (f i).p ∧ ∃ ad, A = some ad ∧ w.cell? (ad.add (i * 3)) = some (.int .i64 (f i).p.head) ∧ w.cell? (ad.add (i * 3 + 1)) = some (.slice (f i).A (f i).p.body.length (f i).c) ∧ w.cell? (ad.add (i * 3 + 2)) = some (.bool (f i).p.right) ∧ (f i).p.body.length ≤ (f i).c ∧ Rd eI 1 w B (f i).A (f i).p.body := by
    refine ⟨fun i => if hi : i < ps.length then Classical.choose (each i hi) else ⟨⟨0, [], false⟩, none, 0⟩, fun i hi => ?_⟩
    simp only [hi, dif_pos]
    exact Classical.choose_spec (each i hi)
  obtain ⟨f, hf⟩ := this
  have hlen : ((List.range ps.length).map f).length = ps.length := by simp
  refine ⟨(List.range ps.length).map f, ?_, ?_, ?_, ?_⟩
  · apply List.ext_getElem?
    intro i
    by_cases hi : i < ps.length
    · rw [(hf i hi).1]; simp [hi]
    · rw [List.getElem?_eq_none (by simp; omega), List.getElem?_eq_none (by omega)]
  · intro ad hA j u hu
    have hj : j < ps.length * 3 := by
      have := (List.getElem?_eq_some_iff.1 hu).1
      rw [cellsPA_length, hlen] at this
      exact this
    have hi : j / 3 < ps.length := by omega
    obtain ⟨_, ad', hA', k0, k1, k2, _⟩ := hf (j / 3) hi
    have e : ad' = ad := by rw [hA] at hA'; injection hA' with e; exact e.symm
    subst e
    obtain ⟨a0, a1, a2⟩ := cellsPA_at ((List.range ps.length).map f) (j / 3) (by rw [hlen]; exact hi)
    simp only [List.getElem_map, List.getElem_range] at a0 a1 a2
    have hm : j % 3 = 0 ∨ j % 3 = 1 ∨ j % 3 = 2 := by omega
    rcases hm with hm | hm | hm
    · have e : j = j / 3 * 3 := by omega
      rw [e] at hu ⊢; rw [a0] at hu; rw [← hu]; exact k0
    · have e : j = j / 3 * 3 + 1 := by omega
      rw [e] at hu ⊢; rw [a1] at hu; rw [← hu]; exact k1
    · have e : j = j / 3 * 3 + 2 := by omega
      rw [e] at hu ⊢; rw [a2] at hu; rw [← hu]; exact k2
  · intro hA
    apply Classical.byContradiction
    intro hne
    have : 0 < ps.length := List.length_pos_iff.2 hne
    obtain ⟨_, ad, hA', _⟩ := hf 0 this
    rw [hA] at hA'; cases hA'
  · intro x hx
    obtain ⟨i, hi, rfl⟩ := List.mem_map.1 hx
    obtain ⟨_, ad, _, _, _, _, h5, h6⟩ := hf i (List.mem_range.1 hi)
    exact ⟨h5, h6⟩

/-- append of productions onto a row of the call's own, as one step of a region that draws. -/
theorem step_append_P {ops : Array Oper} {o : Oper} {a : Act} {K : Act → World → Prop} {Q : Exit → Act → World → Prop} {E : Prop} (w : World) (hgd : o.guard = none) (s x : Operand)
    (ho : o.op = .call { callee := .builtin .append, args := #[s, x], argTypes := #[22, 22] })
    (B : Nat) (v : Value) (m : List PA) (hs : a.eval s = v) (hown : w.ownsRow B 38 3 v m.length (cellsPA m)) (A : Option Addr) (c : Nat) (news : List PA) (hx : a.eval x = .slice A news.length c)
    (hnone : A = none → news = [] ∧ c = 0) (hcell : ∀ ad, A = some ad → ∀ j u, (cellsPA news)[j]? = some u → w.cell? (ad.add j) = some u)
    (hl : m.length + news.length ≤ 1000000) (hbase : B ≤ w.heap.size)
    (h : ∀ v' w', w'.ownsRow B 38 3 v' (m ++ news).length (cellsPA (m ++ news)) → w.grownBy w' v.ownBlock → K (a.put o.dst v') w') :
    if Region.wanted o (yielded ops a.tmps) = true then Oper.wp Try.prog o a w K Q else E := by
  have hw : Region.wanted o (yielded ops a.tmps) = true := by simp [Region.wanted, hgd]
  rw [if_pos hw]
  obtain ⟨i0, hi0, hz0, hz1, hz2⟩ := info_parts info_prod
  cases A with
  | none =>
    obtain ⟨rfl, rfl⟩ := hnone rfl
    have hrun := run_append_owned_none (P := Try.prog) (w := w) B 22 o.type 38 i0 3 Try.underlying22 hi0 v m.length _ hown
    unfold Oper.wp
    simp [execOp, ho, resolve, invoke, builtin, hs, hx, hrun, Result.andThen]
    exact h v w (by simpa using hown) (World.grownBy.refl w _)
  | some ad =>
    refine wp_append_own (w := w) s x 22 ho B 38 i0 _ 3 40 Try.underlying22 hi0 hz0 hz1 hz2 rfl (by decide) v m.length (cellsPA m) hs hown ad news.length c (cellsPA news) hx (cellsPA_length news) (hcell ad rfl) (cellsPA_one news)
      (by simp only [maxLen]; omega) (by omega) hbase (fun v' w' h1 h2 _ => h v' w' ?_ h2)
    rw [List.length_append, cellsPA_append]
    exact h1
end Go.Proofs.Ytofidghilcbegaa
