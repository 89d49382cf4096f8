/-
  An argument that is a grammar, a list of numbers, a production: opened to what the walks ask.
-/
import Derived.Test.YtadabkkkalgehaaCh
import Derived.ProofKit
import Derived.OpenShut
import Derived.ShutString
import Derived.ChangeOld
import Derived.Below
import Derived.SizedLaws
import Derived.Lib.SmallJoins
import Derived.Deep.Slices
import Derived.Deep.Fields
import Derived.ChangeSame
namespace Go.Proofs.Ytadabkkkalgehaa.H
open Go.ChangeShapes Go.WideShapes Go.ChangeAt Go.RowKit Go.Joins Go.Deep
set_option linter.unusedVariables false
set_option linter.unusedSimpArgs false

section
variable {H : Type} {enc : TypeId × Value → H} {P : Program} {w : World} {base : Nat} {spare : Nat → Bool} {held : Bool}
theorem open_slice_fields {t e : TypeId} {fs : Array Field} {fuel : Nat} {cs : List Value} {x : DataW H × List MemPlace} (ht : P.underlying t = some (.slice e)) (he : P.underlying e = some (.struct fs))
    (hone : oneCellFields P fs = true) (hC : P.cellsOf e = fs.size) (h : DataW.trod enc P w base spare held fuel t cs = some x) :
    (cs = [.slice none 0 0] ∧ x = (.nil, [])) ∨
    ∃ (a : Addr) (len cap m n : Nat), cs = [.slice (some a) len cap] ∧ len ≤ cap ∧ cap ≤ maxLen ∧ m = (if spare a.block then cap else len) ∧
      ∀ i, i < m → ∀ (j : Nat) (f : Field), fs[j]? = some f → ∃ (v : Value) (y : DataW H × List MemPlace) (n : Nat), w.cell? (a.add (i * fs.size + j)) = some v ∧ DataW.trod enc P w base spare held n f.type [v] = some y := by
  rcases open_slice ht h with h0 | ⟨a, len, cap, m, n, D, Pl, hcs, hb, hl, hm, hmm, hx, hi⟩
  · exact .inl h0
  · refine .inr ⟨a, len, cap, m, n, hcs, hl, hm, hmm, fun i him j f hj => ?_⟩
    obtain ⟨cs', hc, ht'⟩ := hi i him
    rw [hC] at hc
    obtain ⟨ys, n', hn', hy, hlen, hyl, hf⟩ := DataW.trod_struct he ht'
    obtain ⟨_, hcl, hat⟩ := World.cells?_some hc
    obtain ⟨ho, hk⟩ := hone_of hone j f hj
    have hjl : j < fs.size := (Array.getElem?_eq_some_iff.1 hj).1
    have hcell := hat j hjl
    have hv : cs'[j]? = some (cs'[j]'(by omega)) := List.getElem?_eq_getElem (by omega)
    have h1 := hf j f hj
    rw [ho, hk] at h1
    have hone' : (cs'.drop j).take 1 = [cs'[j]'(by omega)] := by
      rw [List.drop_eq_getElem_cons (by omega)]
      rfl
    rw [hone'] at h1
    have hys : ys[j]? = some (ys[j]'(by omega)) := List.getElem?_eq_getElem (by omega)
    refine ⟨_, _, n', ?_, h1.trans hys⟩
    rw [← Go.Deep.add_add, hcell, hv]
end

section
variable {H : Type} {enc : TypeId × Value → H} {w : World}
theorem read_int {n : Nat} {v : Value} {y : DataW H × List MemPlace} (h : DataW.trod enc Try.prog w 0 (fun _ => true) true n 3 [v] = some y) : ∃ x : Int, v = .int .i64 x ∧ (Lit.int .i64 x).wf = true := by
  obtain ⟨x, h1, h2, h3⟩ := DataW.trod_int Try.underlying3 h
  simp at h1
  exact ⟨x, h1, h3⟩
theorem read_bool {n : Nat} {v : Value} {y : DataW H × List MemPlace} (h : DataW.trod enc Try.prog w 0 (fun _ => true) true n 4 [v] = some y) : ∃ x : Bool, v = .bool x := by
  obtain ⟨x, h1, h2⟩ := DataW.trod_bool Try.underlying4 h
  simp at h1
  exact ⟨x, h1⟩
theorem read_ints {n : Nat} {v : Value} {y : DataW H × List MemPlace} (h : DataW.trod enc Try.prog w 0 (fun _ => true) true n 25 [v] = some y) :
    ∃ (A : Option Addr) (xs : List Int) (c : Nat), v = .slice A xs.length c ∧ xs.length ≤ c ∧ c ≤ 9223372036854775807 ∧ Rd eI 1 w w.heap.size A xs ∧ ∀ x ∈ xs, (Lit.int .i64 x).wf = true := by
  rcases open_ints Try.underlying25 Try.underlying3 (by kernel_rfl) h with ⟨hcs, _⟩ | ⟨a, len, cap, zs, hcs, _, hl, hm, hz, _, hcell, hwz⟩
  · simp at hcs
    exact ⟨none, [], 0, hcs, by simp, by simp, fun i hi => absurd hi (by simp), by simp⟩
  · simp at hcs hz
    have hlen : (zs.take len).length = len := by rw [List.length_take]; omega
    refine ⟨some a, zs.take len, cap, by rw [hlen]; exact hcs, by omega, hm, fun i hi => ?_, fun x hx => hwz x (List.mem_of_mem_take hx)⟩
    have hi' : i < zs.length := by omega
    have hc := hcell i hi'
    refine ⟨a, rfl, by have := cell_lt hc; rwa [add_block] at this, fun j u hu => ?_⟩
    have hj : j = 0 := by
      rcases j with _ | j
      · rfl
      · simp [eI] at hu
    subst hj
    have e0 : (a.add (i * 1)).add 0 = a.add i := by rw [Nat.mul_one]; rfl
    rw [e0, hc]
    simp [eI] at hu
    rw [← hu]
    simp [List.getD, hi']
theorem add_after (a : Addr) (i k : Nat) (hk : k ≠ 0) : a.add (i * 3 + k) = ⟨(a.add (i * 3)).block, (a.add (i * 3)).off + k, none⟩ := by
  have h : i * 3 + k ≠ 0 := by omega
  unfold Addr.add
  rw [if_neg h]
  by_cases h0 : i * 3 = 0
  · rw [if_pos h0]; simp [h0]
  · rw [if_neg h0]; simp [Nat.add_assoc]
theorem choose_lt {α : Type} [Inhabited α] {n : Nat} {Q : Nat → α → Prop} (h : ∀ i, i < n → ∃ x, Q i x) : ∃ f : Nat → α, ∀ i, i < n → Q i (f i) := by
  refine ⟨fun i => if hi : i < n then Classical.choose (h i hi) else default, fun i hi => ?_⟩
  simp only [hi, dif_pos]
  exact Classical.choose_spec (h i hi)
instance : Inhabited Pr := ⟨⟨0, [], false⟩⟩
theorem read_prods {n : Nat} {v : Value} {y : DataW H × List MemPlace} (h : DataW.trod enc Try.prog w 0 (fun _ => true) true n 22 [v] = some y) :
    ∃ (A : Option Addr) (ps : List Pr) (c : Nat), v = .slice A ps.length c ∧ ps.length ≤ c ∧ c ≤ 9223372036854775807 ∧ RdP w w.heap.size A ps ∧ ∀ p ∈ ps, p.body.length ≤ 9223372036854775807 := by
  rcases open_slice_fields Try.underlying22 Try.underlying55 (by kernel_rfl) (by kernel_rfl) h with ⟨hcs, _⟩ | ⟨a, len, cap, m, n', hcs, hl, hm, hmm, hf⟩
  · simp at hcs
    exact ⟨none, [], 0, hcs, by simp, by simp, fun i hi => absurd hi (by simp), by simp⟩
  · simp at hcs hmm
    subst hmm
    have each : ∀ i, i < len → ∃ p : Pr, ∃ (Ab : Option Addr) (cb : Nat), a.block < w.heap.size ∧ w.cell? (a.add (i * 3)) = some (.int .i64 p.head) ∧
        w.cell? ⟨(a.add (i * 3)).block, (a.add (i * 3)).off + 1, none⟩ = some (.slice Ab p.body.length cb) ∧ w.cell? ⟨(a.add (i * 3)).block, (a.add (i * 3)).off + 2, none⟩ = some (.bool p.right) ∧
        p.body.length ≤ cb ∧ cb ≤ 9223372036854775807 ∧ Rd eI 1 w w.heap.size Ab p.body := by
      intro i hi
      obtain ⟨v0, y0, n0, c0, t0⟩ := hf i (by omega) 0 _ rfl
      obtain ⟨v1, y1, n1, c1, t1⟩ := hf i (by omega) 1 _ rfl
      obtain ⟨v2, y2, n2, c2, t2⟩ := hf i (by omega) 2 _ rfl
      obtain ⟨x0, rfl, _⟩ := read_int t0
      obtain ⟨Ab, xs, cb, rfl, hb1, hb2, hb3, _⟩ := read_ints t1
      obtain ⟨x2, rfl⟩ := read_bool t2
      have e0 : a.add (i * 3 + 0) = a.add (i * 3) := rfl
      have hlt := cell_lt c0
      rw [add_block] at hlt
      refine ⟨⟨x0, xs, x2⟩, Ab, cb, hlt, c0, ?_, ?_, hb1, hb2, hb3⟩
      · rw [← add_after a i 1 (by decide)]; exact c1
      · rw [← add_after a i 2 (by decide)]; exact c2
    obtain ⟨f, hf'⟩ := choose_lt each
    refine ⟨some a, (List.range len).map f, m, by simpa using hcs, by simpa using hl, hm, fun i hi => ?_, fun p hp => ?_⟩
    · simp at hi
      obtain ⟨Ab, cb, h1, h2, h3, h4, h5, h6, h7⟩ := hf' i hi
      exact ⟨a, Ab, cb, rfl, h1, by simpa using h2, by simpa using h3, by simpa using h4, by simpa using h5, by simpa using h7⟩
    · obtain ⟨i, hi, rfl⟩ := List.mem_map.1 hp
      obtain ⟨Ab, cb, h1, h2, h3, h4, h5, h6, h7⟩ := hf' i (List.mem_range.1 hi)
      omega
theorem read_gr {v : Value} {d : DataW H} {p : List MemPlace} {base : Nat} (hv : Value.okWide Try.prog w .any base 24 v) (h : DataW.Trod enc Try.prog w 0 (fun _ => true) true 24 v d p) :
    ∃ (g : Gr) (A : Option Addr) (c : Nat), v = grV g A c ∧ GrIn w g A c := by
  obtain ⟨v0, v1, v2, v3, y0, y1, y2, y3, n, rfl, _, _, t0, t1, t2, t3⟩ := open_agg4 Try.underlying24 (by kernel_rfl) (by kernel_rfl) hv h
  obtain ⟨x0, rfl, _⟩ := read_int t0
  obtain ⟨x1, rfl, _⟩ := read_int t1
  obtain ⟨x2, rfl, _⟩ := read_int t2
  obtain ⟨A, ps, c, rfl, h1, h2, h3, h4⟩ := read_prods t3
  exact ⟨⟨x0, x1, x2, ps⟩, A, c, rfl, h1, Nat.le_trans h1 h2, h4, h3⟩
theorem read_int1 {v : Value} {d : DataW H} {p : List MemPlace} {base : Nat} (hv : Value.okWide Try.prog w .any base 3 v) (h : DataW.Trod enc Try.prog w 0 (fun _ => true) true 3 v d p) : ∃ x : Int, v = .int .i64 x ∧ (Lit.int .i64 x).wf = true := by
  obtain ⟨x, rfl, _, _, h3⟩ := open_int Try.underlying3 hv h
  exact ⟨x, rfl, h3⟩
theorem read_ints1 {v : Value} {d : DataW H} {p : List MemPlace} {base : Nat} (hv : Value.okWide Try.prog w .any base 25 v) (h : DataW.Trod enc Try.prog w 0 (fun _ => true) true 25 v d p) :
    ∃ (A : Option Addr) (xs : List Int) (c : Nat), v = .slice A xs.length c ∧ xs.length ≤ c ∧ c ≤ 9223372036854775807 ∧ Rd eI 1 w w.heap.size A xs ∧ ∀ x ∈ xs, (Lit.int .i64 x).wf = true := by
  obtain ⟨A, n, c, rfl⟩ := okWide_slice Try.underlying25 hv
  obtain ⟨m, hm⟩ := h
  have hm' : DataW.trod enc Try.prog w 0 (fun _ => true) true m 25 [.slice A n c] = some (d, p) := by simpa [Value.cells] using hm
  exact read_ints hm'
theorem read_pr {v : Value} {d : DataW H} {p : List MemPlace} {base : Nat} (hv : Value.okWide Try.prog w .any base 55 v) (h : DataW.Trod enc Try.prog w 0 (fun _ => true) true 55 v d p) :
    ∃ (q : Pr) (A : Option Addr) (c : Nat), v = .agg #[.int .i64 q.head, .slice A q.body.length c, .bool q.right] ∧ q.body.length ≤ c ∧ c ≤ 9223372036854775807 ∧ Rd eI 1 w w.heap.size A q.body := by
  obtain ⟨v0, v1, v2, y0, y1, y2, n, rfl, _, _, t0, t1, t2⟩ := open_agg3 Try.underlying55 (by kernel_rfl) (by kernel_rfl) hv h
  obtain ⟨x0, rfl, _⟩ := read_int t0
  obtain ⟨A, xs, c, rfl, h1, h2, h3, _⟩ := read_ints t1
  obtain ⟨x2, rfl⟩ := read_bool t2
  exact ⟨⟨x0, xs, x2⟩, A, c, rfl, h1, h2, h3⟩
end
end Go.Proofs.Ytadabkkkalgehaa.H
