/-
  What an argument holds, as the print's kinds tell it: numbers, bools, strings, slices, structs, trees.
-/
import Derived.Test.YtadabkkkalgehaaWWords
import Derived.Test.YtadabkkkalgehaaProg
import Derived.ProofKit
import Derived.Lib.SmallJoins
import Derived.OpenShut
import Derived.ShutString
import Derived.ChangeOld
import Derived.Below
import Derived.SizedLaws
import Derived.Deep.Slices
import Derived.Deep.Fields
import Derived.ChangeSame
namespace Go.Proofs.Ytadabkkkalgehaa.Rg
open Go.RowKit Go.Proofs.YtadabkkkalgehaaW.PrintWords Go.ChangeShapes Go.WideShapes Go.ChangeAt Go.Joins Go.Deep
set_option linter.unusedVariables false
set_option linter.unusedSimpArgs false
section
variable {H : Type} {enc : TypeId × Value → H} {w : World}
/-- Whatever a value of type t says, a kind tells. -/
def Rds {α : Type} (enc : TypeId × Value → H) (w : World) (t : TypeId) (d : Kd α) (fuel : Nat) : Prop :=
  ∀ cs y, DataW.trod enc Try.prog w 0 (fun _ => true) true fuel t cs = some y → ∃ x, d.K w x cs
theorem rds_int {t : TypeId} {k : IntKind} (ht : Try.prog.underlying t = some (.int k)) (n : Nat) : Rds enc w t (Kd.int k) n := fun cs y h => by
  obtain ⟨x, rfl, _⟩ := DataW.trod_int ht h
  exact ⟨x, rfl⟩
theorem rds_bool {t : TypeId} (ht : Try.prog.underlying t = some .bool) (n : Nat) : Rds enc w t Kd.bool n := fun cs y h => by
  obtain ⟨x, rfl, _⟩ := DataW.trod_bool ht h
  exact ⟨x, rfl⟩
theorem rds_string {t : TypeId} (ht : Try.prog.underlying t = some .string) (n : Nat) : Rds enc w t Kd.string n := fun cs y h => by
  obtain ⟨x, rfl, _⟩ := DataW.trod_string ht h
  exact ⟨x, rfl⟩
theorem choose_lt {α : Type} {n : Nat} {Q : Nat → α → Prop} (h : ∀ i, i < n → ∃ x, Q i x) : ∃ l : List α, l.length = n ∧ ∀ (i : Nat) (x : α), l[i]? = some x → Q i x := by
  induction n with
  | zero => exact ⟨[], rfl, fun i x hx => by simp at hx⟩
  | succ n ih =>
    obtain ⟨l, hl, hq⟩ := ih (fun i hi => h i (by omega))
    obtain ⟨x, hx⟩ := h n (by omega)
    refine ⟨l ++ [x], by simp [hl], fun i y hy => ?_⟩
    rcases Nat.lt_or_ge i n with hi | hi
    · rw [List.getElem?_append_left (by omega)] at hy
      exact hq i y hy
    · rw [List.getElem?_append_right (by omega)] at hy
      have : i = n := by
        rcases Nat.eq_or_lt_of_le hi with e | e
        · exact e.symm
        · rw [List.getElem?_eq_none (by simp; omega)] at hy; cases hy
      subst this
      simp [hl] at hy
      subst hy
      exact hx
theorem add_add' (a : Addr) (m n : Nat) : (a.add m).add n = a.add (m + n) := Go.Deep.add_add a m n
theorem row_of {α : Type} {d : Kd α} {e : TypeId} {A : Option Addr} {len : Nat} (hz : Try.prog.cellsOf e = d.sz) (hm : len ≤ 9223372036854775807)
    (h : 0 < len → ∃ a, A = some a ∧ ∀ i, i < len → ∃ cs x, w.cells? 0 (a.add (i * d.sz)) d.sz = some cs ∧ d.K w x cs) : ∃ xs : List α, xs.length = len ∧ d.C w A len xs := by
  by_cases h0 : len = 0
  · subst h0
    exact ⟨[], rfl, rfl, by omega, fun h => absurd h (Nat.lt_irrefl _)⟩
  · obtain ⟨a, rfl, hi⟩ := h (by omega)
    obtain ⟨l, hl, hq⟩ := choose_lt (Q := fun i x => ∃ cs, w.cells? 0 (a.add (i * d.sz)) d.sz = some cs ∧ d.K w x cs) (fun i hl => by
      obtain ⟨cs, x, h1, h2⟩ := hi i hl
      exact ⟨x, cs, h1, h2⟩)
    refine ⟨l, hl, hl, hm, fun _ => ⟨a, rfl, fun j x hx => ?_⟩⟩
    obtain ⟨cs, h1, h2⟩ := hq j x hx
    obtain ⟨_, hlen, hat⟩ := World.cells?_some h1
    refine ⟨cs, hlen, h2, fun i u hu => ?_⟩
    have hil : i < d.sz := by rw [← hlen]; exact (List.getElem?_eq_some_iff.1 hu).1
    rw [← add_add', hat i hil, hu]
theorem rds_slice {α : Type} {d : Kd α} {t e : TypeId} (ht : Try.prog.underlying t = some (.slice e)) (hz : Try.prog.cellsOf e = d.sz) {fuel : Nat} (hd : ∀ n, n < fuel → Rds enc w e d n) : Rds enc w t (Kd.slice e d) fuel := fun cs y h => by
  rcases DataW.trod_slice ht h with ⟨rfl, _⟩ | ⟨a, len, cap, elems, rest, n, rfl, rfl, _, _, hl, hm, hlen, hel, _, _⟩
  · exact ⟨[], none, 0, rfl, Nat.le_refl _, rfl, by simp, fun h => absurd h (Nat.lt_irrefl _)⟩
  · obtain ⟨xs, hxl, hC⟩ := row_of (w := w) (d := d) (e := e) (A := some a) (len := len) hz (Nat.le_trans hl hm) (fun _ => ⟨a, rfl, fun i hi => by
      have h1 := hel i hi
      rw [List.getElem?_eq_getElem (by omega), hz] at h1
      obtain ⟨cs', h2, h3⟩ := Option.bind_eq_some_iff.1 h1
      obtain ⟨x, hx⟩ := hd n (Nat.lt_succ_self _) _ _ h3
      exact ⟨cs', x, h2, hx⟩⟩)
    subst hxl
    exact ⟨xs, some a, cap, rfl, hl, hC⟩
/-- The last field of a struct, and one ahead of others. -/
theorem fld_last {α : Type} {d : Kd α} {t : TypeId} {n o s : Nat} {cs : List Value} {y : DataW H × List MemPlace} (hd : Rds enc w t d n) (hl : cs.length = o + s)
    (h : DataW.trod enc Try.prog w 0 (fun _ => true) true n t ((cs.drop o).take s) = some y) : ∃ x, d.K w x (cs.drop o) := by
  have e : (cs.drop o).take s = cs.drop o := List.take_of_length_le (by rw [List.length_drop]; omega)
  rw [e] at h
  exact hd _ _ h
theorem fld_cons {α β : Type} {d : Kd α} {b : Kd β} {t : TypeId} {n o s : Nat} {cs : List Value} {y : DataW H × List MemPlace} (hd : Rds enc w t d n)
    (h : DataW.trod enc Try.prog w 0 (fun _ => true) true n t ((cs.drop o).take s) = some y) (hb : ∃ x, b.K w x (cs.drop (o + s))) : ∃ x, (Kd.pair d b).K w x (cs.drop o) := by
  obtain ⟨x, hx⟩ := hd _ _ h
  obtain ⟨z, hz⟩ := hb
  refine ⟨(x, z), (cs.drop o).take s, cs.drop (o + s), ?_, hx, hz⟩
  rw [← List.drop_drop, List.take_append_drop]
theorem fld_iso {α β : Type} {d : Kd α} {f : β → α} {cs : List Value} (g : α → β) (hg : ∀ x, f (g x) = x) (h : ∃ x, d.K w x (cs.drop 0)) : ∃ x, (Kd.iso d f).K w x cs := by
  obtain ⟨x, hx⟩ := h
  exact ⟨g x, by show d.K w (f (g x)) cs; rw [hg]; exact hx⟩
/-- The fields of a struct, each as it stands. -/
theorem str_of {t : TypeId} {fs : Array Field} {fuel : Nat} {cs : List Value} {y : DataW H × List MemPlace} (ht : Try.prog.underlying t = some (.struct fs)) (h : DataW.trod enc Try.prog w 0 (fun _ => true) true fuel t cs = some y) :
    ∃ n, fuel = n + 1 ∧ cs.length = Try.prog.cellsOf t ∧ ∀ (i : Nat) (f : Field), fs[i]? = some f → ∃ z, DataW.trod enc Try.prog w 0 (fun _ => true) true n f.type ((cs.drop f.offset).take (Try.prog.cellsOf f.type)) = some z := by
  obtain ⟨xs, n, rfl, _, hl, hlen, hf⟩ := DataW.trod_struct ht h
  refine ⟨n, rfl, hl, fun i f hi => ?_⟩
  have hlt : i < fs.size := (Array.getElem?_eq_some_iff.1 hi).1
  have := hf i f hi
  rw [List.getElem?_eq_getElem (by omega)] at this
  exact ⟨_, this⟩
/-- An argument that is a struct, a slice. -/
theorem arg_agg {α : Type} {d : Kd α} {t : TypeId} {fs : Array Field} {b0 : Nat} {v : Value} {x : DataW H} {p : List MemPlace} (ht : Try.prog.underlying t = some (.struct fs)) (hv : Value.okWide Try.prog w .any b0 t v)
    (h : DataW.Trod enc Try.prog w 0 (fun _ => true) true t v x p) (hd : ∀ n, Rds enc w t d n) : ∃ a cs, v = .agg cs.toArray ∧ d.K w a cs := by
  obtain ⟨cs, rfl, hsz⟩ := okWide_struct ht hv
  obtain ⟨fuel, hf⟩ := h
  obtain ⟨a, ha⟩ := hd fuel _ _ hf
  exact ⟨a, cs.toList, by simp, by simpa [Value.cells] using ha⟩
theorem arg_slice {α : Type} {d : Kd α} {t e : TypeId} {b0 : Nat} {v : Value} {x : DataW H} {p : List MemPlace} (ht : Try.prog.underlying t = some (.slice e)) (hz : Try.prog.cellsOf e = d.sz) (hv : Value.okWide Try.prog w .any b0 t v)
    (h : DataW.Trod enc Try.prog w 0 (fun _ => true) true t v x p) (hd : ∀ n, Rds enc w e d n) : ∃ A xs c, v = .slice A xs.length c ∧ xs.length ≤ c ∧ d.C w A xs.length xs := by
  obtain ⟨A, n, c, rfl⟩ := okWide_slice ht hv
  obtain ⟨fuel, hf⟩ := h
  obtain ⟨xs, A', c', h1, h2, h3⟩ := rds_slice (d := d) ht hz (fun n _ => hd n) [.slice A n c] (x, p) (by simpa [Value.cells] using hf)
  injection h1 with h1
  exact ⟨A', xs, c', h1, h2, h3⟩
end
end Go.Proofs.Ytadabkkkalgehaa.Rg
