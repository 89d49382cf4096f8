/-
  Rounds: small lemmas to go through what the print printed.
-/
import Derived.Test.YtadabkkkalgehaaWWords
namespace Go.Proofs.Ytadabkkkalgehaa.H
open Go.RowKit Go.Proofs.YtadabkkkalgehaaW.PrintWords
set_option linter.unusedVariables false

theorem ev_pos {α : Type} {c : Prop} [Decidable c] {f g : Nat → Option α} {r : α} (h : c) (k : Ev f r) : Ev (fun n => if c then f n else g n) r := Ev.congr (fun _ => if_pos h) k
theorem ev_neg {α : Type} {c : Prop} [Decidable c] {f g : Nat → Option α} {r : α} (h : ¬ c) (k : Ev g r) : Ev (fun n => if c then f n else g n) r := Ev.congr (fun _ => if_neg h) k
theorem ev_const {α β : Type} {g : Option α} {x : α} (h : g = some x) {f : Nat → α → Option β} {r : β} (k : Ev (fun n => f n x) r) : Ev (fun n => g.bind (f n)) r := Ev.congr (fun _ => by rw [h]; rfl) k
theorem ev_now {α : Type} {v r : α} (h : v = r) : Ev (fun _ => some v) r := by subst h; exact Ev.now _
theorem rd_get (xs : List Int) (i : Nat) (h : i < xs.length) : rd xs (i : Int) = xs[i] := by simp [rd, h]
theorem wrap_nat (n : Int) (h0 : -9223372036854775808 ≤ n) (h : n ≤ 9223372036854775807) : wrap64 n = n := by unfold wrap64; omega
theorem tmod_low (x : Int) (n : Nat) (hn : 0 < n) (h : x.tmod n < 0) : 0 ≤ x.tmod n + n ∧ x.tmod n + n < n := by
  have h1 : -(n : Int) < x.tmod n := by
    rw [← Int.neg_neg x, Int.neg_tmod]
    have := Int.tmod_lt_of_pos (-x) (show (0 : Int) < n by omega)
    omega
  omega
theorem tmod_high (x : Int) (n : Nat) (hn : 0 < n) (h : ¬ x.tmod n < 0) : 0 ≤ x.tmod n ∧ x.tmod n < n := ⟨by omega, Int.tmod_lt_of_pos x (show (0 : Int) < n by omega)⟩
/-- The row behind a step. -/
theorem row_cut {row : List Int} {k : Nat} (h : k < row.length) : row = row.take k ++ [row[k]] ++ row.drop (k + 1) := by simp
end Go.Proofs.Ytadabkkkalgehaa.H
