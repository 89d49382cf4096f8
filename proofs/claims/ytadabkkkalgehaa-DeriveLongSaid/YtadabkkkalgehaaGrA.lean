/-
  grams: its closures, and numbers: are a grammar's numbers so that it may be?
-/
import Derived.Test.YtadabkkkalgehaaSl
namespace Go.Proofs.Ytadabkkkalgehaa.H
open Go.RowKit
set_option linter.unusedVariables false
set_option linter.unusedSimpArgs false

/-- A grammar as one value. -/
def grV (g : Gr) (A : Option Addr) (c : Nat) : Value := .agg #[.int .i64 g.T, .int .i64 g.S, .int .i64 g.st, .slice A g.ps.length c]
def prCells (p : Pr) (A : Option Addr) (c : Nat) : Array Value := #[.int .i64 p.head, .slice A p.body.length c, .bool p.right]
def grCells (g : Gr) (A : Option Addr) (c : Nat) : Array Value := #[.int .i64 g.T, .int .i64 g.S, .int .i64 g.st, .slice A g.ps.length c]

def sameP (p q : Pr) : Bool := decide (q.head = p.head) && decide (q.body = p.body)

theorem numbers1 (p q : Pr) (Aq Ap : Option Addr) (cq cp : Nat) (gb : Nat) (w : World) (hl : q.body.length ≤ 9223372036854775807)
    (hb : Blk w gb 55 (prCells p Ap cp)) (hq : Rd eI 1 w w.heap.size Aq q.body) (hp : Rd eI 1 w w.heap.size Ap p.body) :
    Calls Try.prog 61 #[prV q Aq cq, .pointer (some ⟨gb, 0, none⟩)] w fun e w' => e = .returned (.bool (sameP p q)) ∧ Below w.heap.size w w' := by
  unfold prV
  have c0 := hb.cell 0
  have c1 := hb.cell 1
  simp [prCells] at c0 c1
  have hlt := hb.lt
  by_cases hh : q.head = p.head
  · have t : ((q.head : Int) == p.head) = true := by simp [hh]
    have Hh := Lib.hid hh
    clear hh
    go_enter Try.func61, Try.ntmps61
    go_wp2_with (go_at_call 62; refine (slicesEqual Aq Ap _ _ cq cp q.body p.body _ rfl rfl hl ?_ ?_).mono ?_; rotate_left 2; rintro e w' ⟨rfl, n, rfl⟩)
    · go_ret
      refine ⟨by simp [sameP, Hh.out], ?_⟩
      exact below_drewN ((Below.refl _ _).alloc (Nat.le_refl _) _) n
    · exact (hq.below ((Below.refl _ _).alloc (Nat.le_refl _) _)).mono (by simp)
    · exact (hp.below ((Below.refl _ _).alloc (Nat.le_refl _) _)).mono (by simp)
  · have t : ((q.head : Int) == p.head) = false := by simp [hh]
    have Hh := Lib.hid hh
    clear hh
    go_enter Try.func61, Try.ntmps61
    go_wp2
    go_ret
    refine ⟨?_, (Below.refl _ _).alloc (Nat.le_refl _) _⟩
    have := Hh.out
    simp [sameP, this]

theorem check1 (q : Pr) (A : Option Addr) (c : Nat) (w : World) (hl : q.body.length ≤ 9223372036854775807) :
    Calls Try.prog 50 #[prV q A c] w fun e w' => e = .returned (.bool (decide (8 < q.body.length))) ∧ Below w.heap.size w w' := by
  unfold prV
  go_enter Try.func50, Try.ntmps50
  go_wp2
  go_ret
  exact ⟨by simp; omega, (Below.refl _ _).alloc (Nat.le_refl _) _⟩
theorem check2 (q : Pr) (A : Option Addr) (c : Nat) (w : World) (hl : q.body.length ≤ 9223372036854775807) :
    Calls Try.prog 51 #[prV q A c] w fun e w' => e = .returned (.bool (decide (q.body.length = 0))) ∧ Below w.heap.size w w' := by
  unfold prV
  go_enter Try.func51, Try.ntmps51
  go_wp2
  go_ret
  exact ⟨by simp; rw [Bool.eq_iff_iff]; simp, (Below.refl _ _).alloc (Nat.le_refl _) _⟩

def symB (S s : Int) : Bool := decide (0 ≤ s) && decide (s < S)
def prodB (T S : Int) (pre : List Pr) (p : Pr) : Bool := decide (T ≤ p.head) && decide (p.head < S) && p.body.all (symB S) && !(pre.any (sameP p))
def headB (g : Gr) : Bool := decide (1 ≤ g.T ∧ g.T ≤ 32 ∧ g.T < g.S ∧ g.S ≤ 64 ∧ g.T ≤ g.st ∧ g.st < g.S ∧ 0 < g.ps.length ∧ g.ps.length ≤ 64)
def okAt (g : Gr) (i : Nat) : Bool := match g.ps[i]? with | some p => prodB g.T g.S (g.ps.take i) p | none => true
def numbersB (g : Gr) : Bool := headB g && (List.range g.ps.length).all (okAt g)
theorem numbersB_head {g : Gr} (h : headB g = false) : numbersB g = false := by simp [numbersB, h]
theorem numbersB_at {g : Gr} {i : Nat} (hi : i < g.ps.length) (h : okAt g i = false) : numbersB g = false := by
  unfold numbersB
  rw [Bool.and_eq_false_iff]
  right
  rw [List.all_eq_false]
  exact ⟨i, List.mem_range.2 hi, by simp [h]⟩
theorem numbersB_all {g : Gr} (hh : headB g = true) (h : ∀ i, i < g.ps.length → okAt g i = true) : numbersB g = true := by
  unfold numbersB
  rw [hh, Bool.true_and, List.all_eq_true]
  exact fun i hi => h i (List.mem_range.1 hi)

theorem numbers_no (g : Gr) (A : Option Addr) (c : Nat) (w : World) (hl : g.ps.length ≤ 9223372036854775807) (hh : headB g = false) :
    Calls Try.prog 48 #[grV g A c] w fun e w' => e = .returned (.bool (numbersB g)) ∧ Below w.heap.size w w' := by
  rw [numbersB_head hh]
  obtain ⟨T, S, st, ps⟩ := g
  simp only [headB, decide_eq_false_iff_not] at hh
  unfold grV
  dsimp only at *
  go_enter Try.func48, Try.ntmps48
  go_wp2
  all_goals first
    | (go_ret; exact ⟨rfl, (Below.refl _ _).alloc (Nat.le_refl _) _⟩)
    | (exfalso; have : ps.length ≠ 0 := by simpa using ‹¬ ps = []›
       omega)

end Go.Proofs.Ytadabkkkalgehaa.H
