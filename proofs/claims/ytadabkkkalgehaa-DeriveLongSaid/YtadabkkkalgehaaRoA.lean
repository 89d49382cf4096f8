/-
  grams.round: the plain function, what memory holds while it runs, and its closure.
-/
import Derived.Test.YtadabkkkalgehaaUsB
namespace Go.Proofs.Ytadabkkkalgehaa.H
open Go.RowKit
set_option linter.unusedVariables false
set_option linter.unusedSimpArgs false

def leads (left : List Bool) (s : Int) (p : Pr) : Bool := decide (p.head = s) && decide (p.body.length = 1) && gb left (p.body.getD 0 0)
structure Ro where
  left : List Bool
  more : Bool
def roundIn (ps : List Pr) (u : Ro) (s : Nat) : Ro := if gb u.left s && !(ps.any (leads u.left s)) then ⟨u.left.set s false, true⟩ else u
def roundRound (ps : List Pr) (T n : Nat) (u : Ro) : Ro := (List.range' T (n - T)).foldl (roundIn ps) ⟨u.left, false⟩
def roundLoop (ps : List Pr) (T n : Nat) : Nat → Ro → Ro
  | 0, u => u
  | k + 1, u => if u.more then roundLoop ps T n k (roundRound ps T n u) else u
def round0 (T n : Nat) : Ro := ⟨List.replicate T false ++ List.replicate (n - T) true, true⟩
def roundEnd (g : Gr) : Ro := roundLoop g.ps g.T.toNat g.S.toNat (g.S.toNat + 1) (round0 g.T.toNat g.S.toNat)
def roundB (g : Gr) : Bool := (roundEnd g).left.any (fun x => true == x)

theorem count_set_true (l : List Bool) : ∀ i, l.getD i false = true → (l.set i false).count true + 1 = l.count true := by
  induction l with
  | nil => intro i h; simp at h
  | cons b l ih =>
    intro i h
    cases i with
    | zero => simp at h; subst h; simp
    | succ i =>
      have := ih i (by simpa using h)
      simp only [List.set_cons_succ, List.count_cons]
      omega
structure RoLe (n : Nat) (u v : Ro) : Prop where
  c : v.left.length = n
  le : v.left.count true ≤ u.left.count true
  new : v.more = true → u.more = true ∨ v.left.count true < u.left.count true
theorem RoLe.trans {n : Nat} {a b c : Ro} (h : RoLe n a b) (k : RoLe n b c) : RoLe n a c := by
  refine ⟨k.c, Nat.le_trans k.le h.le, fun hm => ?_⟩
  rcases k.new hm with h1 | h1
  · rcases h.new h1 with h2 | h2
    · exact .inl h2
    · exact .inr (Nat.lt_of_le_of_lt k.le h2)
  · exact .inr (Nat.lt_of_lt_of_le h1 h.le)
theorem roundIn_le {n : Nat} {ps : List Pr} {u : Ro} {s : Nat} (hc : u.left.length = n) : RoLe n u (roundIn ps u s) := by
  unfold roundIn
  split
  · rename_i ht
    simp only [Bool.and_eq_true] at ht
    have := count_set_true u.left s (by simpa [gb] using ht.1)
    exact ⟨by simp [hc], by dsimp only; omega, fun _ => .inr (by dsimp only; omega)⟩
  · exact ⟨hc, Nat.le_refl _, fun h => .inl h⟩
theorem roundAll_le {n : Nat} {ps : List Pr} (l : List Nat) : ∀ {u : Ro}, u.left.length = n → RoLe n u (l.foldl (roundIn ps) u) := by
  induction l with
  | nil => intro u hc; exact ⟨hc, Nat.le_refl _, fun h => .inl h⟩
  | cons p l ih =>
    intro u hc
    have h1 := roundIn_le (ps := ps) (s := p) hc
    exact h1.trans (ih h1.c)
theorem roundRound_le {n : Nat} {ps : List Pr} {T : Nat} {u : Ro} (hc : u.left.length = n) :
    (roundRound ps T n u).left.length = n ∧ ((roundRound ps T n u).more = true → (roundRound ps T n u).left.count true < u.left.count true) := by
  have h := roundAll_le (n := n) (ps := ps) (List.range' T (n - T)) (u := ⟨u.left, false⟩) hc
  refine ⟨h.c, fun hm => ?_⟩
  rcases h.new hm with h1 | h1
  · cases h1
  · exact h1
theorem roundLoop_done (ps : List Pr) (T n k : Nat) (u : Ro) (h : u.more = false) : roundLoop ps T n k u = u := by
  cases k with
  | zero => rfl
  | succ k => simp [roundLoop, h]
theorem roundLoop_go (ps : List Pr) (T n k : Nat) (u : Ro) (h : u.more = true) : roundLoop ps T n (k + 1) u = roundLoop ps T n k (roundRound ps T n u) := by simp [roundLoop, h]
theorem fill_true (T k n : Nat) (hT : T ≤ k) (h : k < n) : (List.replicate T false ++ List.replicate (k - T) true ++ List.replicate (n - k) false).set k true = List.replicate T false ++ List.replicate (k + 1 - T) true ++ List.replicate (n - (k + 1)) false := by
  rw [List.set_append_right _ _ (by simp; omega), show k - (List.replicate T false ++ List.replicate (k - T) true).length = 0 from by simp; omega, show n - k = (n - (k + 1)) + 1 from by omega, List.replicate_succ, List.set_cons_zero, show k + 1 - T = (k - T) + 1 from by omega, List.replicate_succ' (n := k - T)]
  simp

/-- Memory while round runs. -/
structure RW (w wr : World) (gv : Array Value) (gX gG n : Nat) (left : List Bool) : Prop where
  bw : Below w.heap.size w wr
  bg : Blk wr w.heap.size 24 gv
  bx : Blk wr gX 76 #[.slice (some ⟨gG, 0, none⟩) n n]
  bd : Blk wr gG 4 (bools left)
  nx : gX ≠ gG
  gx : w.heap.size < gX
  gg : w.heap.size < gG
  lg : left.length = n
section
variable {w wr w' : World} {gv : Array Value} {gX gG n : Nat} {left : List Bool}
theorem RW.below (h : RW w wr gv gX gG n left) (hb : Below wr.heap.size wr w') : RW w w' gv gX gG n left :=
  ⟨below_step h.bw hb h.bw.size, h.bg.below hb h.bg.lt, h.bx.below hb h.bx.lt, h.bd.below hb h.bd.lt, h.nx, h.gx, h.gg, h.lg⟩
theorem RW.alloc (h : RW w wr gv gX gG n left) (o : Obj) : RW w (wr.alloc o) gv gX gG n left := h.below ((Below.refl _ _).alloc (Nat.le_refl _) o)
theorem RW.setG (h : RW w wr gv gX gG n left) (i : Nat) (b : Bool) : RW w (wr.setCell ⟨gG, i, none⟩ (.bool b)) gv gX gG n (left.set i b) := by
  refine ⟨h.bw.setCell (by show w.heap.size ≤ gG; have := h.gg; omega) _, h.bg.far (by show _ ≠ gG; have := h.gg; omega) _, h.bx.far h.nx _, ?_, h.nx, h.gx, h.gg, by simp [h.lg]⟩
  have := h.bd.set_ i (.bool b)
  rwa [bools_set] at this
theorem RW.setFar (h : RW w wr gv gX gG n left) (p : Addr) (h1 : p.block ≠ gX) (h2 : p.block ≠ gG) (h3 : w.heap.size < p.block) (v : Value) : RW w (wr.setCell p v) gv gX gG n left :=
  ⟨h.bw.setCell (by omega) _, h.bg.far (by omega) _, h.bx.far (fun e => h1 e.symm) _, h.bd.far (fun e => h2 e.symm) _, h.nx, h.gx, h.gg, h.lg⟩
end

set_option maxHeartbeats 1000000 in
theorem round1 (p : Pr) (Ap : Option Addr) (cp : Nat) (gS gX gG n s : Nat) (left : List Bool) (w : World) (hl : p.body.length ≤ 9223372036854775807)
    (hs : Blk w gS 3 #[.int .i64 s]) (hx : Blk w gX 76 #[.slice (some ⟨gG, 0, none⟩) n n]) (hd : Blk w gG 4 (bools left)) (hn : left.length = n)
    (hp : ∀ y ∈ p.body, 0 ≤ y ∧ y.toNat < n) (hr : Rd eI 1 w w.heap.size Ap p.body) :
    Calls Try.prog 67 #[prV p Ap cp, .pointer (some ⟨gS, 0, none⟩), .pointer (some ⟨gX, 0, none⟩)] w fun e w' => e = .returned (.bool (leads left s p)) ∧ Below w.heap.size w w' := by
  unfold prV
  obtain ⟨hd', bd, rt⟩ := p
  dsimp only at *
  have s0 := hs.cell 0
  have x0 := hx.cell 0
  simp at s0 x0
  have hsl := hs.lt
  have hxl := hx.lt
  have hdl := hd.lt
  by_cases h1 : hd' = s
  · have t1 : ((hd' : Int) == (s : Int)) = true := by simp [h1]
    by_cases h2 : bd.length = 1
    · have t2 : ((bd.length : Int) == 1) = true := by simp [h2]
      have i1 : (0 : Int) < bd.length := by omega
      obtain ⟨ad, rfl, hb, hc⟩ := hr.int 0 (by omega)
      have hy := hp _ (List.getElem_mem (show 0 < bd.length by omega))
      have H : Keep (leads left s ⟨hd', bd, rt⟩ = gb left (bd[0]'(by omega))) := ⟨by simp [leads, h1, h2, show 0 < bd.length by omega]⟩
      generalize bd[0] = y at *
      clear h1 h2 hp
      obtain ⟨y, rfl⟩ := Int.eq_ofNat_of_zero_le hy.1
      have hyn : (y : Int) < n := by have := hy.2; simp at this; omega
      have cd := hd.cell y
      rw [bools_gb _ y (by rw [hn]; omega)] at cd
      clear hr hd hn
      generalize gb left y = v at *
      rw [H.out]
      clear hs hx
      rw [show ad.add 0 = ad from rfl] at hc
      go_enter Try.func67, Try.ntmps67
      go_wp2
      go_quiet (fail)
      go_wp2
      go_ret
      exact ⟨rfl, below_drewN ((Below.refl _ _).alloc (Nat.le_refl _) _) _⟩
    · have t2 : ((bd.length : Int) == 1) = false := by simp; omega
      have H : Keep (leads left s ⟨hd', bd, rt⟩ = false) := ⟨by simp [leads, h2]⟩
      clear h1 h2 hp
      rw [H.out]
      clear hs hx hd hr hn
      go_enter Try.func67, Try.ntmps67
      go_wp2
      go_quiet (fail)
      go_wp2
      go_ret
      exact ⟨rfl, below_drewN ((Below.refl _ _).alloc (Nat.le_refl _) _) _⟩
  · have t1 : ((hd' : Int) == (s : Int)) = false := by simp [h1]
    have H : Keep (leads left s ⟨hd', bd, rt⟩ = false) := ⟨by simp [leads, h1]⟩
    clear h1 hp
    rw [H.out]
    clear hs hx hd hr hn
    go_enter Try.func67, Try.ntmps67
    go_wp2
    go_quiet (fail)
    go_wp2
    go_ret
    exact ⟨rfl, below_drewN ((Below.refl _ _).alloc (Nat.le_refl _) _) _⟩
end Go.Proofs.Ytadabkkkalgehaa.H
