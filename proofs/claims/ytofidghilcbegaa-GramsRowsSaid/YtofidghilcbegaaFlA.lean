/-
  grams.Follow: the plain function, and what memory holds while it runs.
-/
import Derived.Test.YtofidghilcbegaaFo
namespace Go.Proofs.Ytofidghilcbegaa.H
open Go.RowKit
set_option linter.unusedVariables false
set_option linter.unusedSimpArgs false

def followX (F : List Nat) (p : Pr) (m : List Nat) (k : Nat) : Nat := if k + 1 < p.body.length then gn F (p.body.getD (k + 1) 0) else gn m p.head
def followIn (F : List Nat) (p : Pr) (u : Fi) (k : Nat) : Fi :=
  if followX F p u.m k ||| gn u.m (p.body.getD k 0) = gn u.m (p.body.getD k 0) then u else ⟨u.m.set (p.body.getD k 0).toNat (gn u.m (p.body.getD k 0) ||| followX F p u.m k), true⟩
def followBody (F : List Nat) (u : Fi) (p : Pr) : Fi := (List.range p.body.length).foldl (followIn F p) u
def followRound (F : List Nat) (ps : List Pr) (u : Fi) : Fi := ps.foldl (followBody F) ⟨u.m, false⟩
def followLoop (F : List Nat) (ps : List Pr) : Nat → Fi → Fi
  | 0, u => u
  | k + 1, u => if u.more then followLoop F ps k (followRound F ps u) else u
def follow0 (g : Gr) : List Nat := (List.replicate g.S.toNat 0).set g.st.toNat (2 ^ g.T.toNat)
def followEnd (g : Gr) : List Nat := (followLoop (firstEnd g) g.ps (64 * g.S.toNat + 1) ⟨follow0 g, true⟩).m
def followR (g : Gr) (s : Int) : List Int × Int := if checkI g = 0 then (if 0 ≤ s ∧ s < g.S then (tlist (gn (followEnd g) s), 0) else ([], 2)) else ([], checkI g)

theorem followX_lt {F m : List Nat} {p : Pr} {k : Nat} (hF : ∀ x ∈ F, x < 2 ^ 64) (hm : ∀ x ∈ m, x < 2 ^ 64) : followX F p m k < 2 ^ 64 := by
  unfold followX
  split
  · exact gn_lt hF _
  · exact gn_lt hm _
theorem followIn_le {n : Nat} {F : List Nat} {p : Pr} {u : Fi} {k : Nat} (hF : ∀ x ∈ F, x < 2 ^ 64) (hc : u.m.length = n) (hb : ∀ x ∈ u.m, x < 2 ^ 64) (hp : (p.body.getD k 0).toNat < n) : FiLe n u (followIn F p u k) := by
  unfold followIn
  split
  · exact ⟨hc, hb, Nat.le_refl _, fun h => .inl h⟩
  · rename_i ht
    have hx := followX_lt (p := p) (k := k) hF hb
    have h1 := lack_or (gn u.m (p.body.getD k 0)) (followX F p u.m k) hx (by rw [Nat.or_comm]; exact ht)
    have h2 := lack_set u.m (p.body.getD k 0).toNat (gn u.m (p.body.getD k 0) ||| followX F p u.m k) (by omega) h1
    exact ⟨by simp [hc], set_lt hb _ _ (Nat.or_lt_two_pow (gn_lt hb _) hx), Nat.le_of_lt h2, fun _ => .inr h2⟩
theorem followBody_le {n : Nat} {F : List Nat} {p : Pr} (hF : ∀ x ∈ F, x < 2 ^ 64) (l : List Nat) : ∀ {u : Fi}, u.m.length = n → (∀ x ∈ u.m, x < 2 ^ 64) → (∀ k ∈ l, (p.body.getD k 0).toNat < n) → FiLe n u (l.foldl (followIn F p) u) := by
  induction l with
  | nil => intro u hc hb _; exact ⟨hc, hb, Nat.le_refl _, fun h => .inl h⟩
  | cons k l ih =>
    intro u hc hb hs
    have h1 := followIn_le hF hc hb (hs k (by simp))
    exact h1.trans (ih h1.c h1.b (fun s hs' => hs s (by simp [hs'])))
theorem getD_in {n : Nat} {p : Pr} (hp : PrIn n p) : ∀ k ∈ List.range p.body.length, (p.body.getD k 0).toNat < n := by
  intro k hk
  have hk' := List.mem_range.1 hk
  rw [List.getD_eq_getElem?_getD, List.getElem?_eq_getElem hk']
  exact (hp.2.2 _ (List.getElem_mem hk')).2
theorem followAll_le {n : Nat} {F : List Nat} (hF : ∀ x ∈ F, x < 2 ^ 64) (l : List Pr) : ∀ {u : Fi}, u.m.length = n → (∀ x ∈ u.m, x < 2 ^ 64) → (∀ p ∈ l, PrIn n p) → FiLe n u (l.foldl (followBody F) u) := by
  induction l with
  | nil => intro u hc hb _; exact ⟨hc, hb, Nat.le_refl _, fun h => .inl h⟩
  | cons p l ih =>
    intro u hc hb hs
    have h1 : FiLe n u (followBody F u p) := followBody_le hF (List.range p.body.length) hc hb (getD_in (hs p (by simp)))
    exact h1.trans (ih h1.c h1.b (fun s hs' => hs s (by simp [hs'])))
theorem followRound_le {n : Nat} {F : List Nat} {ps : List Pr} {u : Fi} (hF : ∀ x ∈ F, x < 2 ^ 64) (hc : u.m.length = n) (hb : ∀ x ∈ u.m, x < 2 ^ 64) (hp : ∀ p ∈ ps, PrIn n p) :
    (followRound F ps u).m.length = n ∧ (∀ x ∈ (followRound F ps u).m, x < 2 ^ 64) ∧ ((followRound F ps u).more = true → lack (followRound F ps u).m < lack u.m) := by
  have h := followAll_le (n := n) hF ps (u := ⟨u.m, false⟩) hc hb hp
  refine ⟨h.c, h.b, fun hm => ?_⟩
  rcases h.new hm with h1 | h1
  · cases h1
  · exact h1
theorem followLoop_done (F : List Nat) (ps : List Pr) (k : Nat) (u : Fi) (h : u.more = false) : followLoop F ps k u = u := by
  cases k with
  | zero => rfl
  | succ k => simp [followLoop, h]
theorem followLoop_go (F : List Nat) (ps : List Pr) (k : Nat) (u : Fi) (h : u.more = true) : followLoop F ps (k + 1) u = followLoop F ps k (followRound F ps u) := by simp [followLoop, h]

/-- Memory while Follow runs. -/
structure LW (w wr : World) (gv : Array Value) (gF gO n : Nat) (F m : List Nat) : Prop where
  bw : Below w.heap.size w wr
  bg : Blk wr w.heap.size 24 gv
  bf : Blk wr gF 48 (u64s F)
  bo : Blk wr gO 48 (u64s m)
  gf : w.heap.size < gF
  go : w.heap.size < gO
  ne : gO ≠ gF
  lF : F.length = n
  lf : m.length = n
section
variable {w wr w' : World} {gv : Array Value} {gF gO n : Nat} {F m : List Nat}
theorem LW.below (h : LW w wr gv gF gO n F m) (hb : Below wr.heap.size wr w') : LW w w' gv gF gO n F m :=
  ⟨below_step h.bw hb h.bw.size, h.bg.below hb h.bg.lt, h.bf.below hb h.bf.lt, h.bo.below hb h.bo.lt, h.gf, h.go, h.ne, h.lF, h.lf⟩
theorem LW.alloc (h : LW w wr gv gF gO n F m) (o : Obj) : LW w (wr.alloc o) gv gF gO n F m := h.below ((Below.refl _ _).alloc (Nat.le_refl _) o)
theorem LW.drewN (h : LW w wr gv gF gO n F m) (k : Nat) : LW w (wr.drewN k) gv gF gO n F m := h.below (below_drewN (Below.refl _ _) k)
theorem LW.setF (h : LW w wr gv gF gO n F m) (i b : Nat) : LW w (wr.setCell ⟨gO, i, none⟩ (.int .u64 (b : Int))) gv gF gO n F (m.set i b) := by
  refine ⟨h.bw.setCell (by show w.heap.size ≤ gO; have := h.go; omega) _, h.bg.far (by show _ ≠ gO; have := h.go; omega) _, h.bf.far (fun e => h.ne e.symm) _, ?_, h.gf, h.go, h.ne, h.lF, by simp [h.lf]⟩
  have := h.bo.set_ i (.int .u64 (b : Int))
  rwa [u64s_set] at this
end
end Go.Proofs.Ytofidghilcbegaa.H
