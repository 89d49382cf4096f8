/-
  grams.used: the plain function, and what memory holds while it runs.
-/
import Derived.Test.YtadabkkkalgehaaGrB
namespace Go.Proofs.Ytadabkkkalgehaa.H
open Go.RowKit
set_option linter.unusedVariables false
set_option linter.unusedSimpArgs false

def gb (xs : List Bool) (i : Int) : Bool := xs.getD i.toNat false
/-- come, good, more. -/
structure Us where
  come : List Bool
  good : List Bool
  more : Bool
def comeIn (h : Int) (u : Us) (s : Int) : Us := if gb u.come h && !(gb u.come s) then { u with come := u.come.set s.toNat true, more := true } else u
def goodIn (p : Pr) (u : Us) : Us := if !(gb u.good p.head) && !(p.body.any fun s => !(gb u.good s)) then { u with good := u.good.set p.head.toNat true, more := true } else u
def usedStep (u : Us) (p : Pr) : Us := p.body.foldl (comeIn p.head) (goodIn p u)
def usedRound (ps : List Pr) (u : Us) : Us := ps.foldl usedStep { u with more := false }
def usedLoop (ps : List Pr) : Nat → Us → Us
  | 0, u => u
  | k + 1, u => if u.more then usedLoop ps k (usedRound ps u) else u
def falses (u : Us) : Nat := u.come.count false + u.good.count false
def used0 (g : Gr) : Us := ⟨(List.replicate g.S.toNat false).set g.st.toNat true, List.replicate g.T.toNat true ++ List.replicate (g.S.toNat - g.T.toNat) false, true⟩
def usedEnd (g : Gr) : Us := usedLoop g.ps (2 * g.S.toNat + 1) (used0 g)
def usedB (g : Gr) : Bool := !((usedEnd g).come.drop g.T.toNat).any (fun x => false == x) && !(usedEnd g).good.any (fun x => false == x)

/-! lengths stay; where something is new, fewer are false -/
theorem count_set_lt (l : List Bool) : ∀ i, l.getD i true = false → (l.set i true).count false + 1 = l.count false := by
  induction l with
  | nil => intro i h; simp at h
  | cons b l ih =>
    intro i h
    cases i with
    | zero => simp at h; subst h; simp
    | succ i =>
      have := ih i (by simpa using h)
      simp only [List.set_cons_succ, List.count_cons]
      omega
theorem gb_false_in {l : List Bool} {s : Int} (h : s.toNat < l.length) (hf : gb l s = false) : l.getD s.toNat true = false := by
  unfold gb at hf
  rw [List.getD_eq_getElem?_getD, List.getElem?_eq_getElem h] at hf ⊢
  exact hf
structure UsLe (n : Nat) (u v : Us) : Prop where
  c : v.come.length = n
  g : v.good.length = n
  le : falses v ≤ falses u
  new : v.more = true → u.more = true ∨ falses v < falses u
theorem UsLe.trans {n : Nat} {a b c : Us} (h : UsLe n a b) (k : UsLe n b c) : UsLe n a c := by
  refine ⟨k.c, k.g, Nat.le_trans k.le h.le, fun hm => ?_⟩
  rcases k.new hm with h1 | h1
  · rcases h.new h1 with h2 | h2
    · exact .inl h2
    · exact .inr (Nat.lt_of_le_of_lt k.le h2)
  · exact .inr (Nat.lt_of_lt_of_le h1 h.le)
theorem comeIn_le {n : Nat} {h s : Int} {u : Us} (hc : u.come.length = n) (hg : u.good.length = n) (hs : s.toNat < n) : UsLe n u (comeIn h u s) := by
  unfold comeIn
  split
  · rename_i ht
    simp only [Bool.and_eq_true, Bool.not_eq_true'] at ht
    have := count_set_lt u.come s.toNat (gb_false_in (by omega) ht.2)
    exact ⟨by simp [hc], hg, by simp only [falses]; omega, fun _ => .inr (by simp only [falses]; omega)⟩
  · exact ⟨hc, hg, Nat.le_refl _, fun h => .inl h⟩
theorem goodIn_le {n : Nat} {p : Pr} {u : Us} (hc : u.come.length = n) (hg : u.good.length = n) (hs : p.head.toNat < n) : UsLe n u (goodIn p u) := by
  unfold goodIn
  split
  · rename_i ht
    simp only [Bool.and_eq_true, Bool.not_eq_true'] at ht
    have := count_set_lt u.good p.head.toNat (gb_false_in (by omega) ht.1)
    exact ⟨hc, by simp [hg], by simp only [falses]; omega, fun _ => .inr (by simp only [falses]; omega)⟩
  · exact ⟨hc, hg, Nat.le_refl _, fun h => .inl h⟩
theorem comeAll_le {n : Nat} {h : Int} (l : List Int) : ∀ {u : Us}, u.come.length = n → u.good.length = n → (∀ s ∈ l, s.toNat < n) → UsLe n u (l.foldl (comeIn h) u) := by
  induction l with
  | nil => intro u hc hg _; exact ⟨hc, hg, Nat.le_refl _, fun h => .inl h⟩
  | cons s l ih =>
    intro u hc hg hs
    have h1 := comeIn_le (h := h) hc hg (hs s (by simp))
    exact h1.trans (ih h1.c h1.g (fun s hs' => hs s (by simp [hs'])))
def PrIn (n : Nat) (p : Pr) : Prop := 0 ≤ p.head ∧ p.head.toNat < n ∧ ∀ s ∈ p.body, 0 ≤ s ∧ s.toNat < n
theorem usedStep_le {n : Nat} {p : Pr} {u : Us} (hc : u.come.length = n) (hg : u.good.length = n) (hp : PrIn n p) : UsLe n u (usedStep u p) := by
  have h1 := goodIn_le hc hg hp.2.1
  exact h1.trans (comeAll_le p.body h1.c h1.g (fun s hs => (hp.2.2 s hs).2))
theorem usedAll_le {n : Nat} (l : List Pr) : ∀ {u : Us}, u.come.length = n → u.good.length = n → (∀ p ∈ l, PrIn n p) → UsLe n u (l.foldl usedStep u) := by
  induction l with
  | nil => intro u hc hg _; exact ⟨hc, hg, Nat.le_refl _, fun h => .inl h⟩
  | cons p l ih =>
    intro u hc hg hs
    have h1 := usedStep_le hc hg (hs p (by simp))
    exact h1.trans (ih h1.c h1.g (fun s hs' => hs s (by simp [hs'])))
theorem usedRound_le {n : Nat} {ps : List Pr} {u : Us} (hc : u.come.length = n) (hg : u.good.length = n) (hp : ∀ p ∈ ps, PrIn n p) :
    (usedRound ps u).come.length = n ∧ (usedRound ps u).good.length = n ∧ ((usedRound ps u).more = true → falses (usedRound ps u) < falses u) := by
  have h := usedAll_le (n := n) ps (u := { u with more := false }) hc hg hp
  refine ⟨h.c, h.g, fun hm => ?_⟩
  rcases h.new hm with h1 | h1
  · cases h1
  · exact h1

/-- Memory while used runs: the grammar's box, come's row, the box of good's slice, good's row. -/
structure UW (w wr : World) (gv : Array Value) (gC gX gG n : Nat) (come good : List Bool) : Prop where
  bw : Below w.heap.size w wr
  bg : Blk wr w.heap.size 24 gv
  bc : Blk wr gC 4 (bools come)
  bx : Blk wr gX 76 #[.slice (some ⟨gG, 0, none⟩) n n]
  bd : Blk wr gG 4 (bools good)
  ne : gC ≠ gG
  nx : gX ≠ gC ∧ gX ≠ gG
  gc : w.heap.size < gC
  gx : w.heap.size < gX
  gg : w.heap.size < gG
  lc : come.length = n
  lg : good.length = n
theorem UW.start {w wr : World} {gv : Array Value} {gC gX gG n : Nat} (bx : Blk wr gX 76 #[.slice (some ⟨gG, 0, none⟩) n n])
    (bc : Blk wr gC 4 (bools (List.replicate n false))) (bd : Blk wr gG 4 (bools (List.replicate n false))) (bg : Blk wr w.heap.size 24 gv) (bw : Below w.heap.size w wr)
    (ne : gC ≠ gG ∧ (gX ≠ gC ∧ gX ≠ gG) ∧ w.heap.size < gC ∧ w.heap.size < gX ∧ w.heap.size < gG) : UW w wr gv gC gX gG n (List.replicate n false) (List.replicate n false) :=
  ⟨bw, bg, bc, bx, bd, ne.1, ne.2.1, ne.2.2.1, ne.2.2.2.1, ne.2.2.2.2, by simp, by simp⟩
section
variable {w wr w' : World} {gv : Array Value} {gC gX gG n : Nat} {come good : List Bool}
theorem UW.below (h : UW w wr gv gC gX gG n come good) (hb : Below wr.heap.size wr w') : UW w w' gv gC gX gG n come good :=
  ⟨below_step h.bw hb h.bw.size, h.bg.below hb h.bg.lt, h.bc.below hb h.bc.lt, h.bx.below hb h.bx.lt, h.bd.below hb h.bd.lt, h.ne, h.nx, h.gc, h.gx, h.gg, h.lc, h.lg⟩
theorem UW.alloc (h : UW w wr gv gC gX gG n come good) (o : Obj) : UW w (wr.alloc o) gv gC gX gG n come good := h.below ((Below.refl _ _).alloc (Nat.le_refl _) o)
theorem UW.setC (h : UW w wr gv gC gX gG n come good) (i : Nat) (b : Bool) : UW w (wr.setCell ⟨gC, i, none⟩ (.bool b)) gv gC gX gG n (come.set i b) good := by
  refine ⟨h.bw.setCell (by show w.heap.size ≤ gC; have := h.gc; omega) _, h.bg.far (by show _ ≠ gC; have := h.gc; omega) _, ?_, h.bx.far h.nx.1 _, h.bd.far (fun e => h.ne e.symm) _, h.ne, h.nx, h.gc, h.gx, h.gg, by simp [h.lc], h.lg⟩
  have := h.bc.set_ i (.bool b)
  rwa [bools_set] at this
theorem UW.setG (h : UW w wr gv gC gX gG n come good) (i : Nat) (b : Bool) : UW w (wr.setCell ⟨gG, i, none⟩ (.bool b)) gv gC gX gG n come (good.set i b) := by
  refine ⟨h.bw.setCell (by show w.heap.size ≤ gG; have := h.gg; omega) _, h.bg.far (by show _ ≠ gG; have := h.gg; omega) _, h.bc.far h.ne _, h.bx.far h.nx.2 _, ?_, h.ne, h.nx, h.gc, h.gx, h.gg, h.lc, by simp [h.lg]⟩
  have := h.bd.set_ i (.bool b)
  rwa [bools_set] at this
end

theorem fill_set (k n : Nat) (h : k < n) : (List.replicate k true ++ List.replicate (n - k) false).set k true = List.replicate (k + 1) true ++ List.replicate (n - (k + 1)) false := by
  rw [List.set_append_right _ _ (by simp), List.length_replicate, Nat.sub_self, show n - k = (n - (k + 1)) + 1 from by omega, List.replicate_succ, List.set_cons_zero, List.replicate_succ']
  simp
theorem usedLoop_done (ps : List Pr) (k : Nat) (u : Us) (h : u.more = false) : usedLoop ps k u = u := by
  cases k with
  | zero => rfl
  | succ k => simp [usedLoop, h]
theorem usedLoop_go (ps : List Pr) (k : Nat) (u : Us) (h : u.more = true) : usedLoop ps (k + 1) u = usedLoop ps k (usedRound ps u) := by simp [usedLoop, h]
theorem bools_gb (xs : List Bool) (i : Nat) (h : i < xs.length) : (bools xs)[i]? = some (.bool (gb xs (i : Int))) := by rw [bools_at xs i h]; simp [gb, h]
theorem used1 (gX gG n : Nat) (xs : List Bool) (s : Int) (w : World)
    (hx : Blk w gX 76 #[.slice (some ⟨gG, 0, none⟩) n n]) (hd : Blk w gG 4 (bools xs)) (hn : xs.length = n) (h0 : 0 ≤ s) (h1 : s.toNat < n) :
    Calls Try.prog 65 #[.int .i64 s, .pointer (some ⟨gX, 0, none⟩)] w fun e w' => e = .returned (.bool (!(gb xs s))) ∧ w' = w := by
  obtain ⟨k, rfl⟩ := Int.eq_ofNat_of_zero_le h0
  have hk : k < xs.length := by omega
  have c0 := hx.cell 0
  simp at c0
  have c1 := hd.cell k
  rw [bools_at xs k hk] at c1
  have e : gb xs (k : Int) = xs[k] := by simp [gb, hk]
  rw [e]
  generalize xs[k] = b at *
  have i2 : (k : Int) < n := by omega
  clear e hn hd hx
  go_enter Try.func65, Try.ntmps65
  go_wp2
  go_ret
  exact ⟨rfl, rfl⟩
end Go.Proofs.Ytadabkkkalgehaa.H
