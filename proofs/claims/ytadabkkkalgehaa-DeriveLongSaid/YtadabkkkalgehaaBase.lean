/-
  What memory holds: lists of numbers, of bools, of productions, as slices read them; a block that is known whole. Own words; no program in sight.
-/
import Derived.WalkKit
import Derived.Deep.LoopGhost
import Derived.Deep.QuietTactic
import Derived.BigQuiet
import Derived.Deep.RegionHeld3
import Derived.Deep.AppendLies
import Derived.Maps.AppendAt
import Derived.Deep.OwnRows
import Derived.KernelRfl
import Derived.Lib.Hide
import Derived.Shelf.Abstract
import Derived.Deep.DeepCutAuto
import Derived.Deep.CutBlock
import Derived.Deep.RegionWith
namespace Go.Proofs.Ytadabkkkalgehaa.H
open Go.RowKit

structure Keep (p : Prop) : Prop where mk :: (out : p)

theorem cell_lt {w : World} {a : Addr} {v : Value} (h : w.cell? a = some v) : a.block < w.heap.size := World.block_lt_of_cell? w a h
theorem cell_below {B : Nat} {w w' : World} {a : Addr} {v : Value} (h : w.cell? a = some v) (hb : Below B w w') (ha : a.block < B) : w'.cell? a = some v := (hb.cell ha).trans h
theorem below_step {B B' : Nat} {a b c : World} (h : Below B a b) (k : Below B' b c) (hB : B ≤ B') : Below B a c := h.trans (k.mono hB)
theorem below_drew1 {B : Nat} {w W : World} (h : Below B w W) : Below B w W.drew := h.drew
theorem below_drewN {B : Nat} {w W : World} (h : Below B w W) (n : Nat) : Below B w (W.drewN n) := ⟨h.os, h.tape, h.output, h.size, h.block⟩
theorem add_block (a : Addr) (n : Nat) : (a.add n).block = a.block := by unfold Addr.add; split <;> rfl

/-- A slice (its address, its length) holds these cells, below block B. -/
def Rd {α : Type} (enc : α → List Value) (k : Nat) (w : World) (B : Nat) (A : Option Addr) (xs : List α) : Prop :=
  ∀ i (h : i < xs.length), ∃ ad, A = some ad ∧ ad.block < B ∧ ∀ j u, (enc xs[i])[j]? = some u → w.cell? ((ad.add (i * k)).add j) = some u

def eI (x : Int) : List Value := [.int .i64 x]
def eB (x : Bool) : List Value := [.bool x]

theorem Rd.below {α : Type} {enc : α → List Value} {k : Nat} {w w' : World} {B : Nat} {A : Option Addr} {xs : List α} (h : Rd enc k w B A xs) (hb : Below B w w') : Rd enc k w' B A xs := by
  intro i hi
  obtain ⟨ad, e, hB, hc⟩ := h i hi
  exact ⟨ad, e, hB, fun j u hu => cell_below (hc j u hu) hb (by rw [add_block, add_block]; exact hB)⟩
theorem Rd.mono {α : Type} {enc : α → List Value} {k : Nat} {w : World} {B B' : Nat} {A : Option Addr} {xs : List α} (h : Rd enc k w B A xs) (hB : B ≤ B') : Rd enc k w B' A xs := by
  intro i hi
  obtain ⟨ad, e, hb, hc⟩ := h i hi
  exact ⟨ad, e, by omega, hc⟩
theorem Rd.take {α : Type} {enc : α → List Value} {k : Nat} {w : World} {B : Nat} {A : Option Addr} {xs : List α} (h : Rd enc k w B A xs) (n : Nat) : Rd enc k w B A (xs.take n) := by
  intro i hi
  have hi' : i < xs.length := by rw [List.length_take] at hi; omega
  obtain ⟨ad, e, hb, hc⟩ := h i hi'
  refine ⟨ad, e, hb, ?_⟩
  rw [List.getElem_take]
  exact hc

theorem Rd.get1 {α : Type} {enc : α → List Value} {w : World} {B : Nat} {A : Option Addr} {xs : List α} (v : α → Value) (he : ∀ x, enc x = [v x]) (h : Rd enc 1 w B A xs) (i : Nat) (hi : i < xs.length) :
    ∃ ad, A = some ad ∧ ad.block < B ∧ w.cell? (ad.add i) = some (v xs[i]) := by
  obtain ⟨ad, e, hb, hc⟩ := h i hi
  have := hc 0 (v xs[i]) (by rw [he]; rfl)
  exact ⟨ad, e, hb, by simpa [Addr.add] using this⟩
theorem Rd.int {w : World} {B : Nat} {A : Option Addr} {xs : List Int} (h : Rd eI 1 w B A xs) (i : Nat) (hi : i < xs.length) :
    ∃ ad, A = some ad ∧ ad.block < B ∧ w.cell? (ad.add i) = some (.int .i64 xs[i]) := h.get1 (fun x => .int .i64 x) (fun _ => rfl) i hi
theorem Rd.bool {w : World} {B : Nat} {A : Option Addr} {xs : List Bool} (h : Rd eB 1 w B A xs) (i : Nat) (hi : i < xs.length) :
    ∃ ad, A = some ad ∧ ad.block < B ∧ w.cell? (ad.add i) = some (.bool xs[i]) := h.get1 (fun x => .bool x) (fun _ => rfl) i hi

/-- A production, a grammar: as plain data. -/
structure Pr where
  head : Int
  body : List Int
  right : Bool
structure Gr where
  T : Int
  S : Int
  st : Int
  ps : List Pr

/-- A slice of productions holds these, below block B. -/
def RdP (w : World) (B : Nat) (A : Option Addr) (ps : List Pr) : Prop :=
  ∀ i (h : i < ps.length), ∃ ad Ab cb, A = some ad ∧ ad.block < B ∧ w.cell? (ad.add (i * 3)) = some (.int .i64 ps[i].head) ∧
    w.cell? ⟨(ad.add (i * 3)).block, (ad.add (i * 3)).off + 1, none⟩ = some (.slice Ab ps[i].body.length cb) ∧
    w.cell? ⟨(ad.add (i * 3)).block, (ad.add (i * 3)).off + 2, none⟩ = some (.bool ps[i].right) ∧ ps[i].body.length ≤ cb ∧ Rd eI 1 w B Ab ps[i].body
theorem RdP.below {w w' : World} {B : Nat} {A : Option Addr} {ps : List Pr} (h : RdP w B A ps) (hb : Below B w w') : RdP w' B A ps := by
  intro i hi
  obtain ⟨ad, Ab, cb, e, hB, c0, c1, c2, hl, hr⟩ := h i hi
  exact ⟨ad, Ab, cb, e, hB, cell_below c0 hb (by rw [add_block]; exact hB), cell_below c1 hb (by show (ad.add _).block < B; rw [add_block]; exact hB),
    cell_below c2 hb (by show (ad.add _).block < B; rw [add_block]; exact hB), hl, hr.below hb⟩
theorem RdP.mono {w : World} {B B' : Nat} {A : Option Addr} {ps : List Pr} (h : RdP w B A ps) (hB : B ≤ B') : RdP w B' A ps := by
  intro i hi
  obtain ⟨ad, Ab, cb, e, hb, c0, c1, c2, hl, hr⟩ := h i hi
  exact ⟨ad, Ab, cb, e, by omega, c0, c1, c2, hl, hr.mono hB⟩
theorem RdP.take {w : World} {B : Nat} {A : Option Addr} {ps : List Pr} (h : RdP w B A ps) (n : Nat) : RdP w B A (ps.take n) := by
  intro i hi
  have hi' : i < ps.length := by rw [List.length_take] at hi; omega
  have := h i hi'
  rw [List.getElem_take]
  exact this

/-- A block of the call's own: just these cells, none frozen. -/
def Blk (w : World) (g : Nat) (t : TypeId) (cs : Array Value) : Prop := w.heap[g]? = some (.cells cs t (0, 0))
section
variable {w w' : World} {g : Nat} {t : TypeId} {cs : Array Value}
theorem Blk.lt (h : Blk w g t cs) : g < w.heap.size := by
  rcases Nat.lt_or_ge g w.heap.size with hlt | hge
  · exact hlt
  · unfold Blk at h; rw [Array.getElem?_eq_none hge] at h; cases h
theorem Blk.cell (h : Blk w g t cs) (i : Nat) : w.cell? ⟨g, i, none⟩ = cs[i]? := cell_of_row w g i cs t (0, 0) h
theorem Blk.frozen (h : Blk w g t cs) (i : Nat) : w.frozen? ⟨g, i, none⟩ = false := by
  unfold Blk at h
  simp [World.frozen?, h]
theorem Blk.new (w : World) (t : TypeId) (cs : Array Value) : Blk (w.alloc (.cells cs t)) w.heap.size t cs := heap_alloc_new w _
theorem Blk.newAt (hg : g = w.heap.size) : Blk (w.alloc (.cells cs t)) g t cs := by subst hg; exact Blk.new w t cs
theorem Blk.drew (h : Blk w g t cs) : Blk w.drew g t cs := h
theorem Blk.drewN (h : Blk w g t cs) (n : Nat) : Blk (w.drewN n) g t cs := h
theorem Blk.alloc (h : Blk w g t cs) (o : Obj) : Blk (w.alloc o) g t cs := (Below.heap_alloc w o g h.lt).trans h
theorem Blk.set_ (h : Blk w g t cs) (i : Nat) (u : Value) : Blk (w.setCell ⟨g, i, none⟩ u) g t (cs.setIfInBounds i u) := by
  unfold Blk at h ⊢
  simp [World.setCell, Array.getElem?_modify, h]
theorem Blk.far (h : Blk w g t cs) {p : Addr} (hp : g ≠ p.block) (u : Value) : Blk (w.setCell p u) g t cs := (Below.heap_setCell w p u g hp).trans h
theorem Blk.below {B : Nat} (h : Blk w g t cs) (hb : Below B w w') (hg : g < B) : Blk w' g t cs := (hb.block g hg).trans h
theorem Blk.grown {row : Option Nat} (h : Blk w g t cs) (hb : w.grownBy w' row) (hg : some g ≠ row) : Blk w' g t cs := (hb.block g h.lt hg).trans h
end

/-- A row of bools, of numbers, as cells. -/
def bools (xs : List Bool) : Array Value := (xs.map Value.bool).toArray
def ints (k : IntKind) (xs : List Int) : Array Value := (xs.map (Value.int k)).toArray
theorem bools_at (xs : List Bool) (i : Nat) (h : i < xs.length) : (bools xs)[i]? = some (.bool xs[i]) := by simp [bools, h]
theorem bools_set (xs : List Bool) (i : Nat) (b : Bool) : (bools xs).setIfInBounds i (.bool b) = bools (xs.set i b) := by simp [bools, List.map_set]
theorem ints_at (k : IntKind) (xs : List Int) (i : Nat) (h : i < xs.length) : (ints k xs)[i]? = some (.int k xs[i]) := by simp [ints, h]
theorem ints_set (k : IntKind) (xs : List Int) (i : Nat) (b : Int) : (ints k xs).setIfInBounds i (.int k b) = ints k (xs.set i b) := by simp [ints, List.map_set]
theorem rd_bools {w : World} {g : Nat} {t : TypeId} {xs : List Bool} {B : Nat} (h : Blk w g t (bools xs)) (hB : g < B) : Rd eB 1 w B (some ⟨g, 0, none⟩) xs := by
  intro i hi
  refine ⟨_, rfl, hB, fun j u hu => ?_⟩
  have hj : j = 0 := by
    rcases j with _ | j
    · rfl
    · simp [eB] at hu
  subst hj
  have : ((Addr.mk g 0 none).add (i * 1)).add 0 = ⟨g, i, none⟩ := by by_cases h0 : i = 0 <;> simp [Addr.add, h0]
  rw [this, h.cell i, bools_at xs i hi]
  simpa [eB] using hu
theorem rd_bools_drop {w : World} {g : Nat} {t : TypeId} {xs : List Bool} {B : Nat} (k : Nat) (h : Blk w g t (bools xs)) (hB : g < B) : Rd eB 1 w B (some ⟨g, k, none⟩) (xs.drop k) := by
  intro i hi
  refine ⟨_, rfl, hB, fun j u hu => ?_⟩
  have hj : j = 0 := by
    rcases j with _ | j
    · rfl
    · simp [eB] at hu
  subst hj
  have : ((Addr.mk g k none).add (i * 1)).add 0 = ⟨g, k + i, none⟩ := by by_cases h0 : i = 0 <;> simp [Addr.add, h0]
  rw [List.length_drop] at hi
  rw [this, h.cell (k + i), bools_at xs (k + i) (by omega)]
  simpa [eB] using hu
theorem madeCells_bools (n : Nat) : madeCells #[Value.bool false] n = bools (List.replicate n false) := by
  apply Array.ext
  · simp [bools, madeCells]
  · intro i h1 h2
    simp [bools, madeCells, Nat.mod_one]
theorem madeCells_ints (k : IntKind) (n : Nat) : madeCells #[Value.int k 0] n = ints k (List.replicate n 0) := by
  apply Array.ext
  · simp [ints, madeCells]
  · intro i h1 h2
    simp [ints, madeCells, Nat.mod_one]

/-- A list of numbers of the call's own, from block B on. -/
def OwnI (w : World) (B : Nat) (v : Value) (xs : List Int) : Prop := w.ownsRow B 3 1 v xs.length (xs.map (Value.int .i64))
theorem OwnI.nil (w : World) (B : Nat) : OwnI w B (.slice none 0 0) [] := ⟨by simp, .inl ⟨rfl, rfl⟩⟩
theorem OwnI.open_ {w : World} {B : Nat} {v : Value} {xs : List Int} (h : OwnI w B v xs) :
    ∃ A c, v = .slice A xs.length c ∧ xs.length ≤ c ∧ c ≤ maxLen ∧ Rd eI 1 w w.heap.size A xs ∧ (∀ ad, A = some ad → B ≤ ad.block ∧ ad.off = 0 ∧ ad.spot = none) ∧ (A = none → xs = []) := by
  obtain ⟨h1, h2⟩ := h
  rcases h2 with ⟨rfl, h0⟩ | ⟨g, cap, cur, rfl, hB, hh, hn, hc, hs, ht⟩
  · have : xs = [] := List.eq_nil_of_length_eq_zero h0
    subst this
    exact ⟨none, 0, rfl, by simp, by simp [maxLen], fun i hi => absurd hi (by simp), fun ad h => (by cases h), fun _ => rfl⟩
  · have hlt : g < w.heap.size := by
      rcases Nat.lt_or_ge g w.heap.size with h | h
      · exact h
      · rw [Array.getElem?_eq_none h] at hh; cases hh
    refine ⟨some ⟨g, 0, none⟩, cap, rfl, hn, hc, fun i hi => ⟨_, rfl, hlt, fun j u hu => ?_⟩, fun ad h => by injection h with h; subst h; exact ⟨hB, rfl, rfl⟩, fun h => by cases h⟩
    have hj : j = 0 := by
      rcases j with _ | j
      · rfl
      · simp [eI] at hu
    subst hj
    have : ((Addr.mk g 0 none).add (i * 1)).add 0 = ⟨g, i, none⟩ := by by_cases h0 : i = 0 <;> simp [Addr.add, h0]
    rw [this]
    have e : w.cell? ⟨g, i, none⟩ = cur[i]? := cell_of_row w g i cur _ _ hh
    rw [e]
    have h3 : (cur.toList.take (xs.length * 1))[i]? = (xs.map (Value.int .i64))[i]? := by rw [ht]
    rw [List.getElem?_take, if_pos (by omega)] at h3
    simp only [Array.getElem?_toList] at h3
    rw [h3]
    simp [hi] at hu ⊢
    simpa [eI] using hu
theorem OwnI.below {w w' : World} {B : Nat} {v : Value} {xs : List Int} (h : OwnI w B v xs) (hb : Below w.heap.size w w') : OwnI w' B v xs := by
  obtain ⟨h1, h2⟩ := h
  refine ⟨h1, ?_⟩
  rcases h2 with h0 | ⟨g, cap, cur, hv, hB, hh, hr⟩
  · exact .inl h0
  · refine .inr ⟨g, cap, cur, hv, hB, ?_, hr⟩
    have hlt : g < w.heap.size := by
      rcases Nat.lt_or_ge g w.heap.size with h | h
      · exact h
      · rw [Array.getElem?_eq_none h] at hh; cases hh
    exact (hb.block g hlt).trans hh
theorem OwnI.mono {w : World} {B B' : Nat} {v : Value} {xs : List Int} (h : OwnI w B v xs) (hB : B' ≤ B) : OwnI w B' v xs := by
  obtain ⟨h1, h2⟩ := h
  refine ⟨h1, ?_⟩
  rcases h2 with h0 | ⟨g, cap, cur, hv, hB, hr⟩
  · exact .inl h0
  · exact .inr ⟨g, cap, cur, hv, by omega, hr⟩

/-- A row of u64. -/
def u64s (xs : List Nat) : Array Value := (xs.map fun x : Nat => Value.int .u64 (x : Int)).toArray
theorem u64s_at (xs : List Nat) (i : Nat) (h : i < xs.length) : (u64s xs)[i]? = some (.int .u64 (xs.getD i 0 : Nat)) := by simp [u64s, h]
theorem u64s_set (xs : List Nat) (i : Nat) (b : Nat) : (u64s xs).setIfInBounds i (.int .u64 (b : Int)) = u64s (xs.set i b) := by simp [u64s, List.map_set]
theorem madeCells_u64s (n : Nat) : madeCells #[Value.int .u64 0] n = u64s (List.replicate n 0) := by
  apply Array.ext
  · simp [u64s, madeCells]
  · intro i h1 h2
    simp [u64s, madeCells, Nat.mod_one]
theorem wraps_u64 (n : Int) (h₀ : 0 ≤ n) (h₁ : n < 2 ^ 64) : IntKind.u64.wrap n = n := by simp [IntKind.wrap, IntKind.bits, IntKind.signed]; omega
theorem or64 (a b : Nat) (ha : a < 2 ^ 64) (hb : b < 2 ^ 64) : bits .or .u64 (a : Int) (b : Int) = ((a ||| b : Nat) : Int) := (bits_nat .u64 64 (by decide) wraps_u64 a b ha hb).2
theorem and64 (a b : Nat) (ha : a < 2 ^ 64) (hb : b < 2 ^ 64) : bits .and .u64 (a : Int) (b : Int) = ((a &&& b : Nat) : Int) := (bits_nat .u64 64 (by decide) wraps_u64 a b ha hb).1
theorem testBit64 (x k : Nat) (hx : x < 2 ^ 64) : (bits .and .u64 ((x : Int) / 2 ^ k) 1 == 1) = x.testBit k := by
  have e : ((x : Int) / 2 ^ k) = ((x / 2 ^ k : Nat) : Int) := by simp
  have h : x / 2 ^ k < 2 ^ 64 := Nat.lt_of_le_of_lt (Nat.div_le_self _ _) hx
  have a := and64 (x / 2 ^ k) 1 h (by decide)
  rw [e, show (1 : Int) = ((1 : Nat) : Int) from rfl, a, Nat.testBit, Nat.shiftRight_eq_div_pow, Nat.and_comm]
  rw [Bool.eq_iff_iff]
  simp only [beq_iff_eq, bne_iff_ne, ne_eq, Int.natCast_inj]
  have := Nat.one_and_eq_mod_two (n := x / 2 ^ k)
  omega

end Go.Proofs.Ytadabkkkalgehaa.H
