import Derived.WalkKit
import Derived.Deep.LoopGhost
import Derived.Deep.QuietTactic
import Derived.BigQuiet
import Derived.Deep.RegionHeld3
import Derived.Deep.AppendLies
import Derived.Maps.AppendAt
import Derived.Deep.OwnRows
import Derived.KernelRfl
import Derived.Lib.Hide
import Derived.Shelf.Abstract
import Derived.Deep.DeepCutAuto
import Derived.Deep.CutBlock
import Derived.Deep.RegionWith
import Derived.Test.YtofidghilcbegaaProg
import Derived.ProofKit
import Derived.OpenShut
import Derived.ShutString
import Derived.ChangeOld
import Derived.Below
import Derived.SizedLaws
import Derived.Lib.SmallJoins
import Derived.Deep.Slices
import Derived.Deep.Fields
import Derived.ChangeSame
import Derived.Laws.AppendOwnNone
import Derived.Deep.RegionLaw
import Derived.Deep.Onto
import Derived.Laws.OwnMore
import Derived.StillTailTactics
namespace Go.Proofs.Ytofidghilcbegaa.H
open Go.RowKit
structure Keep (p : Prop) : Prop where mk :: (out : p)
theorem cell_lt {w : World} {a : Addr} {v : Value} (h : w.cell? a = some v) : a.block < w.heap.size := World.block_lt_of_cell? w a h
theorem cell_below {B : Nat} {w w' : World} {a : Addr} {v : Value} (h : w.cell? a = some v) (hb : Below B w w') (ha : a.block < B) : w'.cell? a = some v := (hb.cell ha).trans h
theorem below_step {B B' : Nat} {a b c : World} (h : Below B a b) (k : Below B' b c) (hB : B ≤ B') : Below B a c := h.trans (k.mono hB)
theorem below_drew1 {B : Nat} {w W : World} (h : Below B w W) : Below B w W.drew := h.drew
theorem below_drewN {B : Nat} {w W : World} (h : Below B w W) (n : Nat) : Below B w (W.drewN n) := ⟨h.os, h.tape, h.output, h.size, h.block⟩
theorem add_block (a : Addr) (n : Nat) : (a.add n).block = a.block := by unfold Addr.add; split <;> rfl
def Rd {α : Type} (enc : α → List Value) (k : Nat) (w : World) (B : Nat) (A : Option Addr) (xs : List α) : Prop :=
  ∀ i (h : i < xs.length), ∃ ad, A = some ad ∧ ad.block < B ∧ ∀ j u, (enc xs[i])[j]? = some u → w.cell? ((ad.add (i * k)).add j) = some u
def eI (x : Int) : List Value := [.int .i64 x]
def eB (x : Bool) : List Value := [.bool x]
theorem Rd.below {α : Type} {enc : α → List Value} {k : Nat} {w w' : World} {B : Nat} {A : Option Addr} {xs : List α} (h : Rd enc k w B A xs) (hb : Below B w w') : Rd enc k w' B A xs := by
  intro i hi
  obtain ⟨ad, e, hB, hc⟩ := h i hi
  exact ⟨ad, e, hB, fun j u hu => cell_below (hc j u hu) hb (by rw [add_block, add_block]; exact hB)⟩
theorem Rd.mono {α : Type} {enc : α → List Value} {k : Nat} {w : World} {B B' : Nat} {A : Option Addr} {xs : List α} (h : Rd enc k w B A xs) (hB : B ≤ B') : Rd enc k w B' A xs := by
  intro i hi
  obtain ⟨ad, e, hb, hc⟩ := h i hi
  exact ⟨ad, e, by omega, hc⟩
theorem Rd.take {α : Type} {enc : α → List Value} {k : Nat} {w : World} {B : Nat} {A : Option Addr} {xs : List α} (h : Rd enc k w B A xs) (n : Nat) : Rd enc k w B A (xs.take n) := by
  intro i hi
  have hi' : i < xs.length := by rw [List.length_take] at hi; omega
  obtain ⟨ad, e, hb, hc⟩ := h i hi'
  refine ⟨ad, e, hb, ?_⟩
  rw [List.getElem_take]
  exact hc
theorem Rd.get1 {α : Type} {enc : α → List Value} {w : World} {B : Nat} {A : Option Addr} {xs : List α} (v : α → Value) (he : ∀ x, enc x = [v x]) (h : Rd enc 1 w B A xs) (i : Nat) (hi : i < xs.length) :
    ∃ ad, A = some ad ∧ ad.block < B ∧ w.cell? (ad.add i) = some (v xs[i]) := by
  obtain ⟨ad, e, hb, hc⟩ := h i hi
  have := hc 0 (v xs[i]) (by rw [he]; rfl)
  exact ⟨ad, e, hb, by simpa [Addr.add] using this⟩
theorem Rd.int {w : World} {B : Nat} {A : Option Addr} {xs : List Int} (h : Rd eI 1 w B A xs) (i : Nat) (hi : i < xs.length) :
    ∃ ad, A = some ad ∧ ad.block < B ∧ w.cell? (ad.add i) = some (.int .i64 xs[i]) := h.get1 (fun x => .int .i64 x) (fun _ => rfl) i hi
theorem Rd.bool {w : World} {B : Nat} {A : Option Addr} {xs : List Bool} (h : Rd eB 1 w B A xs) (i : Nat) (hi : i < xs.length) :
    ∃ ad, A = some ad ∧ ad.block < B ∧ w.cell? (ad.add i) = some (.bool xs[i]) := h.get1 (fun x => .bool x) (fun _ => rfl) i hi
structure Pr where
  head : Int
  body : List Int
  right : Bool
structure Gr where
  T : Int
  S : Int
  st : Int
  ps : List Pr
def RdP (w : World) (B : Nat) (A : Option Addr) (ps : List Pr) : Prop :=
  ∀ i (h : i < ps.length), ∃ ad Ab cb, A = some ad ∧ ad.block < B ∧ w.cell? (ad.add (i * 3)) = some (.int .i64 ps[i].head) ∧
    w.cell? ⟨(ad.add (i * 3)).block, (ad.add (i * 3)).off + 1, none⟩ = some (.slice Ab ps[i].body.length cb) ∧
    w.cell? ⟨(ad.add (i * 3)).block, (ad.add (i * 3)).off + 2, none⟩ = some (.bool ps[i].right) ∧ ps[i].body.length ≤ cb ∧ Rd eI 1 w B Ab ps[i].body
theorem RdP.below {w w' : World} {B : Nat} {A : Option Addr} {ps : List Pr} (h : RdP w B A ps) (hb : Below B w w') : RdP w' B A ps := by
  intro i hi
  obtain ⟨ad, Ab, cb, e, hB, c0, c1, c2, hl, hr⟩ := h i hi
  exact ⟨ad, Ab, cb, e, hB, cell_below c0 hb (by rw [add_block]; exact hB), cell_below c1 hb (by show (ad.add _).block < B; rw [add_block]; exact hB),
    cell_below c2 hb (by show (ad.add _).block < B; rw [add_block]; exact hB), hl, hr.below hb⟩
theorem RdP.mono {w : World} {B B' : Nat} {A : Option Addr} {ps : List Pr} (h : RdP w B A ps) (hB : B ≤ B') : RdP w B' A ps := by
  intro i hi
  obtain ⟨ad, Ab, cb, e, hb, c0, c1, c2, hl, hr⟩ := h i hi
  exact ⟨ad, Ab, cb, e, by omega, c0, c1, c2, hl, hr.mono hB⟩
theorem RdP.take {w : World} {B : Nat} {A : Option Addr} {ps : List Pr} (h : RdP w B A ps) (n : Nat) : RdP w B A (ps.take n) := by
  intro i hi
  have hi' : i < ps.length := by rw [List.length_take] at hi; omega
  have := h i hi'
  rw [List.getElem_take]
  exact this
def Blk (w : World) (g : Nat) (t : TypeId) (cs : Array Value) : Prop := w.heap[g]? = some (.cells cs t (0, 0))
section
variable {w w' : World} {g : Nat} {t : TypeId} {cs : Array Value}
theorem Blk.lt (h : Blk w g t cs) : g < w.heap.size := by
  rcases Nat.lt_or_ge g w.heap.size with hlt | hge
  · exact hlt
  · unfold Blk at h; rw [Array.getElem?_eq_none hge] at h; cases h
theorem Blk.cell (h : Blk w g t cs) (i : Nat) : w.cell? ⟨g, i, none⟩ = cs[i]? := cell_of_row w g i cs t (0, 0) h
theorem Blk.frozen (h : Blk w g t cs) (i : Nat) : w.frozen? ⟨g, i, none⟩ = false := by
  unfold Blk at h
  simp [World.frozen?, h]
theorem Blk.new (w : World) (t : TypeId) (cs : Array Value) : Blk (w.alloc (.cells cs t)) w.heap.size t cs := heap_alloc_new w _
theorem Blk.newAt (hg : g = w.heap.size) : Blk (w.alloc (.cells cs t)) g t cs := by subst hg; exact Blk.new w t cs
theorem Blk.drew (h : Blk w g t cs) : Blk w.drew g t cs := h
theorem Blk.drewN (h : Blk w g t cs) (n : Nat) : Blk (w.drewN n) g t cs := h
theorem Blk.alloc (h : Blk w g t cs) (o : Obj) : Blk (w.alloc o) g t cs := (Below.heap_alloc w o g h.lt).trans h
theorem Blk.set_ (h : Blk w g t cs) (i : Nat) (u : Value) : Blk (w.setCell ⟨g, i, none⟩ u) g t (cs.setIfInBounds i u) := by
  unfold Blk at h ⊢
  simp [World.setCell, Array.getElem?_modify, h]
theorem Blk.far (h : Blk w g t cs) {p : Addr} (hp : g ≠ p.block) (u : Value) : Blk (w.setCell p u) g t cs := (Below.heap_setCell w p u g hp).trans h
theorem Blk.below {B : Nat} (h : Blk w g t cs) (hb : Below B w w') (hg : g < B) : Blk w' g t cs := (hb.block g hg).trans h
theorem Blk.grown {row : Option Nat} (h : Blk w g t cs) (hb : w.grownBy w' row) (hg : some g ≠ row) : Blk w' g t cs := (hb.block g h.lt hg).trans h
end
def bools (xs : List Bool) : Array Value := (xs.map Value.bool).toArray
def ints (k : IntKind) (xs : List Int) : Array Value := (xs.map (Value.int k)).toArray
theorem bools_at (xs : List Bool) (i : Nat) (h : i < xs.length) : (bools xs)[i]? = some (.bool xs[i]) := by simp [bools, h]
theorem bools_set (xs : List Bool) (i : Nat) (b : Bool) : (bools xs).setIfInBounds i (.bool b) = bools (xs.set i b) := by simp [bools, List.map_set]
theorem ints_at (k : IntKind) (xs : List Int) (i : Nat) (h : i < xs.length) : (ints k xs)[i]? = some (.int k xs[i]) := by simp [ints, h]
theorem rd_bools {w : World} {g : Nat} {t : TypeId} {xs : List Bool} {B : Nat} (h : Blk w g t (bools xs)) (hB : g < B) : Rd eB 1 w B (some ⟨g, 0, none⟩) xs := by
  intro i hi
  refine ⟨_, rfl, hB, fun j u hu => ?_⟩
  have hj : j = 0 := by
    rcases j with _ | j
    · rfl
    · simp [eB] at hu
  subst hj
  have : ((Addr.mk g 0 none).add (i * 1)).add 0 = ⟨g, i, none⟩ := by by_cases h0 : i = 0 <;> simp [Addr.add, h0]
  rw [this, h.cell i, bools_at xs i hi]
  simpa [eB] using hu
theorem rd_bools_drop {w : World} {g : Nat} {t : TypeId} {xs : List Bool} {B : Nat} (k : Nat) (h : Blk w g t (bools xs)) (hB : g < B) : Rd eB 1 w B (some ⟨g, k, none⟩) (xs.drop k) := by
  intro i hi
  refine ⟨_, rfl, hB, fun j u hu => ?_⟩
  have hj : j = 0 := by
    rcases j with _ | j
    · rfl
    · simp [eB] at hu
  subst hj
  have : ((Addr.mk g k none).add (i * 1)).add 0 = ⟨g, k + i, none⟩ := by by_cases h0 : i = 0 <;> simp [Addr.add, h0]
  rw [List.length_drop] at hi
  rw [this, h.cell (k + i), bools_at xs (k + i) (by omega)]
  simpa [eB] using hu
theorem madeCells_bools (n : Nat) : madeCells #[Value.bool false] n = bools (List.replicate n false) := by
  apply Array.ext
  · simp [bools, madeCells]
  · intro i h1 h2
    simp [bools, madeCells, Nat.mod_one]
def OwnI (w : World) (B : Nat) (v : Value) (xs : List Int) : Prop := w.ownsRow B 3 1 v xs.length (xs.map (Value.int .i64))
theorem OwnI.nil (w : World) (B : Nat) : OwnI w B (.slice none 0 0) [] := ⟨by simp, .inl ⟨rfl, rfl⟩⟩
theorem OwnI.open_ {w : World} {B : Nat} {v : Value} {xs : List Int} (h : OwnI w B v xs) :
    ∃ A c, v = .slice A xs.length c ∧ xs.length ≤ c ∧ c ≤ maxLen ∧ Rd eI 1 w w.heap.size A xs ∧ (∀ ad, A = some ad → B ≤ ad.block ∧ ad.off = 0 ∧ ad.spot = none) ∧ (A = none → xs = []) := by
  obtain ⟨h1, h2⟩ := h
  rcases h2 with ⟨rfl, h0⟩ | ⟨g, cap, cur, rfl, hB, hh, hn, hc, hs, ht⟩
  · have : xs = [] := List.eq_nil_of_length_eq_zero h0
    subst this
    exact ⟨none, 0, rfl, by simp, by simp [maxLen], fun i hi => absurd hi (by simp), fun ad h => (by cases h), fun _ => rfl⟩
  · have hlt : g < w.heap.size := by
      rcases Nat.lt_or_ge g w.heap.size with h | h
      · exact h
      · rw [Array.getElem?_eq_none h] at hh; cases hh
    refine ⟨some ⟨g, 0, none⟩, cap, rfl, hn, hc, fun i hi => ⟨_, rfl, hlt, fun j u hu => ?_⟩, fun ad h => by injection h with h; subst h; exact ⟨hB, rfl, rfl⟩, fun h => by cases h⟩
    have hj : j = 0 := by
      rcases j with _ | j
      · rfl
      · simp [eI] at hu
    subst hj
    have : ((Addr.mk g 0 none).add (i * 1)).add 0 = ⟨g, i, none⟩ := by by_cases h0 : i = 0 <;> simp [Addr.add, h0]
    rw [this]
    have e : w.cell? ⟨g, i, none⟩ = cur[i]? := cell_of_row w g i cur _ _ hh
    rw [e]
    have h3 : (cur.toList.take (xs.length * 1))[i]? = (xs.map (Value.int .i64))[i]? := by rw [ht]
    rw [List.getElem?_take, if_pos (by omega)] at h3
    simp only [Array.getElem?_toList] at h3
    rw [h3]
    simp [hi] at hu ⊢
    simpa [eI] using hu
theorem OwnI.below {w w' : World} {B : Nat} {v : Value} {xs : List Int} (h : OwnI w B v xs) (hb : Below w.heap.size w w') : OwnI w' B v xs := by
  obtain ⟨h1, h2⟩ := h
  refine ⟨h1, ?_⟩
  rcases h2 with h0 | ⟨g, cap, cur, hv, hB, hh, hr⟩
  · exact .inl h0
  · refine .inr ⟨g, cap, cur, hv, hB, ?_, hr⟩
    have hlt : g < w.heap.size := by
      rcases Nat.lt_or_ge g w.heap.size with h | h
      · exact h
      · rw [Array.getElem?_eq_none h] at hh; cases hh
    exact (hb.block g hlt).trans hh
theorem OwnI.mono {w : World} {B B' : Nat} {v : Value} {xs : List Int} (h : OwnI w B v xs) (hB : B' ≤ B) : OwnI w B' v xs := by
  obtain ⟨h1, h2⟩ := h
  refine ⟨h1, ?_⟩
  rcases h2 with h0 | ⟨g, cap, cur, hv, hB, hr⟩
  · exact .inl h0
  · exact .inr ⟨g, cap, cur, hv, by omega, hr⟩
def u64s (xs : List Nat) : Array Value := (xs.map fun x : Nat => Value.int .u64 (x : Int)).toArray
theorem u64s_at (xs : List Nat) (i : Nat) (h : i < xs.length) : (u64s xs)[i]? = some (.int .u64 (xs.getD i 0 : Nat)) := by simp [u64s, h]
theorem u64s_set (xs : List Nat) (i : Nat) (b : Nat) : (u64s xs).setIfInBounds i (.int .u64 (b : Int)) = u64s (xs.set i b) := by simp [u64s, List.map_set]
theorem madeCells_u64s (n : Nat) : madeCells #[Value.int .u64 0] n = u64s (List.replicate n 0) := by
  apply Array.ext
  · simp [u64s, madeCells]
  · intro i h1 h2
    simp [u64s, madeCells, Nat.mod_one]
theorem wraps_u64 (n : Int) (h₀ : 0 ≤ n) (h₁ : n < 2 ^ 64) : IntKind.u64.wrap n = n := by simp [IntKind.wrap, IntKind.bits, IntKind.signed]; omega
theorem or64 (a b : Nat) (ha : a < 2 ^ 64) (hb : b < 2 ^ 64) : bits .or .u64 (a : Int) (b : Int) = ((a ||| b : Nat) : Int) := (bits_nat .u64 64 (by decide) wraps_u64 a b ha hb).2
theorem and64 (a b : Nat) (ha : a < 2 ^ 64) (hb : b < 2 ^ 64) : bits .and .u64 (a : Int) (b : Int) = ((a &&& b : Nat) : Int) := (bits_nat .u64 64 (by decide) wraps_u64 a b ha hb).1
theorem testBit64 (x k : Nat) (hx : x < 2 ^ 64) : (bits .and .u64 ((x : Int) / 2 ^ k) 1 == 1) = x.testBit k := by
  have e : ((x : Int) / 2 ^ k) = ((x / 2 ^ k : Nat) : Int) := by simp
  have h : x / 2 ^ k < 2 ^ 64 := Nat.lt_of_le_of_lt (Nat.div_le_self _ _) hx
  have a := and64 (x / 2 ^ k) 1 h (by decide)
  rw [e, show (1 : Int) = ((1 : Nat) : Int) from rfl, a, Nat.testBit, Nat.shiftRight_eq_div_pow, Nat.and_comm]
  rw [Bool.eq_iff_iff]
  simp only [beq_iff_eq, bne_iff_ne, ne_eq, Int.natCast_inj]
  have := Nat.one_and_eq_mod_two (n := x / 2 ^ k)
  omega
end Go.Proofs.Ytofidghilcbegaa.H
namespace Go.Proofs.Ytofidghilcbegaa.H
open Go.RowKit
set_option linter.unusedVariables false
set_option linter.unusedSimpArgs false
theorem slicesEqual (A1 A2 : Option Addr) (n1 n2 c1 c2 : Nat) (xs ys : List Int) (w : World)
    (hn1 : n1 = xs.length) (hn2 : n2 = ys.length) (hl1 : xs.length ≤ 9223372036854775807)
    (h1 : Rd eI 1 w w.heap.size A1 xs) (h2 : Rd eI 1 w w.heap.size A2 ys) :
    Calls Try.prog 50 #[.slice A1 n1 c1, .slice A2 n2 c2] w fun e w' => e = .returned (.bool (decide (xs = ys))) ∧ ∃ n, w' = w.drewN n := by
  subst hn1 hn2
  by_cases hne : xs.length = ys.length
  · have hne' : ((xs.length : Int) != (ys.length : Int)) = false := by simp [hne]
    have Hne := Lib.hid hne
    clear hne
    go_enter Try.func50, Try.ntmps50
    go_wp2
    go_loopg [5, 13] xs.length (fun gg _ s13 wr => ∃ k : Nat, k ≤ xs.length ∧ xs.length - k ≤ gg ∧ s13 = .int .i64 k ∧ (∃ n, wr = w.drewN n) ∧ Keep (∀ j, j < k → xs[j]? = ys[j]?))
    case atStart => exact ⟨0, Nat.zero_le _, by omega, rfl, ⟨0, rfl⟩, ⟨fun j hj => absurd hj (Nat.not_lt_zero _)⟩⟩
    case round =>
      obtain ⟨k, hk, hg, rfl, ⟨n, rfl⟩, HA⟩ := hrel
      by_cases hlt : k < xs.length
      · have hlt2 : k < ys.length := by have := Hne.out; omega
        obtain ⟨a1, rfl, hb1, hc1⟩ := h1.int k hlt
        obtain ⟨a2, rfl, hb2, hc2⟩ := h2.int k hlt2
        clear h1 h2
        generalize hx : xs[k] = x at *
        generalize hy : ys[k] = y at *
        have Hx := Lib.hid hx
        have Hy := Lib.hid hy
        clear hx hy
        have i1 : (0:Int) ≤ k := by omega
        have i2 : (k : Int) < xs.length := by omega
        have i3 : (k : Int) < ys.length := by omega
        by_cases hxy : x = y
        · have t : ((x : Int) != y) = false := by simp [hxy]
          have Hxy := Lib.hid hxy
          clear hxy
          go_wp2
          go_quiet (fail)
          go_wp2
          go_roundg (xs.length - (k + 1))
          case measure => omega
          case rel =>
            refine ⟨k + 1, by omega, by omega, by go_num, ⟨_, rfl⟩, ⟨fun j hj => ?_⟩⟩
            by_cases e : j = k
            · subst e
              rw [List.getElem?_eq_getElem hlt, List.getElem?_eq_getElem hlt2, Hx.out, Hy.out, Hxy.out]
            · exact HA.out j (by omega)
        · have t : ((x : Int) != y) = true := by simp [hxy]
          have Hxy := Lib.hid hxy
          clear hxy
          go_wp2
          go_quiet (fail)
          go_wp2
          go_ret
          refine ⟨?_, ⟨_, World.drewN_drewN ..⟩⟩
          have : ¬ xs = ys := by
            rintro rfl
            exact Hxy.out (by rw [← Hx.out, ← Hy.out])
          simp [this]
      · go_wp2
        go_ret
        refine ⟨?_, ⟨_, rfl⟩⟩
        have : xs = ys := List.ext_getElem? (fun j => by
          by_cases hj : j < k
          · exact HA.out j hj
          · rw [List.getElem?_eq_none (by omega), List.getElem?_eq_none (by have := Hne.out; omega)])
        simp [this]
  · have hne' : ((xs.length : Int) != (ys.length : Int)) = true := by simp; omega
    have hxy : decide (xs = ys) = false := by simp; intro h; exact hne (by rw [h])
    clear hne
    go_enter Try.func50, Try.ntmps50
    go_wp2
    go_ret
    exact ⟨by rw [hxy]; rfl, 0, rfl⟩
def PredI (g : Nat) (lb : Array Value) (p : Int → Bool) (xs : List Int) (w : World) : Prop :=
  ∀ x ∈ xs, ∀ W, Below w.heap.size w W → Calls Try.prog g (#[.int .i64 x] ++ lb) W fun e w' => e = .returned (.bool (p x)) ∧ Below w.heap.size w w'
def idxOf {α : Type} (p : α → Bool) (xs : List α) : Int := if xs.any p then (xs.findIdx p : Int) else -1
theorem idxOf_hit {α : Type} {p : α → Bool} {xs : List α} {k : Nat} (hk : k < xs.length) (hp : p xs[k] = true) (h : ∀ j (hj : j < k), p (xs[j]'(by omega)) = false) : idxOf p xs = k := by
  unfold idxOf
  have ha : xs.any p = true := List.any_eq_true.2 ⟨_, List.getElem_mem hk, hp⟩
  rw [if_pos ha]
  congr 1
  rw [List.findIdx_eq hk]
  exact ⟨hp, fun j hj => h j hj⟩
theorem idxOf_miss {α : Type} {p : α → Bool} {xs : List α} (h : ∀ j (hj : j < xs.length), p xs[j] = false) : idxOf p xs = -1 := by
  unfold idxOf
  rw [if_neg]
  rw [List.any_eq_true]
  rintro ⟨x, hx, hp⟩
  obtain ⟨j, hj, rfl⟩ := List.getElem_of_mem hx
  rw [h j hj] at hp
  cases hp
theorem idxOf_ge {α : Type} (p : α → Bool) (xs : List α) : decide (idxOf p xs ≥ 0) = xs.any p := by
  unfold idxOf
  split
  · rename_i h; rw [h]; simp
  · rename_i h; simp only [Bool.not_eq_true] at h; rw [h]; rfl
theorem indexFuncI (A : Option Addr) (n c : Nat) (xs : List Int) (g : Nat) (lb : Array Value) (p : Int → Bool) (w : World)
    (hn : n = xs.length) (hl : xs.length ≤ 9223372036854775807) (h : Rd eI 1 w w.heap.size A xs)
    (eg : ∀ args w, (callFunc g args).run Try.prog w = .ok (.enter g args) w) (hp : PredI g lb p xs w) :
    Calls Try.prog 57 #[.slice A n c, .func (.func g) #[] lb] w fun e w' => e = .returned (.int .i64 (idxOf p xs)) ∧ Below w.heap.size w w' := by
  subst hn
  go_enter Try.func57, Try.ntmps57
  go_wp2
  go_loopg [5, 8] xs.length (fun gg _ s8 wr => ∃ k : Nat, k ≤ xs.length ∧ xs.length - k ≤ gg ∧ s8 = .int .i64 k ∧ Keep (Below w.heap.size w wr) ∧ Keep (∀ j (hj : j < xs.length), j < k → p xs[j] = false))
  case atStart => exact ⟨0, Nat.zero_le _, by omega, rfl, ⟨Below.refl _ w⟩, ⟨fun j _ hj => absurd hj (Nat.not_lt_zero _)⟩⟩
  case round =>
    obtain ⟨k, hk, hg, rfl, BW, HA⟩ := hrel
    by_cases hlt : k < xs.length
    · obtain ⟨ad, rfl, hb, hc⟩ := h.int k hlt
      have hc' := cell_below hc BW.out (by rw [add_block]; exact hb)
      have hcall := hp xs[k] (List.getElem_mem hlt) wr BW.out
      clear hc h hp
      generalize hx : xs[k] = x at *
      have Hx := Lib.hid hx
      clear hx
      have i1 : (0:Int) ≤ k := by omega
      have i2 : (k : Int) < xs.length := by omega
      cases hq : p x with
      | true =>
        rw [hq] at hcall
        have Hq := Lib.hid hq
        clear hq
        go_wp2_with (go_at_fn g; refine hcall.mono ?_; rintro e w' ⟨rfl, hb'⟩)
        go_ret
        refine ⟨?_, hb'⟩
        rw [idxOf_hit hlt (by rw [Hx.out]; exact Hq.out) (fun j hj => HA.out j (by omega) hj)]
        rfl
      | false =>
        rw [hq] at hcall
        have Hq := Lib.hid hq
        clear hq
        go_wp2_with (go_at_fn g; refine hcall.mono ?_; rintro e w' ⟨rfl, hb'⟩)
        go_roundg (xs.length - (k + 1))
        case measure => omega
        case rel =>
          refine ⟨k + 1, by omega, by omega, by go_num, ⟨hb'⟩, ⟨fun j hj hjk => ?_⟩⟩
          by_cases e : j = k
          · subst e; rw [Hx.out]; exact Hq.out
          · exact HA.out j hj (by omega)
    · go_wp2
      go_ret
      refine ⟨?_, BW.out⟩
      rw [idxOf_miss (fun j hj => HA.out j hj (by omega))]
      rfl
theorem containsFuncI (A : Option Addr) (n c : Nat) (xs : List Int) (g : Nat) (lb : Array Value) (p : Int → Bool) (w : World)
    (hn : n = xs.length) (hl : xs.length ≤ 9223372036854775807) (h : Rd eI 1 w w.heap.size A xs)
    (eg : ∀ args w, (callFunc g args).run Try.prog w = .ok (.enter g args) w) (hp : PredI g lb p xs w) :
    Calls Try.prog 52 #[.slice A n c, .func (.func g) #[] lb] w fun e w' => e = .returned (.bool (xs.any p)) ∧ Below w.heap.size w w' := by
  rw [← idxOf_ge]
  subst hn
  go_enter Try.func52, Try.ntmps52
  go_wp2_with (go_at_call 57; refine (indexFuncI A _ c xs g lb p _ rfl hl h eg hp).mono ?_; rintro e w' ⟨rfl, hb'⟩)
  go_ret
  exact ⟨by simp, hb'⟩
def prV (p : Pr) (A : Option Addr) (c : Nat) : Value := .agg #[.int .i64 p.head, .slice A p.body.length c, .bool p.right]
def PredP (g : Nat) (lb : Array Value) (q : Pr → Bool) (ps : List Pr) (w : World) : Prop :=
  ∀ p ∈ ps, ∀ A c, Rd eI 1 w w.heap.size A p.body → ∀ W, Below w.heap.size w W → Calls Try.prog g (#[prV p A c] ++ lb) W fun e w' => e = .returned (.bool (q p)) ∧ Below w.heap.size w w'
theorem indexFuncP (A : Option Addr) (n c : Nat) (ps : List Pr) (g : Nat) (lb : Array Value) (q : Pr → Bool) (w : World)
    (hn : n = ps.length) (hl : ps.length ≤ 9223372036854775807) (h : RdP w w.heap.size A ps)
    (eg : ∀ args w, (callFunc g args).run Try.prog w = .ok (.enter g args) w) (hp : PredP g lb q ps w) :
    Calls Try.prog 51 #[.slice A n c, .func (.func g) #[] lb] w fun e w' => e = .returned (.int .i64 (idxOf q ps)) ∧ Below w.heap.size w w' := by
  subst hn
  go_enter Try.func51, Try.ntmps51
  go_wp2
  go_loopg [5, 8] ps.length (fun gg _ s8 wr => ∃ k : Nat, k ≤ ps.length ∧ ps.length - k ≤ gg ∧ s8 = .int .i64 k ∧ Keep (Below w.heap.size w wr) ∧ Keep (∀ j (hj : j < ps.length), j < k → q ps[j] = false))
  case atStart => exact ⟨0, Nat.zero_le _, by omega, rfl, ⟨Below.refl _ w⟩, ⟨fun j _ hj => absurd hj (Nat.not_lt_zero _)⟩⟩
  case round =>
    obtain ⟨k, hk, hg, rfl, BW, HA⟩ := hrel
    by_cases hlt : k < ps.length
    · obtain ⟨ad, Ab, cb, rfl, hb, c0, c1, c2, hlb, hr⟩ := h k hlt
      replace c0 := cell_below c0 BW.out (by rw [add_block]; exact hb)
      replace c1 := cell_below c1 BW.out (by show (ad.add _).block < _; rw [add_block]; exact hb)
      replace c2 := cell_below c2 BW.out (by show (ad.add _).block < _; rw [add_block]; exact hb)
      have hcall := hp ps[k] (List.getElem_mem hlt) Ab cb hr wr BW.out
      clear h hp hr
      unfold prV at hcall
      generalize hx : ps[k] = x at *
      have Hx := Lib.hid hx
      clear hx
      have i1 : (0:Int) ≤ k := by omega
      have i2 : (k : Int) < ps.length := by omega
      cases hq : q x with
      | true =>
        rw [hq] at hcall
        have Hq := Lib.hid hq
        clear hq
        go_wp2_with (go_at_fn g; refine hcall.mono ?_; rintro e w' ⟨rfl, hb'⟩)
        go_ret
        refine ⟨?_, hb'⟩
        rw [idxOf_hit hlt (by rw [Hx.out]; exact Hq.out) (fun j hj => HA.out j (by omega) hj)]
        rfl
      | false =>
        rw [hq] at hcall
        have Hq := Lib.hid hq
        clear hq
        go_wp2_with (go_at_fn g; refine hcall.mono ?_; rintro e w' ⟨rfl, hb'⟩)
        go_roundg (ps.length - (k + 1))
        case measure => omega
        case rel =>
          refine ⟨k + 1, by omega, by omega, by go_num, ⟨hb'⟩, ⟨fun j hj hjk => ?_⟩⟩
          by_cases e : j = k
          · subst e; rw [Hx.out]; exact Hq.out
          · exact HA.out j hj (by omega)
    · go_wp2
      go_ret
      refine ⟨?_, BW.out⟩
      rw [idxOf_miss (fun j hj => HA.out j hj (by omega))]
      rfl
theorem containsFuncP (A : Option Addr) (n c : Nat) (ps : List Pr) (g : Nat) (lb : Array Value) (q : Pr → Bool) (w : World)
    (hn : n = ps.length) (hl : ps.length ≤ 9223372036854775807) (h : RdP w w.heap.size A ps)
    (eg : ∀ args w, (callFunc g args).run Try.prog w = .ok (.enter g args) w) (hp : PredP g lb q ps w) :
    Calls Try.prog 29 #[.slice A n c, .func (.func g) #[] lb] w fun e w' => e = .returned (.bool (ps.any q)) ∧ Below w.heap.size w w' := by
  rw [← idxOf_ge]
  subst hn
  go_enter Try.func29, Try.ntmps29
  go_wp2_with (go_at_call 51; refine (indexFuncP A _ c ps g lb q _ rfl hl h eg hp).mono ?_; rintro e w' ⟨rfl, hb'⟩)
  go_ret
  exact ⟨by simp, hb'⟩
theorem indexB (A : Option Addr) (n c : Nat) (xs : List Bool) (b : Bool) (w : World)
    (hn : n = xs.length) (hl : xs.length ≤ 9223372036854775807) (h : Rd eB 1 w w.heap.size A xs) :
    Calls Try.prog 58 #[.slice A n c, .bool b] w fun e w' => e = .returned (.int .i64 (idxOf (fun x => b == x) xs)) ∧ w = w' := by
  subst hn
  go_enter Try.func58, Try.ntmps58
  go_wp2
  go_loopg [5, 8] xs.length (fun gg _ s8 wr => ∃ k : Nat, k ≤ xs.length ∧ xs.length - k ≤ gg ∧ s8 = .int .i64 k ∧ Keep (wr = w) ∧ Keep (∀ j (hj : j < xs.length), j < k → (b == xs[j]) = false))
  case atStart => exact ⟨0, Nat.zero_le _, by omega, rfl, ⟨rfl⟩, ⟨fun j _ hj => absurd hj (Nat.not_lt_zero _)⟩⟩
  case round =>
    obtain ⟨k, hk, hg, rfl, ⟨rfl⟩, HA⟩ := hrel
    by_cases hlt : k < xs.length
    · obtain ⟨ad, rfl, hb, hc⟩ := h.bool k hlt
      clear h
      generalize hx : xs[k] = x at *
      have Hx := Lib.hid hx
      clear hx
      have i1 : (0:Int) ≤ k := by omega
      have i2 : (k : Int) < xs.length := by omega
      cases hq : (b == x) with
      | true =>
        go_wp2
        go_ret
        refine ⟨?_, rfl⟩
        rw [idxOf_hit hlt (by rw [Hx.out]; exact hq) (fun j hj => HA.out j (by omega) hj)]
        rfl
      | false =>
        go_wp2
        go_roundg (xs.length - (k + 1))
        case measure => omega
        case rel =>
          refine ⟨k + 1, by omega, by omega, by go_num, ⟨rfl⟩, ⟨fun j hj hjk => ?_⟩⟩
          by_cases e : j = k
          · subst e; rw [Hx.out]; exact hq
          · exact HA.out j hj (by omega)
    · go_wp2
      go_ret
      refine ⟨?_, rfl⟩
      rw [idxOf_miss (fun j hj => HA.out j hj (by omega))]
      rfl
theorem containsB (A : Option Addr) (n c : Nat) (xs : List Bool) (b : Bool) (w : World)
    (hn : n = xs.length) (hl : xs.length ≤ 9223372036854775807) (h : Rd eB 1 w w.heap.size A xs) :
    Calls Try.prog 54 #[.slice A n c, .bool b] w fun e w' => e = .returned (.bool (xs.any (fun x => b == x))) ∧ w = w' := by
  rw [← idxOf_ge]
  subst hn
  go_enter Try.func54, Try.ntmps54
  go_wp2_with (go_at_call 58; refine (indexB A _ c xs b _ rfl hl h).mono ?_; rintro e w' ⟨rfl, rfl⟩)
  go_ret
  exact ⟨rfl, rfl⟩
end Go.Proofs.Ytofidghilcbegaa.H
namespace Go.Proofs.Ytofidghilcbegaa.H
open Go.RowKit
set_option linter.unusedVariables false
set_option linter.unusedSimpArgs false
def grV (g : Gr) (A : Option Addr) (c : Nat) : Value := .agg #[.int .i64 g.T, .int .i64 g.S, .int .i64 g.st, .slice A g.ps.length c]
def prCells (p : Pr) (A : Option Addr) (c : Nat) : Array Value := #[.int .i64 p.head, .slice A p.body.length c, .bool p.right]
def sameP (p q : Pr) : Bool := decide (q.head = p.head) && decide (q.body = p.body)
theorem numbers1 (p q : Pr) (Aq Ap : Option Addr) (cq cp : Nat) (gb : Nat) (w : World) (hl : q.body.length ≤ 9223372036854775807)
    (hb : Blk w gb 38 (prCells p Ap cp)) (hq : Rd eI 1 w w.heap.size Aq q.body) (hp : Rd eI 1 w w.heap.size Ap p.body) :
    Calls Try.prog 49 #[prV q Aq cq, .pointer (some ⟨gb, 0, none⟩)] w fun e w' => e = .returned (.bool (sameP p q)) ∧ Below w.heap.size w w' := by
  unfold prV
  have c0 := hb.cell 0
  have c1 := hb.cell 1
  simp [prCells] at c0 c1
  have hlt := hb.lt
  by_cases hh : q.head = p.head
  · have t : ((q.head : Int) == p.head) = true := by simp [hh]
    have Hh := Lib.hid hh
    clear hh
    go_enter Try.func49, Try.ntmps49
    go_wp2_with (go_at_call 50; refine (slicesEqual Aq Ap _ _ cq cp q.body p.body _ rfl rfl hl ?_ ?_).mono ?_; rotate_left 2; rintro e w' ⟨rfl, n, rfl⟩)
    · go_ret
      refine ⟨by simp [sameP, Hh.out], ?_⟩
      exact below_drewN ((Below.refl _ _).alloc (Nat.le_refl _) _) n
    · exact (hq.below ((Below.refl _ _).alloc (Nat.le_refl _) _)).mono (by simp)
    · exact (hp.below ((Below.refl _ _).alloc (Nat.le_refl _) _)).mono (by simp)
  · have t : ((q.head : Int) == p.head) = false := by simp [hh]
    have Hh := Lib.hid hh
    clear hh
    go_enter Try.func49, Try.ntmps49
    go_wp2
    go_ret
    refine ⟨?_, (Below.refl _ _).alloc (Nat.le_refl _) _⟩
    have := Hh.out
    simp [sameP, this]
theorem check1 (q : Pr) (A : Option Addr) (c : Nat) (w : World) (hl : q.body.length ≤ 9223372036854775807) :
    Calls Try.prog 30 #[prV q A c] w fun e w' => e = .returned (.bool (decide (8 < q.body.length))) ∧ Below w.heap.size w w' := by
  unfold prV
  go_enter Try.func30, Try.ntmps30
  go_wp2
  go_ret
  exact ⟨by simp; omega, (Below.refl _ _).alloc (Nat.le_refl _) _⟩
theorem check2 (q : Pr) (A : Option Addr) (c : Nat) (w : World) (hl : q.body.length ≤ 9223372036854775807) :
    Calls Try.prog 31 #[prV q A c] w fun e w' => e = .returned (.bool (decide (q.body.length = 0))) ∧ Below w.heap.size w w' := by
  unfold prV
  go_enter Try.func31, Try.ntmps31
  go_wp2
  go_ret
  exact ⟨by simp; rw [Bool.eq_iff_iff]; simp, (Below.refl _ _).alloc (Nat.le_refl _) _⟩
def symB (S s : Int) : Bool := decide (0 ≤ s) && decide (s < S)
def prodB (T S : Int) (pre : List Pr) (p : Pr) : Bool := decide (T ≤ p.head) && decide (p.head < S) && p.body.all (symB S) && !(pre.any (sameP p))
def headB (g : Gr) : Bool := decide (1 ≤ g.T ∧ g.T ≤ 32 ∧ g.T < g.S ∧ g.S ≤ 64 ∧ g.T ≤ g.st ∧ g.st < g.S ∧ 0 < g.ps.length ∧ g.ps.length ≤ 64)
def okAt (g : Gr) (i : Nat) : Bool := match g.ps[i]? with | some p => prodB g.T g.S (g.ps.take i) p | none => true
def numbersB (g : Gr) : Bool := headB g && (List.range g.ps.length).all (okAt g)
theorem numbersB_head {g : Gr} (h : headB g = false) : numbersB g = false := by simp [numbersB, h]
theorem numbersB_at {g : Gr} {i : Nat} (hi : i < g.ps.length) (h : okAt g i = false) : numbersB g = false := by
  unfold numbersB
  rw [Bool.and_eq_false_iff]
  right
  rw [List.all_eq_false]
  exact ⟨i, List.mem_range.2 hi, by simp [h]⟩
theorem numbersB_all {g : Gr} (hh : headB g = true) (h : ∀ i, i < g.ps.length → okAt g i = true) : numbersB g = true := by
  unfold numbersB
  rw [hh, Bool.true_and, List.all_eq_true]
  exact fun i hi => h i (List.mem_range.1 hi)
theorem numbers_no (g : Gr) (A : Option Addr) (c : Nat) (w : World) (hl : g.ps.length ≤ 9223372036854775807) (hh : headB g = false) :
    Calls Try.prog 28 #[grV g A c] w fun e w' => e = .returned (.bool (numbersB g)) ∧ Below w.heap.size w w' := by
  rw [numbersB_head hh]
  obtain ⟨T, S, st, ps⟩ := g
  simp only [headB, decide_eq_false_iff_not] at hh
  unfold grV
  dsimp only at *
  go_enter Try.func28, Try.ntmps28
  go_wp2
  all_goals first
    | (go_ret; exact ⟨rfl, (Below.refl _ _).alloc (Nat.le_refl _) _⟩)
    | (exfalso; have : ps.length ≠ 0 := by simpa using ‹¬ ps = []›
       omega)
end Go.Proofs.Ytofidghilcbegaa.H
namespace Go.Proofs.Ytofidghilcbegaa.H
open Go.RowKit
set_option linter.unusedVariables false
set_option linter.unusedSimpArgs false
set_option maxRecDepth 100000 in
set_option maxHeartbeats 4000000 in
theorem numbers_yes (g : Gr) (A : Option Addr) (c : Nat) (w : World) (hl : g.ps.length ≤ c) (hbl : ∀ p ∈ g.ps, p.body.length ≤ 9223372036854775807) (hr : RdP w w.heap.size A g.ps) (hh : headB g = true) :
    Calls Try.prog 28 #[grV g A c] w fun e w' => e = .returned (.bool (numbersB g)) ∧ Below w.heap.size w w' := by
  have Hh := Lib.hid hh
  generalize hg : g = G0 at Hh ⊢
  have Hg := Lib.hid hg
  have HP : Keep (∀ i, okAt G0 i = match g.ps[i]? with | some p => prodB g.T g.S (g.ps.take i) p | none => true) := ⟨fun i => by rw [← hg]; rfl⟩
  have HL : Keep (G0.ps.length = g.ps.length) := ⟨by rw [hg]⟩
  rw [show grV G0 A c = grV g A c from by rw [hg]]
  clear hg
  obtain ⟨T, S, st, ps⟩ := g
  simp only [headB, decide_eq_true_eq] at hh
  obtain ⟨h1, h2, h3, h4, h5, h6, h7, h8⟩ := hh
  have h9 : ((ps.length : Int) == 0) = false := by simp; intro e; simp [e] at h7
  unfold grV
  dsimp only at *
  have R0 : Keep (RdP w w.heap.size A ps) := ⟨hr⟩
  have B0 : Keep (∀ p ∈ ps, p.body.length ≤ 9223372036854775807) := ⟨hbl⟩
  clear hr hbl
  go_enter Try.func28, Try.ntmps28
  go_wp2
  go_loopg [56] ps.length (fun gg s56 wr => ∃ k : Nat, k ≤ ps.length ∧ ps.length - k ≤ gg ∧ s56 = .int .i64 k ∧ Keep (Below w.heap.size w wr) ∧ Keep (Blk wr w.heap.size 24 #[.int .i64 T, .int .i64 S, .int .i64 st, .slice A ps.length c]) ∧ Keep (∀ j, j < k → okAt G0 j = true))
  case atStart =>
    refine ⟨0, Nat.zero_le _, by omega, rfl, ⟨(Below.refl _ _).alloc (Nat.le_refl _) _⟩, ⟨?_⟩, ⟨fun j hj => absurd hj (Nat.not_lt_zero _)⟩⟩
    exact Blk.new _ _ _
  case round =>
    obtain ⟨k, hk, hg, rfl, BW, BK, HA⟩ := hrel
    obtain ⟨wo, rfl⟩ : ∃ wo : World, wo = wr := ⟨_, rfl⟩
    by_cases hlt : k < ps.length
    · obtain ⟨ad, Ab, cb, rfl, hb, c0, c1, c2, hlb, hrb⟩ := R0.out k hlt
      replace c0 := cell_below c0 BW.out (by rw [add_block]; exact hb)
      replace c1 := cell_below c1 BW.out (by show (ad.add _).block < _; rw [add_block]; exact hb)
      replace c2 := cell_below c2 BW.out (by show (ad.add _).block < _; rw [add_block]; exact hb)
      have hbl := B0.out _ (List.getElem_mem hlt)
      have HO : Keep (okAt G0 k = prodB T S (ps.take k) ps[k]) := ⟨by rw [HP.out, List.getElem?_eq_getElem hlt]⟩
      generalize hx : ps[k] = p at *
      clear hx
      obtain ⟨hd, bd, rt⟩ := p
      dsimp only at *
      have i1 : (0:Int) ≤ k := by omega
      have i2 : (k : Int) < ps.length := by omega
      have g0 := BK.out.cell 0
      have g1 := BK.out.cell 1
      have g2 := BK.out.cell 2
      have g3 := BK.out.cell 3
      simp at g0 g1 g2 g3
      have hsz := BK.out.lt
      by_cases hhd : T ≤ hd ∧ hd < S
      · obtain ⟨hd1, hd2⟩ := hhd
        go_wp2
        go_loopg [76] bd.length (fun gg s76 w2 => ∃ m : Nat, m ≤ bd.length ∧ bd.length - m ≤ gg ∧ s76 = .int .i64 m ∧ Keep (Below wo.heap.size wo w2) ∧
          Keep (Blk w2 wo.heap.size 38 #[.int .i64 hd, .slice Ab bd.length cb, .bool rt]) ∧ Keep (∀ j (hj : j < bd.length), j < m → symB S bd[j] = true))
        case atStart =>
          exact ⟨0, Nat.zero_le _, by omega, rfl, ⟨(Below.refl _ _).alloc (Nat.le_refl _) _⟩, ⟨Blk.new _ _ _⟩, ⟨fun j _ hj => absurd hj (Nat.not_lt_zero _)⟩⟩
        case round =>
          obtain ⟨m, hm, hgm, rfl, BW2, BP, HS⟩ := hrel
          have BK2 := BK.out.below BW2.out BK.out.lt
          have BW3 : Keep (Below w.heap.size w _) := ⟨below_step BW.out BW2.out BW.out.size⟩
          by_cases hltm : m < bd.length
          · obtain ⟨a2, e2, hb2, hc2⟩ := hrb.int m hltm
            subst e2
            replace hc2 := cell_below hc2 BW3.out (by rw [add_block]; exact hb2)
            generalize hy : bd[m] = y at *
            have Hy := Lib.hid hy
            clear hy
            have j1 : (0:Int) ≤ m := by omega
            have j2 : (m : Int) < bd.length := by omega
            have q1 := BK2.cell 1
            simp at q1
            clear c0 c1 c2 g0 g1 g2 g3
            by_cases hsy : 0 ≤ y ∧ y < S
            · obtain ⟨y1, y2⟩ := hsy
              go_wp2
              go_roundg (bd.length - (m + 1))
              case measure => omega
              case rel =>
                refine ⟨m + 1, by omega, by omega, by go_num, BW2, BP, ⟨fun j hj hjm => ?_⟩⟩
                by_cases e : j = m
                · subst e; rw [Hy.out]; simp [symB, y1, y2]
                · exact HS.out j hj (by omega)
            · go_wp2
              all_goals
                go_ret
                refine ⟨?_, BW3.out⟩
                have hs : symB S y = false := by
                  simp only [symB]
                  rw [← Bool.decide_and]; simp only [decide_eq_false_iff_not]; exact hsy
                have hall : bd.all (symB S) = false := List.all_eq_false.2 ⟨y, by rw [← Hy.out]; exact List.getElem_mem _, by rw [hs]; simp⟩
                have : okAt G0 k = false := by
                  rw [HO.out]
                  simp only [prodB]
                  rw [hall]
                  simp
                rw [numbersB_at (by have := HL.out; omega) this]
                rfl
          · have hall : Keep (bd.all (symB S) = true) := ⟨List.all_eq_true.2 (fun y hy => by
              obtain ⟨j, hj, rfl⟩ := List.getElem_of_mem hy
              exact HS.out j hj (by omega))⟩
            have hany : Keep (okAt G0 k = !((ps.take k).any (sameP ⟨hd, bd, rt⟩))) := ⟨by
              rw [HO.out]
              simp only [prodB, hall.out]
              simp [hd1, hd2]⟩
            have hcall := containsFuncP (some ad) k c (ps.take k) 49 #[.pointer (some ⟨wo.heap.size, 0, none⟩)] (sameP ⟨hd, bd, rt⟩) wr (by rw [List.length_take]; omega) (by rw [List.length_take]; omega)
              (((R0.out.take k).below BW3.out).mono BW3.out.size) (enters_of Try.func49 rfl rfl)
              (fun p' hp' A' c' hr' W hW => (numbers1 ⟨hd, bd, rt⟩ p' A' Ab c' cb wo.heap.size W (B0.out p' (List.mem_of_mem_take hp')) (BP.out.below hW BP.out.lt)
                ((hr'.below hW).mono hW.size) (((hrb.below BW3.out).below (hW.mono BW3.out.size)).mono (Nat.le_trans BW3.out.size hW.size))).mono fun _ _ ⟨he, hb⟩ => ⟨he, below_step hW hb hW.size⟩)
            clear c0 c1 c2 g0 g1 g2 g3
            have q0 := BK2.cell 0
            have q1 := BK2.cell 1
            have q3 := BK2.cell 3
            simp at q0 q1 q3
            have hkc : k ≤ c := by omega
            cases hq : (ps.take k).any (sameP ⟨hd, bd, rt⟩) with
            | true =>
              rw [hq] at hcall
              have HO2 : Keep (okAt G0 k = false) := ⟨by rw [hany.out, hq]; rfl⟩
              clear hq
              go_wp2_with (go_at_call 29; refine hcall.mono ?_; rintro e w' ⟨rfl, hb'⟩)
              go_ret
              refine ⟨?_, below_step BW3.out hb' BW3.out.size⟩
              rw [numbersB_at (by have := HL.out; omega) HO2.out]
              rfl
            | false =>
              rw [hq] at hcall
              have HO2 : Keep (okAt G0 k = true) := ⟨by rw [hany.out, hq]; rfl⟩
              clear hq
              go_wp2_with (go_at_call 29; refine hcall.mono ?_; rintro e w' ⟨rfl, hb'⟩)
              go_roundg (ps.length - (k + 1))
              case measure => omega
              case rel =>
                refine ⟨k + 1, by omega, by omega, by go_num, ⟨below_step BW3.out hb' BW3.out.size⟩, ⟨BK2.below hb' BK2.lt⟩, ⟨fun j hj => ?_⟩⟩
                by_cases e : j = k
                · subst e; exact HO2.out
                · exact HA.out j (by omega)
      · go_wp2
        all_goals
          go_ret
          refine ⟨?_, below_step BW.out ((Below.refl _ _).alloc (Nat.le_refl _) _) BW.out.size⟩
          have : okAt G0 k = false := by
            rw [HO.out]
            simp only [prodB]
            rw [show (decide (T ≤ hd) && decide (hd < S)) = false from by rw [← Bool.decide_and]; simp only [decide_eq_false_iff_not]; exact hhd]
            rfl
          rw [numbersB_at (by have := HL.out; omega) this]
          rfl
    · go_wp2
      go_ret
      refine ⟨?_, BW.out⟩
      rw [numbersB_all Hh.out (fun i hi => HA.out i (by have := HL.out; omega))]
      rfl
end Go.Proofs.Ytofidghilcbegaa.H
namespace Go.Proofs.Ytofidghilcbegaa.H
open Go.RowKit
set_option linter.unusedVariables false
set_option linter.unusedSimpArgs false
def gb (xs : List Bool) (i : Int) : Bool := xs.getD i.toNat false
structure Us where
  come : List Bool
  good : List Bool
  more : Bool
def comeIn (h : Int) (u : Us) (s : Int) : Us := if gb u.come h && !(gb u.come s) then { u with come := u.come.set s.toNat true, more := true } else u
def goodIn (p : Pr) (u : Us) : Us := if !(gb u.good p.head) && !(p.body.any fun s => !(gb u.good s)) then { u with good := u.good.set p.head.toNat true, more := true } else u
def usedStep (u : Us) (p : Pr) : Us := p.body.foldl (comeIn p.head) (goodIn p u)
def usedRound (ps : List Pr) (u : Us) : Us := ps.foldl usedStep { u with more := false }
def usedLoop (ps : List Pr) : Nat → Us → Us
  | 0, u => u
  | k + 1, u => if u.more then usedLoop ps k (usedRound ps u) else u
def falses (u : Us) : Nat := u.come.count false + u.good.count false
def used0 (g : Gr) : Us := ⟨(List.replicate g.S.toNat false).set g.st.toNat true, List.replicate g.T.toNat true ++ List.replicate (g.S.toNat - g.T.toNat) false, true⟩
def usedEnd (g : Gr) : Us := usedLoop g.ps (2 * g.S.toNat + 1) (used0 g)
def usedB (g : Gr) : Bool := !((usedEnd g).come.drop g.T.toNat).any (fun x => false == x) && !(usedEnd g).good.any (fun x => false == x)
theorem count_set_lt (l : List Bool) : ∀ i, l.getD i true = false → (l.set i true).count false + 1 = l.count false := by
  induction l with
  | nil => intro i h; simp at h
  | cons b l ih =>
    intro i h
    cases i with
    | zero => simp at h; subst h; simp
    | succ i =>
      have := ih i (by simpa using h)
      simp only [List.set_cons_succ, List.count_cons]
      omega
theorem gb_false_in {l : List Bool} {s : Int} (h : s.toNat < l.length) (hf : gb l s = false) : l.getD s.toNat true = false := by
  unfold gb at hf
  rw [List.getD_eq_getElem?_getD, List.getElem?_eq_getElem h] at hf ⊢
  exact hf
structure UsLe (n : Nat) (u v : Us) : Prop where
  c : v.come.length = n
  g : v.good.length = n
  le : falses v ≤ falses u
  new : v.more = true → u.more = true ∨ falses v < falses u
theorem UsLe.trans {n : Nat} {a b c : Us} (h : UsLe n a b) (k : UsLe n b c) : UsLe n a c := by
  refine ⟨k.c, k.g, Nat.le_trans k.le h.le, fun hm => ?_⟩
  rcases k.new hm with h1 | h1
  · rcases h.new h1 with h2 | h2
    · exact .inl h2
    · exact .inr (Nat.lt_of_le_of_lt k.le h2)
  · exact .inr (Nat.lt_of_lt_of_le h1 h.le)
theorem comeIn_le {n : Nat} {h s : Int} {u : Us} (hc : u.come.length = n) (hg : u.good.length = n) (hs : s.toNat < n) : UsLe n u (comeIn h u s) := by
  unfold comeIn
  split
  · rename_i ht
    simp only [Bool.and_eq_true, Bool.not_eq_true'] at ht
    have := count_set_lt u.come s.toNat (gb_false_in (by omega) ht.2)
    exact ⟨by simp [hc], hg, by simp only [falses]; omega, fun _ => .inr (by simp only [falses]; omega)⟩
  · exact ⟨hc, hg, Nat.le_refl _, fun h => .inl h⟩
theorem goodIn_le {n : Nat} {p : Pr} {u : Us} (hc : u.come.length = n) (hg : u.good.length = n) (hs : p.head.toNat < n) : UsLe n u (goodIn p u) := by
  unfold goodIn
  split
  · rename_i ht
    simp only [Bool.and_eq_true, Bool.not_eq_true'] at ht
    have := count_set_lt u.good p.head.toNat (gb_false_in (by omega) ht.1)
    exact ⟨hc, by simp [hg], by simp only [falses]; omega, fun _ => .inr (by simp only [falses]; omega)⟩
  · exact ⟨hc, hg, Nat.le_refl _, fun h => .inl h⟩
theorem comeAll_le {n : Nat} {h : Int} (l : List Int) : ∀ {u : Us}, u.come.length = n → u.good.length = n → (∀ s ∈ l, s.toNat < n) → UsLe n u (l.foldl (comeIn h) u) := by
  induction l with
  | nil => intro u hc hg _; exact ⟨hc, hg, Nat.le_refl _, fun h => .inl h⟩
  | cons s l ih =>
    intro u hc hg hs
    have h1 := comeIn_le (h := h) hc hg (hs s (by simp))
    exact h1.trans (ih h1.c h1.g (fun s hs' => hs s (by simp [hs'])))
def PrIn (n : Nat) (p : Pr) : Prop := 0 ≤ p.head ∧ p.head.toNat < n ∧ ∀ s ∈ p.body, 0 ≤ s ∧ s.toNat < n
theorem usedStep_le {n : Nat} {p : Pr} {u : Us} (hc : u.come.length = n) (hg : u.good.length = n) (hp : PrIn n p) : UsLe n u (usedStep u p) := by
  have h1 := goodIn_le hc hg hp.2.1
  exact h1.trans (comeAll_le p.body h1.c h1.g (fun s hs => (hp.2.2 s hs).2))
theorem usedAll_le {n : Nat} (l : List Pr) : ∀ {u : Us}, u.come.length = n → u.good.length = n → (∀ p ∈ l, PrIn n p) → UsLe n u (l.foldl usedStep u) := by
  induction l with
  | nil => intro u hc hg _; exact ⟨hc, hg, Nat.le_refl _, fun h => .inl h⟩
  | cons p l ih =>
    intro u hc hg hs
    have h1 := usedStep_le hc hg (hs p (by simp))
    exact h1.trans (ih h1.c h1.g (fun s hs' => hs s (by simp [hs'])))
theorem usedRound_le {n : Nat} {ps : List Pr} {u : Us} (hc : u.come.length = n) (hg : u.good.length = n) (hp : ∀ p ∈ ps, PrIn n p) :
    (usedRound ps u).come.length = n ∧ (usedRound ps u).good.length = n ∧ ((usedRound ps u).more = true → falses (usedRound ps u) < falses u) := by
  have h := usedAll_le (n := n) ps (u := { u with more := false }) hc hg hp
  refine ⟨h.c, h.g, fun hm => ?_⟩
  rcases h.new hm with h1 | h1
  · cases h1
  · exact h1
structure UW (w wr : World) (gv : Array Value) (gC gX gG n : Nat) (come good : List Bool) : Prop where
  bw : Below w.heap.size w wr
  bg : Blk wr w.heap.size 24 gv
  bc : Blk wr gC 4 (bools come)
  bx : Blk wr gX 45 #[.slice (some ⟨gG, 0, none⟩) n n]
  bd : Blk wr gG 4 (bools good)
  ne : gC ≠ gG
  nx : gX ≠ gC ∧ gX ≠ gG
  gc : w.heap.size < gC
  gx : w.heap.size < gX
  gg : w.heap.size < gG
  lc : come.length = n
  lg : good.length = n
theorem UW.start {w wr : World} {gv : Array Value} {gC gX gG n : Nat} (bx : Blk wr gX 45 #[.slice (some ⟨gG, 0, none⟩) n n])
    (bc : Blk wr gC 4 (bools (List.replicate n false))) (bd : Blk wr gG 4 (bools (List.replicate n false))) (bg : Blk wr w.heap.size 24 gv) (bw : Below w.heap.size w wr)
    (ne : gC ≠ gG ∧ (gX ≠ gC ∧ gX ≠ gG) ∧ w.heap.size < gC ∧ w.heap.size < gX ∧ w.heap.size < gG) : UW w wr gv gC gX gG n (List.replicate n false) (List.replicate n false) :=
  ⟨bw, bg, bc, bx, bd, ne.1, ne.2.1, ne.2.2.1, ne.2.2.2.1, ne.2.2.2.2, by simp, by simp⟩
section
variable {w wr w' : World} {gv : Array Value} {gC gX gG n : Nat} {come good : List Bool}
theorem UW.below (h : UW w wr gv gC gX gG n come good) (hb : Below wr.heap.size wr w') : UW w w' gv gC gX gG n come good :=
  ⟨below_step h.bw hb h.bw.size, h.bg.below hb h.bg.lt, h.bc.below hb h.bc.lt, h.bx.below hb h.bx.lt, h.bd.below hb h.bd.lt, h.ne, h.nx, h.gc, h.gx, h.gg, h.lc, h.lg⟩
theorem UW.alloc (h : UW w wr gv gC gX gG n come good) (o : Obj) : UW w (wr.alloc o) gv gC gX gG n come good := h.below ((Below.refl _ _).alloc (Nat.le_refl _) o)
theorem UW.setC (h : UW w wr gv gC gX gG n come good) (i : Nat) (b : Bool) : UW w (wr.setCell ⟨gC, i, none⟩ (.bool b)) gv gC gX gG n (come.set i b) good := by
  refine ⟨h.bw.setCell (by show w.heap.size ≤ gC; have := h.gc; omega) _, h.bg.far (by show _ ≠ gC; have := h.gc; omega) _, ?_, h.bx.far h.nx.1 _, h.bd.far (fun e => h.ne e.symm) _, h.ne, h.nx, h.gc, h.gx, h.gg, by simp [h.lc], h.lg⟩
  have := h.bc.set_ i (.bool b)
  rwa [bools_set] at this
theorem UW.setG (h : UW w wr gv gC gX gG n come good) (i : Nat) (b : Bool) : UW w (wr.setCell ⟨gG, i, none⟩ (.bool b)) gv gC gX gG n come (good.set i b) := by
  refine ⟨h.bw.setCell (by show w.heap.size ≤ gG; have := h.gg; omega) _, h.bg.far (by show _ ≠ gG; have := h.gg; omega) _, h.bc.far h.ne _, h.bx.far h.nx.2 _, ?_, h.ne, h.nx, h.gc, h.gx, h.gg, h.lc, by simp [h.lg]⟩
  have := h.bd.set_ i (.bool b)
  rwa [bools_set] at this
end
theorem fill_set (k n : Nat) (h : k < n) : (List.replicate k true ++ List.replicate (n - k) false).set k true = List.replicate (k + 1) true ++ List.replicate (n - (k + 1)) false := by
  rw [List.set_append_right _ _ (by simp), List.length_replicate, Nat.sub_self, show n - k = (n - (k + 1)) + 1 from by omega, List.replicate_succ, List.set_cons_zero, List.replicate_succ']
  simp
theorem usedLoop_done (ps : List Pr) (k : Nat) (u : Us) (h : u.more = false) : usedLoop ps k u = u := by
  cases k with
  | zero => rfl
  | succ k => simp [usedLoop, h]
theorem usedLoop_go (ps : List Pr) (k : Nat) (u : Us) (h : u.more = true) : usedLoop ps (k + 1) u = usedLoop ps k (usedRound ps u) := by simp [usedLoop, h]
theorem bools_gb (xs : List Bool) (i : Nat) (h : i < xs.length) : (bools xs)[i]? = some (.bool (gb xs (i : Int))) := by rw [bools_at xs i h]; simp [gb, h]
theorem used1 (gX gG n : Nat) (xs : List Bool) (s : Int) (w : World)
    (hx : Blk w gX 45 #[.slice (some ⟨gG, 0, none⟩) n n]) (hd : Blk w gG 4 (bools xs)) (hn : xs.length = n) (h0 : 0 ≤ s) (h1 : s.toNat < n) :
    Calls Try.prog 53 #[.int .i64 s, .pointer (some ⟨gX, 0, none⟩)] w fun e w' => e = .returned (.bool (!(gb xs s))) ∧ w' = w := by
  obtain ⟨k, rfl⟩ := Int.eq_ofNat_of_zero_le h0
  have hk : k < xs.length := by omega
  have c0 := hx.cell 0
  simp at c0
  have c1 := hd.cell k
  rw [bools_at xs k hk] at c1
  have e : gb xs (k : Int) = xs[k] := by simp [gb, hk]
  rw [e]
  generalize xs[k] = b at *
  have i2 : (k : Int) < n := by omega
  clear e hn hd hx
  go_enter Try.func53, Try.ntmps53
  go_wp2
  go_ret
  exact ⟨rfl, rfl⟩
end Go.Proofs.Ytofidghilcbegaa.H
namespace Go.Proofs.Ytofidghilcbegaa.H
open Go.RowKit
set_option linter.unusedVariables false
set_option linter.unusedSimpArgs false
theorem info_bool : (Try.prog.info? 4).map (fun i => (i.zero, i.size, i.bytes)) = some (some (.bool false), 1, 1) := by kernel_rfl
structure GrOk (g : Gr) : Prop where
  t0 : 1 ≤ g.T
  t1 : g.T ≤ 32
  s0 : g.T < g.S
  s1 : g.S ≤ 64
  st0 : g.T ≤ g.st
  st1 : g.st < g.S
  n0 : 0 < g.ps.length
  n1 : g.ps.length ≤ 64
  pr : ∀ p ∈ g.ps, g.T ≤ p.head ∧ p.head < g.S ∧ ∀ s ∈ p.body, 0 ≤ s ∧ s < g.S
set_option maxRecDepth 100000 in
set_option maxHeartbeats 4000000 in
theorem used_any (g : Gr) (A : Option Addr) (c : Nat) (w : World) (hbl : ∀ p ∈ g.ps, p.body.length ≤ 9223372036854775807) (hr : RdP w w.heap.size A g.ps) (ok : GrOk g) :
    Calls Try.prog 32 #[grV g A c] w fun e w' => e = .returned (.bool (usedB g)) ∧ Below w.heap.size w w' := by
  obtain ⟨T, S, st, ps⟩ := g
  obtain ⟨t0, t1, s0, s1, st0, st1, n0, n1, pr⟩ := ok
  dsimp only at *
  obtain ⟨t, rfl⟩ := Int.eq_ofNat_of_zero_le (show 0 ≤ T by omega)
  obtain ⟨n, rfl⟩ := Int.eq_ofNat_of_zero_le (show 0 ≤ S by omega)
  obtain ⟨a, rfl⟩ := Int.eq_ofNat_of_zero_le (show 0 ≤ st by omega)
  have R0 : Keep (RdP w w.heap.size A ps) := ⟨hr⟩
  have B0 : Keep (∀ p ∈ ps, p.body.length ≤ 9223372036854775807) := ⟨hbl⟩
  have P0 : Keep (∀ p ∈ ps, PrIn n p) := ⟨fun p hp => ⟨by have := pr p hp; omega, by have := pr p hp; omega, fun s hs => by have := (pr p hp).2.2 s hs; omega⟩⟩
  clear hr hbl pr
  generalize hG : usedB ⟨t, n, a, ps⟩ = RES
  have HG : Keep (usedB ⟨t, n, a, ps⟩ = RES) := ⟨hG⟩
  clear hG
  unfold grV
  dsimp only
  have hmk := @run_make_row' Try.prog 45 4 (.bool false) 1 Try.underlying45 info_bool rfl .i64 .i64 n (by omega) (by omega)
  simp only [madeCells_bools] at hmk
  go_enter Try.func32, Try.ntmps32
  go_upto_region 1 with fail
  go_cut [3, 4] (fun s3 s4 wx => ∃ gC gX gG : Nat, s3 = .slice (some ⟨gC, 0, none⟩) n n ∧ s4 = .pointer (some ⟨gX, 0, none⟩) ∧
    Keep (UW w wx #[.int .i64 t, .int .i64 n, .int .i64 a, .slice A ps.length c] gC gX gG n (List.replicate n false) (List.replicate n false)))
  case first =>
    go_region
    all_goals (go_wp2_with fail; go_meet)
    all_goals first
      | (refine ⟨_, _, w.heap.size + 1, rfl, rfl, ⟨UW.start ?_ ?_ ?_ ?_ ?_ (by simp; try omega)⟩⟩
         · (repeat first | ((with_reducible refine Blk.newAt ?_); simp; done) | (with_reducible refine Blk.drew ?_) | (with_reducible refine Blk.alloc ?_ _)); done
         · (repeat first | ((with_reducible refine Blk.newAt ?_); simp; done) | (with_reducible refine Blk.drew ?_) | (with_reducible refine Blk.alloc ?_ _)); done
         · (repeat first | ((with_reducible refine Blk.newAt ?_); simp; done) | (with_reducible refine Blk.drew ?_) | (with_reducible refine Blk.alloc ?_ _)); done
         · (repeat first | ((with_reducible refine Blk.newAt ?_); simp; done) | (with_reducible refine Blk.drew ?_) | (with_reducible refine Blk.alloc ?_ _)); done
         · exact below_drew1 ((((Below.refl _ _).alloc (by simp) _).alloc (by simp; try omega) _).alloc (by simp; try omega) _ |>.alloc (by simp; try omega) _))
      | (refine ⟨_, _, w.heap.size + 1 + 1, rfl, rfl, ⟨UW.start ?_ ?_ ?_ ?_ ?_ (by simp; try omega)⟩⟩
         · (repeat first | ((with_reducible refine Blk.newAt ?_); simp; done) | (with_reducible refine Blk.drew ?_) | (with_reducible refine Blk.alloc ?_ _)); done
         · (repeat first | ((with_reducible refine Blk.newAt ?_); simp; done) | (with_reducible refine Blk.drew ?_) | (with_reducible refine Blk.alloc ?_ _)); done
         · (repeat first | ((with_reducible refine Blk.newAt ?_); simp; done) | (with_reducible refine Blk.drew ?_) | (with_reducible refine Blk.alloc ?_ _)); done
         · (repeat first | ((with_reducible refine Blk.newAt ?_); simp; done) | (with_reducible refine Blk.drew ?_) | (with_reducible refine Blk.alloc ?_ _)); done
         · exact below_drew1 ((((Below.refl _ _).alloc (by simp) _).alloc (by simp; try omega) _).alloc (by simp; try omega) _ |>.alloc (by simp; try omega) _))
      | (refine ⟨_, _, w.heap.size + 1 + 1 + 1, rfl, rfl, ⟨UW.start ?_ ?_ ?_ ?_ ?_ (by simp; try omega)⟩⟩
         · (repeat first | ((with_reducible refine Blk.newAt ?_); simp; done) | (with_reducible refine Blk.drew ?_) | (with_reducible refine Blk.alloc ?_ _)); done
         · (repeat first | ((with_reducible refine Blk.newAt ?_); simp; done) | (with_reducible refine Blk.drew ?_) | (with_reducible refine Blk.alloc ?_ _)); done
         · (repeat first | ((with_reducible refine Blk.newAt ?_); simp; done) | (with_reducible refine Blk.drew ?_) | (with_reducible refine Blk.alloc ?_ _)); done
         · (repeat first | ((with_reducible refine Blk.newAt ?_); simp; done) | (with_reducible refine Blk.drew ?_) | (with_reducible refine Blk.alloc ?_ _)); done
         · exact below_drew1 ((((Below.refl _ _).alloc (by simp) _).alloc (by simp; try omega) _).alloc (by simp; try omega) _ |>.alloc (by simp; try omega) _))
  case rest =>
    obtain ⟨gC, gX, gG, rfl, rfl, U⟩ := hcut
    have g2 := U.out.bg.cell 2
    have g0 := U.out.bg.cell 0
    simp at g0 g2
    have cc := U.out.bc.cell a
    rw [bools_at _ a (by simp; omega)] at cc
    have cf := U.out.bc.frozen a
    have i1 : (a : Int) < n := by omega
    go_wp2
    have U2 : Keep (UW w (wc.setCell ⟨gC, a, none⟩ (.bool true)) #[.int .i64 t, .int .i64 n, .int .i64 a, .slice A ps.length c] gC gX gG n ((List.replicate n false).set a true) (List.replicate 0 true ++ List.replicate (n - 0) false)) := ⟨U.out.setC a true⟩
    clear g0 g2 cc cf U
    go_loopg [23] t (fun gg s23 wr => ∃ k : Nat, k ≤ t ∧ t - k ≤ gg ∧ s23 = .int .i64 k ∧
      Keep (UW w wr #[.int .i64 t, .int .i64 n, .int .i64 a, .slice A ps.length c] gC gX gG n ((List.replicate n false).set a true) (List.replicate k true ++ List.replicate (n - k) false)))
    case atStart => exact ⟨0, Nat.zero_le _, by omega, rfl, U2⟩
    case round =>
      clear U2
      obtain ⟨k, hk, hg, rfl, U⟩ := hrel
      by_cases hlt : k < t
      · have cc := U.out.bd.cell k
        rw [bools_at _ k (by simp; omega)] at cc
        have cf := U.out.bd.frozen k
        have cx := U.out.bx.cell 0
        simp at cx
        have i2 : (k : Int) < n := by omega
        go_wp2
        go_roundg (t - (k + 1))
        case measure => omega
        case rel =>
          refine ⟨k + 1, by omega, by omega, by go_num, ⟨?_⟩⟩
          have := U.out.setG k true
          rwa [fill_set k n (by omega)] at this
      · have ek : k = t := by omega
        subst ek
        go_wp2
        have HS : Keep (usedLoop ps (2 * n + 1) ⟨(List.replicate n false).set a true, List.replicate k true ++ List.replicate (n - k) false, true⟩ = usedEnd ⟨k, n, a, ps⟩) := ⟨by simp [usedEnd, used0]⟩
        have HF0 : Keep (true = true → falses ⟨(List.replicate n false).set a true, List.replicate k true ++ List.replicate (n - k) false, true⟩ < 2 * n + 1) := ⟨fun _ => by
          have h1 := List.count_le_length (l := (List.replicate n false).set a true) (a := false)
          have h2 := List.count_le_length (l := List.replicate k true ++ List.replicate (n - k) false) (a := false)
          simp only [List.length_set, List.length_append, List.length_replicate] at h1 h2
          simp only [falses]; omega⟩
        clear i1 hg
        go_loopg [6] (2 * n + 1) (fun gg s6 wr => ∃ u : Us, s6 = .bool u.more ∧ Keep (u.more = true → falses u < gg) ∧
          Keep (UW w wr #[.int .i64 k, .int .i64 n, .int .i64 a, .slice A ps.length c] gC gX gG n u.come u.good) ∧ Keep (usedLoop ps gg u = usedEnd ⟨k, n, a, ps⟩))
        case atStart => exact ⟨_, rfl, HF0, U, HS⟩
        case round =>
          clear U HS HF0
          obtain ⟨⟨come, good, more⟩, rfl, HF, U, HL⟩ := hrel
          dsimp only at *
          cases more with
          | false =>
            replace HL := HL.out
            rw [usedLoop_done _ _ _ rfl] at HL
            have HE : Keep (RES = (!(come.drop k).any (fun x => false == x) && !good.any (fun x => false == x))) := ⟨by
              rw [← HG.out]; simp only [usedB, ← HL]; simp⟩
            clear HL
            have h0 := U.out.bg.cell 0
            have hx := U.out.bx.cell 0
            simp at h0 hx
            have k1 := containsB (some ⟨gC, k, none⟩) (n - k) (n - k) (come.drop k) false wr (by rw [List.length_drop, U.out.lc]) (by rw [List.length_drop, U.out.lc]; omega) (rd_bools_drop k U.out.bc U.out.bc.lt)
            have k2 := containsB (some ⟨gG, 0, none⟩) n n good false wr U.out.lg.symm (by rw [U.out.lg]; omega) (rd_bools U.out.bd U.out.bd.lt)
            cases hq : (come.drop k).any (fun x => false == x) with
            | true =>
              rw [hq] at k1 HE
              clear hq k2
              go_wp2_with (go_at_call 54; refine k1.mono ?_; rintro e w' ⟨rfl, rfl⟩)
              go_ret
              exact ⟨by rw [HE.out]; rfl, U.out.bw⟩
            | false =>
              rw [hq] at k1 HE
              clear hq
              generalize good.any (fun x => false == x) = gq at k2 HE
              go_wp2_with (first
                | (go_at_call_of 54 (Value.slice (some ⟨gC, k, none⟩) (n - k) (n - k)); refine k1.mono ?_; rintro e w' ⟨rfl, rfl⟩)
                | (go_at_call_of 54 (Value.slice (some ⟨gG, 0, none⟩) n n); refine k2.mono ?_; rintro e w' ⟨rfl, rfl⟩))
              go_ret
              exact ⟨by rw [HE.out]; rfl, U.out.bw⟩
          | true =>
            obtain ⟨fu, rfl⟩ : ∃ m, gk = m + 1 := ⟨gk - 1, by have := HF.out rfl; omega⟩
            replace HL := HL.out
            rw [usedLoop_go _ _ _ rfl] at HL
            have HL2 := Keep.mk HL
            have HR := Keep.mk (usedRound_le (n := n) (u := ⟨come, good, true⟩) U.out.lc U.out.lg P0.out)
            clear HL
            have h3 := U.out.bg.cell 3
            simp at h3
            obtain ⟨wo, rfl⟩ : ∃ wo : World, wo = wr := ⟨_, rfl⟩
            go_wp2
            go_loopg [6, 34] ps.length (fun gg s6 s34 wr => ∃ (m : Nat) (u : Us), m ≤ ps.length ∧ ps.length - m ≤ gg ∧ s6 = .bool u.more ∧ s34 = .int .i64 m ∧
              Keep (u = (ps.take m).foldl usedStep ⟨come, good, false⟩) ∧ Keep (UW w wr #[.int .i64 k, .int .i64 n, .int .i64 a, .slice A ps.length c] gC gX gG n u.come u.good))
            case atStart => exact ⟨0, ⟨come, good, false⟩, Nat.zero_le _, by omega, rfl, rfl, ⟨by simp⟩, U⟩
            case round =>
              clear U h3
              obtain ⟨m, u, hm, hgm, rfl, rfl, HU, U⟩ := hrel
              by_cases hltm : m < ps.length
              · obtain ⟨ad, Ab, cb, rfl, hb, c0, c1, c2, hlb, hrb⟩ := R0.out m hltm
                replace c0 := cell_below c0 U.out.bw (by rw [add_block]; exact hb)
                replace c1 := cell_below c1 U.out.bw (by show (ad.add _).block < _; rw [add_block]; exact hb)
                replace c2 := cell_below c2 U.out.bw (by show (ad.add _).block < _; rw [add_block]; exact hb)
                have hbl := B0.out _ (List.getElem_mem hltm)
                have hpi := Keep.mk (P0.out _ (List.getElem_mem hltm))
                have HU2 : Keep ((ps.take (m + 1)).foldl usedStep ⟨come, good, false⟩ = usedStep u ps[m]) := ⟨by rw [List.take_succ_eq_append_getElem hltm, List.foldl_append, ← HU.out]; rfl⟩
                clear HU
                generalize hx : ps[m] = p at *
                clear hx
                obtain ⟨hd, bd, rt⟩ := p
                dsimp only at *
                obtain ⟨d, rfl⟩ := Int.eq_ofNat_of_zero_le hpi.out.1
                have hdn : (d : Int) < n := by have := hpi.out.2.1; simp at this; omega
                have i1 : (0:Int) ≤ m := by omega
                have i2 : (m : Int) < ps.length := by omega
                obtain ⟨wo, rfl⟩ : ∃ wo : World, wo = wr := ⟨_, rfl⟩
                go_upto_region 14 with fail
                have UP : Keep (UW w (wo.alloc (.cells #[.int .i64 d, .slice Ab bd.length cb, .bool rt] 38)) #[.int .i64 k, .int .i64 n, .int .i64 a, .slice (some ad) ps.length c] gC gX gG n u.come u.good) := ⟨U.out.alloc _⟩
                have BP : Keep (Blk (wo.alloc (.cells #[.int .i64 d, .slice Ab bd.length cb, .bool rt] 38)) wo.heap.size 38 #[.int .i64 d, .slice Ab bd.length cb, .bool rt]) := ⟨Blk.new _ _ _⟩
                have sz : w.heap.size ≤ wo.heap.size := U.out.bw.size
                have np : gC < wo.heap.size ∧ gG < wo.heap.size := ⟨U.out.bc.lt, U.out.bd.lt⟩
                generalize hpb : wo.heap.size = pb at *
                generalize hwp : wo.alloc _ = wp at *
                clear hwp c0 c1 c2 U hpb
                clear wo
                go_cut [50] (fun s50 wx => s50 = .bool (!(gb u.good d) && !(bd.any fun s => !(gb u.good s))) ∧
                  Keep (UW w wx #[.int .i64 k, .int .i64 n, .int .i64 a, .slice (some ad) ps.length c] gC gX gG n u.come u.good) ∧ Keep (Blk wx pb 38 #[.int .i64 d, .slice Ab bd.length cb, .bool rt]))
                case first =>
                  have q0 := BP.out.cell 0
                  have q1 := BP.out.cell 1
                  simp at q0 q1
                  have hx := UP.out.bx.cell 0
                  simp at hx
                  have gd := UP.out.bd.cell d
                  rw [bools_gb _ d (by rw [UP.out.lg]; omega)] at gd
                  have hany := containsFuncI Ab bd.length cb bd 53 #[.pointer (some ⟨gX, 0, none⟩)] (fun s => !(gb u.good s)) wp rfl hbl ((hrb.below UP.out.bw).mono UP.out.bw.size)
                    (enters_of Try.func53 rfl rfl)
                    (fun x hx W hW => (used1 gX gG n u.good x W (UP.out.bx.below hW UP.out.bx.lt) (UP.out.bd.below hW UP.out.bd.lt) UP.out.lg (hpi.out.2.2 x hx).1 (hpi.out.2.2 x hx).2).mono fun _ _ ⟨he, hw⟩ => ⟨he, by rw [hw]; exact hW⟩)
                  generalize hv : gb u.good d = v at gd
                  generalize hv2 : (bd.any fun s => !(gb u.good s)) = v2 at hany
                  have HV := Keep.mk hv
                  have HV2 := Keep.mk hv2
                  clear hv hv2
                  cases v with
                  | true =>
                    go_wp2_with fail
                    go_meet
                    exact ⟨by rw [HV.out]; rfl, UP, BP⟩
                  | false =>
                    go_wp2_with (go_at_call 52; refine hany.mono ?_; rintro e w' ⟨rfl, hb'⟩)
                    go_meet
                    exact ⟨by rw [HV.out, HV2.out]; rfl, ⟨UP.out.below hb'⟩, ⟨BP.out.below hb' BP.out.lt⟩⟩
                case rest =>
                  obtain ⟨rfl, U1, BP1⟩ := hcut
                  clear UP BP
                  go_upto_if 50 with fail
                  go_cut [6] (fun s6 wx => s6 = .bool (goodIn ⟨d, bd, rt⟩ u).more ∧
                    Keep (UW w wx #[.int .i64 k, .int .i64 n, .int .i64 a, .slice (some ad) ps.length c] gC gX gG n (goodIn ⟨d, bd, rt⟩ u).come (goodIn ⟨d, bd, rt⟩ u).good) ∧ Keep (Blk wx pb 38 #[.int .i64 d, .slice Ab bd.length cb, .bool rt]))
                  case first =>
                    generalize hc : (!(gb u.good d) && !(bd.any fun s => !(gb u.good s))) = b
                    cases b with
                    | true =>
                      have e : Keep (goodIn ⟨d, bd, rt⟩ u = { u with good := u.good.set d true, more := true }) := ⟨by unfold goodIn; dsimp only; rw [hc]; simp⟩
                      clear hc
                      have q0 := BP1.out.cell 0
                      have hx := U1.out.bx.cell 0
                      simp at q0 hx
                      have gd := U1.out.bd.cell d
                      rw [bools_at _ d (by rw [U1.out.lg]; omega)] at gd
                      have gf := U1.out.bd.frozen d
                      go_wp2_with fail
                      go_meet
                      rw [e.out]
                      exact ⟨rfl, ⟨U1.out.setG d true⟩, ⟨BP1.out.far (by show pb ≠ gG; omega) _⟩⟩
                    | false =>
                      have e : Keep (goodIn ⟨d, bd, rt⟩ u = u) := ⟨by unfold goodIn; dsimp only; rw [hc]; rfl⟩
                      clear hc
                      go_wp2_with fail
                      go_meet
                      rw [e.out]
                      exact ⟨rfl, U1, BP1⟩
                  case rest =>
                    obtain ⟨rfl, U2, BP2⟩ := hcut
                    clear U1 BP1
                    have HU3 : Keep ((ps.take (m + 1)).foldl usedStep ⟨come, good, false⟩ = bd.foldl (comeIn d) (goodIn ⟨d, bd, rt⟩ u)) := ⟨by rw [HU2.out]; rfl⟩
                    clear HU2
                    generalize goodIn ⟨d, bd, rt⟩ u = u1 at *
                    have q1 := BP2.out.cell 1
                    simp at q1
                    go_wp2
                    go_loopg [6, 58] bd.length (fun gg s6 s58 wr => ∃ (j : Nat) (u : Us), j ≤ bd.length ∧ bd.length - j ≤ gg ∧ s6 = .bool u.more ∧ s58 = .int .i64 j ∧ Keep (u = (bd.take j).foldl (comeIn d) u1) ∧
                      Keep (UW w wr #[.int .i64 k, .int .i64 n, .int .i64 a, .slice (some ad) ps.length c] gC gX gG n u.come u.good) ∧ Keep (Blk wr pb 38 #[.int .i64 d, .slice Ab bd.length cb, .bool rt]))
                    case atStart => exact ⟨0, u1, Nat.zero_le _, by omega, rfl, rfl, ⟨by simp⟩, U2, BP2⟩
                    case round =>
                      clear U2 BP2 q1
                      obtain ⟨j, u2, hj, hgj, rfl, rfl, HV, U, BP⟩ := hrel
                      by_cases hltj : j < bd.length
                      · obtain ⟨a2, rfl, hb2, hc2⟩ := hrb.int j hltj
                        replace hc2 := cell_below hc2 U.out.bw (by rw [add_block]; exact hb2)
                        have hs := hpi.out.2.2 _ (List.getElem_mem hltj)
                        have HV2 : Keep ((bd.take (j + 1)).foldl (comeIn d) u1 = comeIn d u2 bd[j]) := ⟨by rw [List.take_succ_eq_append_getElem hltj, List.foldl_append, ← HV.out]; rfl⟩
                        clear HV
                        generalize hy : bd[j] = y at *
                        clear hy
                        obtain ⟨y, rfl⟩ := Int.eq_ofNat_of_zero_le hs.1
                        have hyn : (y : Int) < n := by have := hs.2; simp at this; omega
                        have j1 : (0:Int) ≤ j := by omega
                        have j2 : (j : Int) < bd.length := by omega
                        have q0 := BP.out.cell 0
                        simp at q0
                        have ca := U.out.bc.cell d
                        rw [bools_gb _ d (by rw [U.out.lc]; omega)] at ca
                        have cb' := U.out.bc.cell y
                        rw [bools_gb _ y (by rw [U.out.lc]; omega)] at cb'
                        have cf := U.out.bc.frozen y
                        have hci : Keep (comeIn d u2 y = if gb u2.come d && !(gb u2.come y) then { u2 with come := u2.come.set y true, more := true } else u2) := ⟨rfl⟩
                        clear hs
                        generalize gb u2.come d = v1 at *
                        generalize gb u2.come y = v2 at *
                        cases v1 with
                        | false =>
                          have e : Keep (comeIn d u2 y = u2) := ⟨by rw [hci.out]; rfl⟩
                          go_wp2
                          go_roundg (bd.length - (j + 1))
                          case measure => omega
                          case rel => exact ⟨j + 1, u2, by omega, by omega, rfl, by go_num, ⟨by rw [HV2.out, e.out]⟩, U, BP⟩
                        | true =>
                          cases v2 with
                          | true =>
                            have e : Keep (comeIn d u2 y = u2) := ⟨by rw [hci.out]; rfl⟩
                            go_wp2
                            go_roundg (bd.length - (j + 1))
                            case measure => omega
                            case rel => exact ⟨j + 1, u2, by omega, by omega, rfl, by go_num, ⟨by rw [HV2.out, e.out]⟩, U, BP⟩
                          | false =>
                            have e : Keep (comeIn d u2 y = { u2 with come := u2.come.set y true, more := true }) := ⟨by rw [hci.out]; rfl⟩
                            go_wp2
                            go_roundg (bd.length - (j + 1))
                            case measure => omega
                            case rel => exact ⟨j + 1, _, by omega, by omega, rfl, by go_num, ⟨by rw [HV2.out, e.out]⟩, ⟨U.out.setC y true⟩, ⟨BP.out.far (by show pb ≠ gC; omega) _⟩⟩
                      · have ej : j = bd.length := by omega
                        subst ej
                        go_wp2
                        go_roundg (ps.length - (m + 1))
                        case measure => omega
                        case rel => exact ⟨m + 1, u2, by omega, by omega, rfl, by go_num, ⟨by rw [HU3.out, HV.out, List.take_length]⟩, U⟩
              · have em : m = ps.length := by omega
                subst em
                go_wp2
                go_roundg fu
                case measure => omega
                case rel =>
                  have hu : u = usedRound ps ⟨come, good, true⟩ := by rw [HU.out, List.take_length]; rfl
                  refine ⟨u, rfl, ⟨fun h => ?_⟩, U, ⟨by rw [hu]; exact HL2.out⟩⟩
                  have h1 := HR.out.2.2
                  rw [← hu] at h1
                  have h2 := HF.out (by first | rfl | trivial)
                  have h3 := h1 h
                  omega
end Go.Proofs.Ytofidghilcbegaa.H
namespace Go.Proofs.Ytofidghilcbegaa.H
open Go.RowKit
set_option linter.unusedVariables false
set_option linter.unusedSimpArgs false
def leads (left : List Bool) (s : Int) (p : Pr) : Bool := decide (p.head = s) && decide (p.body.length = 1) && gb left (p.body.getD 0 0)
structure Ro where
  left : List Bool
  more : Bool
def roundIn (ps : List Pr) (u : Ro) (s : Nat) : Ro := if gb u.left s && !(ps.any (leads u.left s)) then ⟨u.left.set s false, true⟩ else u
def roundRound (ps : List Pr) (T n : Nat) (u : Ro) : Ro := (List.range' T (n - T)).foldl (roundIn ps) ⟨u.left, false⟩
def roundLoop (ps : List Pr) (T n : Nat) : Nat → Ro → Ro
  | 0, u => u
  | k + 1, u => if u.more then roundLoop ps T n k (roundRound ps T n u) else u
def round0 (T n : Nat) : Ro := ⟨List.replicate T false ++ List.replicate (n - T) true, true⟩
def roundEnd (g : Gr) : Ro := roundLoop g.ps g.T.toNat g.S.toNat (g.S.toNat + 1) (round0 g.T.toNat g.S.toNat)
def roundB (g : Gr) : Bool := (roundEnd g).left.any (fun x => true == x)
theorem count_set_true (l : List Bool) : ∀ i, l.getD i false = true → (l.set i false).count true + 1 = l.count true := by
  induction l with
  | nil => intro i h; simp at h
  | cons b l ih =>
    intro i h
    cases i with
    | zero => simp at h; subst h; simp
    | succ i =>
      have := ih i (by simpa using h)
      simp only [List.set_cons_succ, List.count_cons]
      omega
structure RoLe (n : Nat) (u v : Ro) : Prop where
  c : v.left.length = n
  le : v.left.count true ≤ u.left.count true
  new : v.more = true → u.more = true ∨ v.left.count true < u.left.count true
theorem RoLe.trans {n : Nat} {a b c : Ro} (h : RoLe n a b) (k : RoLe n b c) : RoLe n a c := by
  refine ⟨k.c, Nat.le_trans k.le h.le, fun hm => ?_⟩
  rcases k.new hm with h1 | h1
  · rcases h.new h1 with h2 | h2
    · exact .inl h2
    · exact .inr (Nat.lt_of_le_of_lt k.le h2)
  · exact .inr (Nat.lt_of_lt_of_le h1 h.le)
theorem roundIn_le {n : Nat} {ps : List Pr} {u : Ro} {s : Nat} (hc : u.left.length = n) : RoLe n u (roundIn ps u s) := by
  unfold roundIn
  split
  · rename_i ht
    simp only [Bool.and_eq_true] at ht
    have := count_set_true u.left s (by simpa [gb] using ht.1)
    exact ⟨by simp [hc], by dsimp only; omega, fun _ => .inr (by dsimp only; omega)⟩
  · exact ⟨hc, Nat.le_refl _, fun h => .inl h⟩
theorem roundAll_le {n : Nat} {ps : List Pr} (l : List Nat) : ∀ {u : Ro}, u.left.length = n → RoLe n u (l.foldl (roundIn ps) u) := by
  induction l with
  | nil => intro u hc; exact ⟨hc, Nat.le_refl _, fun h => .inl h⟩
  | cons p l ih =>
    intro u hc
    have h1 := roundIn_le (ps := ps) (s := p) hc
    exact h1.trans (ih h1.c)
theorem roundRound_le {n : Nat} {ps : List Pr} {T : Nat} {u : Ro} (hc : u.left.length = n) :
    (roundRound ps T n u).left.length = n ∧ ((roundRound ps T n u).more = true → (roundRound ps T n u).left.count true < u.left.count true) := by
  have h := roundAll_le (n := n) (ps := ps) (List.range' T (n - T)) (u := ⟨u.left, false⟩) hc
  refine ⟨h.c, fun hm => ?_⟩
  rcases h.new hm with h1 | h1
  · cases h1
  · exact h1
theorem roundLoop_done (ps : List Pr) (T n k : Nat) (u : Ro) (h : u.more = false) : roundLoop ps T n k u = u := by
  cases k with
  | zero => rfl
  | succ k => simp [roundLoop, h]
theorem roundLoop_go (ps : List Pr) (T n k : Nat) (u : Ro) (h : u.more = true) : roundLoop ps T n (k + 1) u = roundLoop ps T n k (roundRound ps T n u) := by simp [roundLoop, h]
theorem fill_true (T k n : Nat) (hT : T ≤ k) (h : k < n) : (List.replicate T false ++ List.replicate (k - T) true ++ List.replicate (n - k) false).set k true = List.replicate T false ++ List.replicate (k + 1 - T) true ++ List.replicate (n - (k + 1)) false := by
  rw [List.set_append_right _ _ (by simp; omega), show k - (List.replicate T false ++ List.replicate (k - T) true).length = 0 from by simp; omega, show n - k = (n - (k + 1)) + 1 from by omega, List.replicate_succ, List.set_cons_zero, show k + 1 - T = (k - T) + 1 from by omega, List.replicate_succ' (n := k - T)]
  simp
structure RW (w wr : World) (gv : Array Value) (gX gG n : Nat) (left : List Bool) : Prop where
  bw : Below w.heap.size w wr
  bg : Blk wr w.heap.size 24 gv
  bx : Blk wr gX 45 #[.slice (some ⟨gG, 0, none⟩) n n]
  bd : Blk wr gG 4 (bools left)
  nx : gX ≠ gG
  gx : w.heap.size < gX
  gg : w.heap.size < gG
  lg : left.length = n
section
variable {w wr w' : World} {gv : Array Value} {gX gG n : Nat} {left : List Bool}
theorem RW.below (h : RW w wr gv gX gG n left) (hb : Below wr.heap.size wr w') : RW w w' gv gX gG n left :=
  ⟨below_step h.bw hb h.bw.size, h.bg.below hb h.bg.lt, h.bx.below hb h.bx.lt, h.bd.below hb h.bd.lt, h.nx, h.gx, h.gg, h.lg⟩
theorem RW.alloc (h : RW w wr gv gX gG n left) (o : Obj) : RW w (wr.alloc o) gv gX gG n left := h.below ((Below.refl _ _).alloc (Nat.le_refl _) o)
theorem RW.setG (h : RW w wr gv gX gG n left) (i : Nat) (b : Bool) : RW w (wr.setCell ⟨gG, i, none⟩ (.bool b)) gv gX gG n (left.set i b) := by
  refine ⟨h.bw.setCell (by show w.heap.size ≤ gG; have := h.gg; omega) _, h.bg.far (by show _ ≠ gG; have := h.gg; omega) _, h.bx.far h.nx _, ?_, h.nx, h.gx, h.gg, by simp [h.lg]⟩
  have := h.bd.set_ i (.bool b)
  rwa [bools_set] at this
end
set_option maxHeartbeats 1000000 in
theorem round1 (p : Pr) (Ap : Option Addr) (cp : Nat) (gS gX gG n s : Nat) (left : List Bool) (w : World) (hl : p.body.length ≤ 9223372036854775807)
    (hs : Blk w gS 3 #[.int .i64 s]) (hx : Blk w gX 45 #[.slice (some ⟨gG, 0, none⟩) n n]) (hd : Blk w gG 4 (bools left)) (hn : left.length = n)
    (hp : ∀ y ∈ p.body, 0 ≤ y ∧ y.toNat < n) (hr : Rd eI 1 w w.heap.size Ap p.body) :
    Calls Try.prog 55 #[prV p Ap cp, .pointer (some ⟨gS, 0, none⟩), .pointer (some ⟨gX, 0, none⟩)] w fun e w' => e = .returned (.bool (leads left s p)) ∧ Below w.heap.size w w' := by
  unfold prV
  obtain ⟨hd', bd, rt⟩ := p
  dsimp only at *
  have s0 := hs.cell 0
  have x0 := hx.cell 0
  simp at s0 x0
  have hsl := hs.lt
  have hxl := hx.lt
  have hdl := hd.lt
  by_cases h1 : hd' = s
  · have t1 : ((hd' : Int) == (s : Int)) = true := by simp [h1]
    by_cases h2 : bd.length = 1
    · have t2 : ((bd.length : Int) == 1) = true := by simp [h2]
      have i1 : (0 : Int) < bd.length := by omega
      obtain ⟨ad, rfl, hb, hc⟩ := hr.int 0 (by omega)
      have hy := hp _ (List.getElem_mem (show 0 < bd.length by omega))
      have H : Keep (leads left s ⟨hd', bd, rt⟩ = gb left (bd[0]'(by omega))) := ⟨by simp [leads, h1, h2, show 0 < bd.length by omega]⟩
      generalize bd[0] = y at *
      clear h1 h2 hp
      obtain ⟨y, rfl⟩ := Int.eq_ofNat_of_zero_le hy.1
      have hyn : (y : Int) < n := by have := hy.2; simp at this; omega
      have cd := hd.cell y
      rw [bools_gb _ y (by rw [hn]; omega)] at cd
      clear hr hd hn
      generalize gb left y = v at *
      rw [H.out]
      clear hs hx
      rw [show ad.add 0 = ad from rfl] at hc
      go_enter Try.func55, Try.ntmps55
      go_wp2
      go_quiet (fail)
      go_wp2
      go_ret
      exact ⟨rfl, below_drewN ((Below.refl _ _).alloc (Nat.le_refl _) _) _⟩
    · have t2 : ((bd.length : Int) == 1) = false := by simp; omega
      have H : Keep (leads left s ⟨hd', bd, rt⟩ = false) := ⟨by simp [leads, h2]⟩
      clear h1 h2 hp
      rw [H.out]
      clear hs hx hd hr hn
      go_enter Try.func55, Try.ntmps55
      go_wp2
      go_quiet (fail)
      go_wp2
      go_ret
      exact ⟨rfl, below_drewN ((Below.refl _ _).alloc (Nat.le_refl _) _) _⟩
  · have t1 : ((hd' : Int) == (s : Int)) = false := by simp [h1]
    have H : Keep (leads left s ⟨hd', bd, rt⟩ = false) := ⟨by simp [leads, h1]⟩
    clear h1 hp
    rw [H.out]
    clear hs hx hd hr hn
    go_enter Try.func55, Try.ntmps55
    go_wp2
    go_quiet (fail)
    go_wp2
    go_ret
    exact ⟨rfl, below_drewN ((Below.refl _ _).alloc (Nat.le_refl _) _) _⟩
end Go.Proofs.Ytofidghilcbegaa.H
namespace Go.Proofs.Ytofidghilcbegaa.H
open Go.RowKit
set_option linter.unusedVariables false
set_option linter.unusedSimpArgs false
theorem foldl_range_succ {α : Type} (f : α → Nat → α) (T k : Nat) (hT : T ≤ k) (u : α) : (List.range' T (k + 1 - T)).foldl f u = f ((List.range' T (k - T)).foldl f u) k := by
  rw [show k + 1 - T = (k - T) + 1 from by omega, List.range'_concat, List.foldl_append]
  simp [show T + (k - T) = k from by omega]
set_option maxRecDepth 100000 in
set_option maxHeartbeats 4000000 in
theorem round_any (g : Gr) (A : Option Addr) (c : Nat) (w : World) (hbl : ∀ p ∈ g.ps, p.body.length ≤ 9223372036854775807) (hr : RdP w w.heap.size A g.ps) (ok : GrOk g) :
    Calls Try.prog 33 #[grV g A c] w fun e w' => e = .returned (.bool (roundB g)) ∧ Below w.heap.size w w' := by
  obtain ⟨T, S, st, ps⟩ := g
  obtain ⟨t0, t1, s0, s1, st0, st1, n0, n1, pr⟩ := ok
  dsimp only at *
  obtain ⟨t, rfl⟩ := Int.eq_ofNat_of_zero_le (show 0 ≤ T by omega)
  obtain ⟨n, rfl⟩ := Int.eq_ofNat_of_zero_le (show 0 ≤ S by omega)
  have R0 : Keep (RdP w w.heap.size A ps) := ⟨hr⟩
  have B0 : Keep (∀ p ∈ ps, p.body.length ≤ 9223372036854775807) := ⟨hbl⟩
  have P0 : Keep (∀ p ∈ ps, ∀ y ∈ p.body, 0 ≤ y ∧ y.toNat < n) := ⟨fun p hp s hs => by have := (pr p hp).2.2 s hs; omega⟩
  have LN : ps.length ≤ 9223372036854775807 := by omega
  clear hr hbl pr n0 n1 st0 st1
  generalize hG : roundB ⟨t, n, st, ps⟩ = RES
  have HG : Keep (roundB ⟨t, n, st, ps⟩ = RES) := ⟨hG⟩
  clear hG
  unfold grV
  dsimp only
  have hmk := @run_make_row' Try.prog 45 4 (.bool false) 1 Try.underlying45 info_bool rfl .i64 .i64 n (by omega) (by omega)
  simp only [madeCells_bools] at hmk
  go_enter Try.func33, Try.ntmps33
  go_upto_region 2 with fail
  go_cut [3, 4] (fun s3 s4 wx => ∃ gX gG : Nat, s3 = .pointer (some ⟨gX, 0, none⟩) ∧ s4 = .int .i64 t ∧ Keep (RW w wx #[.int .i64 t, .int .i64 n, .int .i64 st, .slice A ps.length c] gX gG n (List.replicate n false)))
  case first =>
    go_wp2_with fail
    go_meet
    refine ⟨_, w.heap.size + 1, rfl, rfl, ⟨(((Below.refl _ _).alloc (by simp) _).alloc (by simp) _).alloc (by simp; omega) _, ?_, Blk.newAt (by simp), ?_, by omega, by omega, by omega, by simp⟩⟩
    · exact ((Blk.new _ _ _).alloc _).alloc _
    · exact (Blk.newAt (by simp)).alloc _
  case rest =>
    obtain ⟨gX, gG, rfl, rfl, U⟩ := hcut
    have U2 : Keep (RW w wc #[.int .i64 t, .int .i64 n, .int .i64 st, .slice A ps.length c] gX gG n (List.replicate t false ++ List.replicate (t - t) true ++ List.replicate (n - t) false)) := ⟨by
      have e : List.replicate t false ++ List.replicate (t - t) true ++ List.replicate (n - t) false = List.replicate n false := by
        simp; omega
      rw [e]; exact U.out⟩
    clear U
    go_wp2
    go_loopg [4] (n - t) (fun gg s4 wr => ∃ k : Nat, t ≤ k ∧ k ≤ n ∧ n - k ≤ gg ∧ s4 = .int .i64 k ∧
      Keep (RW w wr #[.int .i64 t, .int .i64 n, .int .i64 st, .slice A ps.length c] gX gG n (List.replicate t false ++ List.replicate (k - t) true ++ List.replicate (n - k) false)))
    case atStart => exact ⟨t, Nat.le_refl _, by omega, by omega, rfl, U2⟩
    case round =>
      clear U2
      obtain ⟨k, hk1, hk2, hg, rfl, U⟩ := hrel
      have g0 := U.out.bg.cell 0
      have g1 := U.out.bg.cell 1
      simp at g0 g1
      by_cases hlt : k < n
      · have cc := U.out.bd.cell k
        rw [bools_gb _ k (by rw [U.out.lg]; omega)] at cc
        have cf := U.out.bd.frozen k
        have cx := U.out.bx.cell 0
        simp at cx
        go_wp2
        go_roundg (n - (k + 1))
        case measure => omega
        case rel =>
          refine ⟨k + 1, by omega, by omega, by omega, by go_num, ⟨?_⟩⟩
          have := U.out.setG k true
          rwa [fill_true t k n hk1 hlt] at this
      · have ek : k = n := by omega
        subst ek
        have U2 : Keep (RW w wr (#[.int .i64 t, .int .i64 k, .int .i64 st, .slice A ps.length c]) gX gG k (List.replicate t false ++ List.replicate (k - t) true)) := ⟨by
          have := U.out
          rw [Nat.sub_self, List.replicate_zero, List.append_nil] at this
          exact this⟩
        go_wp2
        have HS : Keep (roundLoop ps t k (k + 1) ⟨List.replicate t false ++ List.replicate (k - t) true, true⟩ = roundEnd ⟨t, k, st, ps⟩) := ⟨by simp [roundEnd, round0]⟩
        have HF0 : Keep (true = true → (List.replicate t false ++ List.replicate (k - t) true).count true < k + 1) := ⟨fun _ => by
          have h2 := List.count_le_length (l := List.replicate t false ++ List.replicate (k - t) true) (a := true)
          simp only [List.length_append, List.length_replicate] at h2
          omega⟩
        clear U g0 g1
        go_loopg [5] (k + 1) (fun gg s5 wr => ∃ u : Ro, s5 = .bool u.more ∧ Keep (u.more = true → u.left.count true < gg) ∧
          Keep (RW w wr #[.int .i64 t, .int .i64 k, .int .i64 st, .slice A ps.length c] gX gG k u.left) ∧ Keep (roundLoop ps t k gg u = roundEnd ⟨t, k, st, ps⟩))
        case atStart => exact ⟨_, rfl, HF0, U2, HS⟩
        case round =>
          clear U2 HS HF0
          obtain ⟨⟨left, more⟩, rfl, HF, U, HL⟩ := hrel
          dsimp only at *
          cases more with
          | false =>
            replace HL := HL.out
            rw [roundLoop_done _ _ _ _ _ rfl] at HL
            have HE : Keep (RES = left.any (fun x => true == x)) := ⟨by rw [← HG.out]; simp only [roundB, ← HL]⟩
            clear HL
            have hx := U.out.bx.cell 0
            simp at hx
            have k2 := containsB (some ⟨gG, 0, none⟩) k k left true wr U.out.lg.symm (by rw [U.out.lg]; omega) (rd_bools U.out.bd U.out.bd.lt)
            generalize left.any (fun x => true == x) = gq at k2 HE
            go_wp2_with (go_at_call 54; refine k2.mono ?_; rintro e w' ⟨rfl, rfl⟩)
            go_ret
            exact ⟨by rw [HE.out]; rfl, U.out.bw⟩
          | true =>
            obtain ⟨fu, rfl⟩ : ∃ m, gk = m + 1 := ⟨gk - 1, by have := HF.out rfl; omega⟩
            replace HL := HL.out
            rw [roundLoop_go _ _ _ _ _ rfl] at HL
            have HL2 := Keep.mk HL
            have HR := Keep.mk (roundRound_le (n := k) (T := t) (ps := ps) (u := ⟨left, true⟩) U.out.lg)
            clear HL
            have h0 := U.out.bg.cell 0
            simp at h0
            obtain ⟨wo, rfl⟩ : ∃ wo : World, wo = wr := ⟨_, rfl⟩
            go_wp2
            have nw : gX < wo.heap.size ∧ gG < wo.heap.size ∧ w.heap.size < wo.heap.size := ⟨U.out.bx.lt, U.out.bd.lt, U.out.bg.lt⟩
            go_loopg [5, 6] (k - t) (fun gg s5 s6 wr => ∃ (m gS : Nat) (u : Ro), t ≤ m ∧ m ≤ k ∧ k - m ≤ gg ∧ s5 = .bool u.more ∧ s6 = .pointer (some ⟨gS, 0, none⟩) ∧ (gS ≠ gX ∧ gS ≠ gG ∧ w.heap.size < gS) ∧
              Keep (Blk wr gS 3 #[.int .i64 m]) ∧ Keep (u = (List.range' t (m - t)).foldl (roundIn ps) ⟨left, false⟩) ∧ Keep (RW w wr #[.int .i64 t, .int .i64 k, .int .i64 st, .slice A ps.length c] gX gG k u.left))
            case atStart =>
              exact ⟨t, wo.heap.size, ⟨left, false⟩, Nat.le_refl _, by omega, by omega, rfl, rfl, ⟨by omega, by omega, by omega⟩, ⟨Blk.new _ _ _⟩, ⟨by simp⟩, ⟨U.out.alloc _⟩⟩
            case round =>
              clear U h0 nw
              obtain ⟨m, gS, u, hm1, hm2, hgm, rfl, rfl, ⟨hn1, hn2, hn3⟩, BS, HU, U⟩ := hrel
              have bs := BS.out.cell 0
              simp at bs
              have g1 := U.out.bg.cell 1
              simp at g1
              by_cases hltm : m < k
              · have hx := U.out.bx.cell 0
                have g3 := U.out.bg.cell 3
                simp at hx g3
                have gd := U.out.bd.cell m
                rw [bools_gb _ m (by rw [U.out.lg]; omega)] at gd
                have gf := U.out.bd.frozen m
                have HU2 : Keep ((List.range' t (m + 1 - t)).foldl (roundIn ps) ⟨left, false⟩ = roundIn ps u m) := ⟨by rw [foldl_range_succ _ t m hm1, ← HU.out]⟩
                clear HU
                have hcall := containsFuncP A ps.length c ps 55 #[.pointer (some ⟨gS, 0, none⟩), .pointer (some ⟨gX, 0, none⟩)] (leads u.left m) wr rfl LN ((R0.out.below U.out.bw).mono U.out.bw.size)
                  (enters_of Try.func55 rfl rfl)
                  (fun p hp A' c' hr' W hW => (round1 p A' c' gS gX gG k m u.left W (B0.out p hp) (BS.out.below hW BS.out.lt) (U.out.bx.below hW U.out.bx.lt) (U.out.bd.below hW U.out.bd.lt) U.out.lg (P0.out p hp)
                    ((hr'.below hW).mono hW.size)).mono fun _ _ ⟨he, hb⟩ => ⟨he, below_step hW hb hW.size⟩)
                have hci : Keep (roundIn ps u m = if gb u.left m && !(ps.any (leads u.left m)) then ⟨u.left.set m false, true⟩ else u) := ⟨rfl⟩
                generalize gb u.left m = v1 at *
                generalize ps.any (leads u.left m) = v2 at *
                have nw : gX < wr.heap.size ∧ gG < wr.heap.size ∧ w.heap.size < wr.heap.size ∧ gS < wr.heap.size := ⟨U.out.bx.lt, U.out.bd.lt, U.out.bg.lt, BS.out.lt⟩
                cases v1 with
                | false =>
                  have e : Keep (roundIn ps u m = u) := ⟨by rw [hci.out]; rfl⟩
                  go_wp2
                  go_roundg (k - (m + 1))
                  case measure => omega
                  case rel =>
                    refine ⟨m + 1, wr.heap.size, u, by omega, by omega, by omega, rfl, rfl, ⟨by omega, by omega, by omega⟩, ⟨?_⟩, ⟨by rw [HU2.out, e.out]⟩, ⟨?_⟩⟩
                    · simp only [Int.natCast_add, Int.natCast_one]; exact Blk.newAt rfl
                    · exact U.out.alloc _
                | true =>
                  cases v2 with
                  | true =>
                    have e : Keep (roundIn ps u m = u) := ⟨by rw [hci.out]; rfl⟩
                    go_wp2_with (go_at_call 29; refine hcall.mono ?_; rintro e w' ⟨rfl, hb'⟩; have UU := Keep.mk (U.out.below hb'); have bs2 := cell_below bs hb' nw.2.2.2; have nw2 : gX < w'.heap.size ∧ gG < w'.heap.size ∧ w.heap.size < w'.heap.size ∧ gS < w'.heap.size := ⟨UU.out.bx.lt, UU.out.bd.lt, UU.out.bg.lt, cell_lt bs2⟩)
                    go_roundg (k - (m + 1))
                    case measure => omega
                    case rel =>
                      refine ⟨m + 1, w'.heap.size, u, by omega, by omega, by omega, rfl, rfl, ⟨by omega, by omega, by omega⟩, ⟨?_⟩, ⟨by rw [HU2.out, e.out]⟩, ⟨?_⟩⟩
                      · simp only [Int.natCast_add, Int.natCast_one]; exact Blk.newAt rfl
                      · exact UU.out.alloc _
                  | false =>
                    have e : Keep (roundIn ps u m = ⟨u.left.set m false, true⟩) := ⟨by rw [hci.out]; rfl⟩
                    go_wp2_with (go_at_call 29; refine hcall.mono ?_; rintro e w' ⟨rfl, hb'⟩; have UU := Keep.mk (U.out.below hb'); have bs2 := cell_below bs hb' nw.2.2.2; have hx2 := cell_below hx hb' nw.1; have gd2 := cell_below gd hb' nw.2.1; have gf2 := UU.out.bd.frozen m; have nw2 : gX < w'.heap.size ∧ gG < w'.heap.size ∧ w.heap.size < w'.heap.size ∧ gS < w'.heap.size := ⟨UU.out.bx.lt, UU.out.bd.lt, UU.out.bg.lt, cell_lt bs2⟩)
                    go_roundg (k - (m + 1))
                    case measure => omega
                    case rel =>
                      refine ⟨m + 1, w'.heap.size, ⟨u.left.set m false, true⟩, by omega, by omega, by omega, rfl, by simp [World.setCell], ⟨by omega, by omega, by omega⟩, ⟨?_⟩, ⟨by rw [HU2.out, e.out]⟩, ⟨?_⟩⟩
                      · simp only [Int.natCast_add, Int.natCast_one]; exact Blk.newAt (by simp [World.setCell])
                      · exact (UU.out.setG m false).alloc _
              · have em : m = k := by omega
                subst em
                go_wp2
                go_roundg fu
                case measure => omega
                case rel =>
                  have hu : u = roundRound ps t m ⟨left, true⟩ := by rw [HU.out]; rfl
                  refine ⟨u, rfl, ⟨fun h => ?_⟩, U, ⟨by rw [hu]; exact HL2.out⟩⟩
                  have h1 := HR.out.2
                  rw [← hu] at h1
                  have h2 := HF.out (by first | rfl | trivial)
                  have h3 := h1 h
                  omega
end Go.Proofs.Ytofidghilcbegaa.H
namespace Go.Proofs.Ytofidghilcbegaa.H
open Go.RowKit
set_option linter.unusedVariables false
set_option linter.unusedSimpArgs false
theorem numbersB_ok {g : Gr} (h : numbersB g = true) : GrOk g ∧ headB g = true := by
  unfold numbersB at h
  simp only [Bool.and_eq_true] at h
  obtain ⟨h1, h2⟩ := h
  have hh := h1
  simp only [headB, decide_eq_true_eq] at h1
  refine ⟨⟨h1.1, h1.2.1, h1.2.2.1, h1.2.2.2.1, h1.2.2.2.2.1, h1.2.2.2.2.2.1, h1.2.2.2.2.2.2.1, h1.2.2.2.2.2.2.2, fun p hp => ?_⟩, hh⟩
  obtain ⟨i, hi, rfl⟩ := List.getElem_of_mem hp
  have h3 := List.all_eq_true.1 h2 i (List.mem_range.2 hi)
  unfold okAt at h3
  rw [List.getElem?_eq_getElem hi] at h3
  simp only [prodB, Bool.and_eq_true, decide_eq_true_eq, List.all_eq_true, symB] at h3
  exact ⟨h3.1.1.1, h3.1.1.2, fun s hs => h3.1.2 s hs⟩
def checkI (g : Gr) : Int :=
  if numbersB g = false then 2 else if g.ps.any (fun p => decide (8 < p.body.length)) = true then 3 else if g.ps.any (fun p => decide (p.body.length = 0)) = true then 130
  else if usedB g = false then 131 else if roundB g = true then 132 else 0
structure GrIn (w : World) (g : Gr) (A : Option Addr) (c : Nat) : Prop where
  l : g.ps.length ≤ c
  l2 : g.ps.length ≤ 9223372036854775807
  b : ∀ p ∈ g.ps, p.body.length ≤ 9223372036854775807
  r : RdP w w.heap.size A g.ps
theorem GrIn.below {w w' : World} {g : Gr} {A : Option Addr} {c : Nat} (h : GrIn w g A c) (hb : Below w.heap.size w w') : GrIn w' g A c :=
  ⟨h.l, h.l2, h.b, (h.r.below hb).mono hb.size⟩
theorem numbers_any (g : Gr) (A : Option Addr) (c : Nat) (w : World) (h : GrIn w g A c) :
    Calls Try.prog 28 #[grV g A c] w fun e w' => e = .returned (.bool (numbersB g)) ∧ Below w.heap.size w w' := by
  cases hh : headB g with
  | false => exact numbers_no g A c w h.l2 hh
  | true => exact numbers_yes g A c w h.l h.b h.r hh
theorem pred1 (ps : List Pr) (w : World) (hb : ∀ p ∈ ps, p.body.length ≤ 9223372036854775807) : PredP 30 #[] (fun p => decide (8 < p.body.length)) ps w :=
  fun p hp A c hr W hW => (check1 p A c W (hb p hp)).mono fun _ _ ⟨he, hb⟩ => ⟨he, below_step hW hb hW.size⟩
theorem pred2 (ps : List Pr) (w : World) (hb : ∀ p ∈ ps, p.body.length ≤ 9223372036854775807) : PredP 31 #[] (fun p => decide (p.body.length = 0)) ps w :=
  fun p hp A c hr W hW => (check2 p A c W (hb p hp)).mono fun _ _ ⟨he, hb⟩ => ⟨he, below_step hW hb hW.size⟩
set_option maxRecDepth 100000 in
set_option maxHeartbeats 2000000 in
theorem check_any (g : Gr) (A : Option Addr) (c : Nat) (w : World) (h : GrIn w g A c) :
    Calls Try.prog 13 #[grV g A c] w fun e w' => e = .returned (.int .i64 (checkI g)) ∧ Below w.heap.size w w' := by
  have H0 := Keep.mk h
  have HL : g.ps.length ≤ 9223372036854775807 := by have := h.l; have := h.l2; omega
  have HB := Keep.mk h.b
  clear h
  have Hn : ∀ W, Below w.heap.size w W → Calls Try.prog 28 #[grV g A c] W _ := fun W hW => numbers_any g A c W (H0.out.below hW)
  have H1 : ∀ W, Below w.heap.size w W → Calls Try.prog 29 #[.slice A g.ps.length c, .func (.func 30) #[] #[]] W _ :=
    fun W hW => containsFuncP A _ c g.ps 30 #[] _ W rfl HL (H0.out.below hW).r (enters_of Try.func30 rfl rfl) (pred1 g.ps W HB.out)
  have H2 : ∀ W, Below w.heap.size w W → Calls Try.prog 29 #[.slice A g.ps.length c, .func (.func 31) #[] #[]] W _ :=
    fun W hW => containsFuncP A _ c g.ps 31 #[] _ W rfl HL (H0.out.below hW).r (enters_of Try.func31 rfl rfl) (pred2 g.ps W HB.out)
  have H3 : numbersB g = true → ∀ W, Below w.heap.size w W → Calls Try.prog 32 #[grV g A c] W _ := fun hn W hW => used_any g A c W HB.out (H0.out.below hW).r (numbersB_ok hn).1
  have H4 : numbersB g = true → ∀ W, Below w.heap.size w W → Calls Try.prog 33 #[grV g A c] W _ := fun hn W hW => round_any g A c W HB.out (H0.out.below hW).r (numbersB_ok hn).1
  have HC : Keep (checkI g = if numbersB g = false then 2 else if g.ps.any (fun p => decide (8 < p.body.length)) = true then 3 else if g.ps.any (fun p => decide (p.body.length = 0)) = true then 130
    else if usedB g = false then 131 else if roundB g = true then 132 else 0) := ⟨rfl⟩
  generalize checkI g = RES at *
  generalize numbersB g = n1 at *
  generalize g.ps.any (fun p => decide (8 < p.body.length)) = n2 at *
  generalize g.ps.any (fun p => decide (p.body.length = 0)) = n3 at *
  generalize usedB g = n4 at *
  generalize roundB g = n5 at *
  obtain ⟨T, S, st, ps⟩ := g
  unfold grV at *
  dsimp only at *
  have K1 := Keep.mk Hn
  have K2 := Keep.mk H1
  have K3 := Keep.mk H2
  have K4 := Keep.mk H3
  have K5 := Keep.mk H4
  clear Hn H1 H2 H3 H4
  have B0 : Keep (Below w.heap.size w (w.alloc (.cells #[.int .i64 T, .int .i64 S, .int .i64 st, .slice A ps.length c] 24))) := ⟨(Below.refl _ _).alloc (Nat.le_refl _) _⟩
  have BG : Keep (Blk (w.alloc (.cells #[.int .i64 T, .int .i64 S, .int .i64 st, .slice A ps.length c] 24)) w.heap.size 24 #[.int .i64 T, .int .i64 S, .int .i64 st, .slice A ps.length c]) := ⟨Blk.new _ _ _⟩
  go_enter Try.func13, Try.ntmps13
  have BG0 := BG
  clear BG
  go_wp2_with fail
  refine (K1.out _ B0.out).mono ?_
  rintro e w1 ⟨rfl, hb⟩
  have B1 : Keep (Below w.heap.size w w1) := ⟨below_step B0.out hb B0.out.size⟩
  have BG1 := Keep.mk (BG0.out.below hb BG0.out.lt)
  have q0 := BG1.out.cell 0
  have q1 := BG1.out.cell 1
  have q2 := BG1.out.cell 2
  have q3 := BG1.out.cell 3
  simp at q0 q1 q2 q3
  clear hb
  cases n1 with
  | false =>
    go_wp2
    go_ret
    exact ⟨by rw [HC.out]; rfl, B1.out⟩
  | true =>
    go_wp2_with fail
    refine (K2.out _ B1.out).mono ?_
    rintro e w2 ⟨rfl, hb⟩
    have B2 : Keep (Below w.heap.size w w2) := ⟨below_step B1.out hb B1.out.size⟩
    have BG2 := Keep.mk (BG1.out.below hb BG1.out.lt)
    have q0 := BG2.out.cell 0
    have q1 := BG2.out.cell 1
    have q2 := BG2.out.cell 2
    have q3 := BG2.out.cell 3
    simp at q0 q1 q2 q3
    clear hb
    cases n2 with
    | true =>
      go_wp2
      go_ret
      exact ⟨by rw [HC.out]; rfl, B2.out⟩
    | false =>
      go_wp2_with fail
      refine (K3.out _ B2.out).mono ?_
      rintro e w3 ⟨rfl, hb⟩
      have B3 : Keep (Below w.heap.size w w3) := ⟨below_step B2.out hb B2.out.size⟩
      have BG3 := Keep.mk (BG2.out.below hb BG2.out.lt)
      have q0 := BG3.out.cell 0
      have q1 := BG3.out.cell 1
      have q2 := BG3.out.cell 2
      have q3 := BG3.out.cell 3
      simp at q0 q1 q2 q3
      clear hb
      cases n3 with
      | true =>
        go_wp2
        go_ret
        exact ⟨by rw [HC.out]; rfl, B3.out⟩
      | false =>
        go_wp2_with fail
        refine (K4.out (by first | rfl | trivial) _ B3.out).mono ?_
        rintro e w4 ⟨rfl, hb⟩
        have B4 : Keep (Below w.heap.size w w4) := ⟨below_step B3.out hb B3.out.size⟩
        have BG4 := Keep.mk (BG3.out.below hb BG3.out.lt)
        have q0 := BG4.out.cell 0
        have q1 := BG4.out.cell 1
        have q2 := BG4.out.cell 2
        have q3 := BG4.out.cell 3
        simp at q0 q1 q2 q3
        clear hb
        cases n4 with
        | false =>
          go_wp2
          go_ret
          exact ⟨by rw [HC.out]; rfl, B4.out⟩
        | true =>
          go_wp2_with fail
          refine (K5.out (by first | rfl | trivial) _ B4.out).mono ?_
          rintro e w5 ⟨rfl, hb⟩
          have B5 : Keep (Below w.heap.size w w5) := ⟨below_step B4.out hb B4.out.size⟩
          have BG5 := Keep.mk (BG4.out.below hb BG4.out.lt)
          have q0 := BG5.out.cell 0
          have q1 := BG5.out.cell 1
          have q2 := BG5.out.cell 2
          have q3 := BG5.out.cell 3
          simp at q0 q1 q2 q3
          clear hb
          cases n5 with
          | true =>
            go_wp2
            go_ret
            exact ⟨by rw [HC.out]; rfl, B5.out⟩
          | false =>
            go_wp2
            go_ret
            exact ⟨by rw [HC.out]; rfl, B5.out⟩
end Go.Proofs.Ytofidghilcbegaa.H
namespace Go.Proofs.Ytofidghilcbegaa.H
open Go.ChangeShapes Go.WideShapes Go.ChangeAt Go.RowKit Go.Joins Go.Deep
set_option linter.unusedVariables false
set_option linter.unusedSimpArgs false
section
variable {H : Type} {enc : TypeId × Value → H} {P : Program} {w : World} {base : Nat} {spare : Nat → Bool} {held : Bool}
theorem open_slice_fields {t e : TypeId} {fs : Array Field} {fuel : Nat} {cs : List Value} {x : DataW H × List MemPlace} (ht : P.underlying t = some (.slice e)) (he : P.underlying e = some (.struct fs))
    (hone : oneCellFields P fs = true) (hC : P.cellsOf e = fs.size) (h : DataW.trod enc P w base spare held fuel t cs = some x) :
    (cs = [.slice none 0 0] ∧ x = (.nil, [])) ∨
    ∃ (a : Addr) (len cap m n : Nat), cs = [.slice (some a) len cap] ∧ len ≤ cap ∧ cap ≤ maxLen ∧ m = (if spare a.block then cap else len) ∧
      ∀ i, i < m → ∀ (j : Nat) (f : Field), fs[j]? = some f → ∃ (v : Value) (y : DataW H × List MemPlace) (n : Nat), w.cell? (a.add (i * fs.size + j)) = some v ∧ DataW.trod enc P w base spare held n f.type [v] = some y := by
  rcases open_slice ht h with h0 | ⟨a, len, cap, m, n, D, Pl, hcs, hb, hl, hm, hmm, hx, hi⟩
  · exact .inl h0
  · refine .inr ⟨a, len, cap, m, n, hcs, hl, hm, hmm, fun i him j f hj => ?_⟩
    obtain ⟨cs', hc, ht'⟩ := hi i him
    rw [hC] at hc
    obtain ⟨ys, n', hn', hy, hlen, hyl, hf⟩ := DataW.trod_struct he ht'
    obtain ⟨_, hcl, hat⟩ := World.cells?_some hc
    obtain ⟨ho, hk⟩ := hone_of hone j f hj
    have hjl : j < fs.size := (Array.getElem?_eq_some_iff.1 hj).1
    have hcell := hat j hjl
    have hv : cs'[j]? = some (cs'[j]'(by omega)) := List.getElem?_eq_getElem (by omega)
    have h1 := hf j f hj
    rw [ho, hk] at h1
    have hone' : (cs'.drop j).take 1 = [cs'[j]'(by omega)] := by
      rw [List.drop_eq_getElem_cons (by omega)]
      rfl
    rw [hone'] at h1
    have hys : ys[j]? = some (ys[j]'(by omega)) := List.getElem?_eq_getElem (by omega)
    refine ⟨_, _, n', ?_, h1.trans hys⟩
    rw [← Go.Deep.add_add, hcell, hv]
end
section
variable {H : Type} {enc : TypeId × Value → H} {w : World}
theorem read_int {n : Nat} {v : Value} {y : DataW H × List MemPlace} (h : DataW.trod enc Try.prog w 0 (fun _ => true) true n 3 [v] = some y) : ∃ x : Int, v = .int .i64 x ∧ (Lit.int .i64 x).wf = true := by
  obtain ⟨x, h1, h2, h3⟩ := DataW.trod_int Try.underlying3 h
  simp at h1
  exact ⟨x, h1, h3⟩
theorem read_bool {n : Nat} {v : Value} {y : DataW H × List MemPlace} (h : DataW.trod enc Try.prog w 0 (fun _ => true) true n 4 [v] = some y) : ∃ x : Bool, v = .bool x := by
  obtain ⟨x, h1, h2⟩ := DataW.trod_bool Try.underlying4 h
  simp at h1
  exact ⟨x, h1⟩
theorem read_ints {n : Nat} {v : Value} {y : DataW H × List MemPlace} (h : DataW.trod enc Try.prog w 0 (fun _ => true) true n 31 [v] = some y) :
    ∃ (A : Option Addr) (xs : List Int) (c : Nat), v = .slice A xs.length c ∧ xs.length ≤ c ∧ c ≤ 9223372036854775807 ∧ Rd eI 1 w w.heap.size A xs ∧ ∀ x ∈ xs, (Lit.int .i64 x).wf = true := by
  rcases open_ints Try.underlying31 Try.underlying3 (by kernel_rfl) h with ⟨hcs, _⟩ | ⟨a, len, cap, zs, hcs, _, hl, hm, hz, _, hcell, hwz⟩
  · simp at hcs
    exact ⟨none, [], 0, hcs, by simp, by simp, fun i hi => absurd hi (by simp), by simp⟩
  · simp at hcs hz
    have hlen : (zs.take len).length = len := by rw [List.length_take]; omega
    refine ⟨some a, zs.take len, cap, by rw [hlen]; exact hcs, by omega, hm, fun i hi => ?_, fun x hx => hwz x (List.mem_of_mem_take hx)⟩
    have hi' : i < zs.length := by omega
    have hc := hcell i hi'
    refine ⟨a, rfl, by have := cell_lt hc; rwa [add_block] at this, fun j u hu => ?_⟩
    have hj : j = 0 := by
      rcases j with _ | j
      · rfl
      · simp [eI] at hu
    subst hj
    have e0 : (a.add (i * 1)).add 0 = a.add i := by rw [Nat.mul_one]; rfl
    rw [e0, hc]
    simp [eI] at hu
    rw [← hu]
    simp [List.getD, hi']
theorem add_after (a : Addr) (i k : Nat) (hk : k ≠ 0) : a.add (i * 3 + k) = ⟨(a.add (i * 3)).block, (a.add (i * 3)).off + k, none⟩ := by
  have h : i * 3 + k ≠ 0 := by omega
  unfold Addr.add
  rw [if_neg h]
  by_cases h0 : i * 3 = 0
  · rw [if_pos h0]; simp [h0]
  · rw [if_neg h0]; simp [Nat.add_assoc]
theorem choose_lt {α : Type} [Inhabited α] {n : Nat} {Q : Nat → α → Prop} (h : ∀ i, i < n → ∃ x, Q i x) : ∃ f : Nat → α, ∀ i, i < n → Q i (f i) := by
  refine ⟨fun i => if hi : i < n then Classical.choose (h i hi) else default, fun i hi => ?_⟩
  simp only [hi, dif_pos]
  exact Classical.choose_spec (h i hi)
instance : Inhabited Pr := ⟨⟨0, [], false⟩⟩
theorem read_prods {n : Nat} {v : Value} {y : DataW H × List MemPlace} (h : DataW.trod enc Try.prog w 0 (fun _ => true) true n 22 [v] = some y) :
    ∃ (A : Option Addr) (ps : List Pr) (c : Nat), v = .slice A ps.length c ∧ ps.length ≤ c ∧ c ≤ 9223372036854775807 ∧ RdP w w.heap.size A ps ∧ ∀ p ∈ ps, p.body.length ≤ 9223372036854775807 := by
  rcases open_slice_fields Try.underlying22 Try.underlying38 (by kernel_rfl) (by kernel_rfl) h with ⟨hcs, _⟩ | ⟨a, len, cap, m, n', hcs, hl, hm, hmm, hf⟩
  · simp at hcs
    exact ⟨none, [], 0, hcs, by simp, by simp, fun i hi => absurd hi (by simp), by simp⟩
  · simp at hcs hmm
    subst hmm
    have each : ∀ i, i < len → ∃ p : Pr, ∃ (Ab : Option Addr) (cb : Nat), a.block < w.heap.size ∧ w.cell? (a.add (i * 3)) = some (.int .i64 p.head) ∧
        w.cell? ⟨(a.add (i * 3)).block, (a.add (i * 3)).off + 1, none⟩ = some (.slice Ab p.body.length cb) ∧ w.cell? ⟨(a.add (i * 3)).block, (a.add (i * 3)).off + 2, none⟩ = some (.bool p.right) ∧
        p.body.length ≤ cb ∧ cb ≤ 9223372036854775807 ∧ Rd eI 1 w w.heap.size Ab p.body := by
      intro i hi
      obtain ⟨v0, y0, n0, c0, t0⟩ := hf i (by omega) 0 _ rfl
      obtain ⟨v1, y1, n1, c1, t1⟩ := hf i (by omega) 1 _ rfl
      obtain ⟨v2, y2, n2, c2, t2⟩ := hf i (by omega) 2 _ rfl
      obtain ⟨x0, rfl, _⟩ := read_int t0
      obtain ⟨Ab, xs, cb, rfl, hb1, hb2, hb3, _⟩ := read_ints t1
      obtain ⟨x2, rfl⟩ := read_bool t2
      have e0 : a.add (i * 3 + 0) = a.add (i * 3) := rfl
      have hlt := cell_lt c0
      rw [add_block] at hlt
      refine ⟨⟨x0, xs, x2⟩, Ab, cb, hlt, c0, ?_, ?_, hb1, hb2, hb3⟩
      · rw [← add_after a i 1 (by decide)]; exact c1
      · rw [← add_after a i 2 (by decide)]; exact c2
    obtain ⟨f, hf'⟩ := choose_lt each
    refine ⟨some a, (List.range len).map f, m, by simpa using hcs, by simpa using hl, hm, fun i hi => ?_, fun p hp => ?_⟩
    · simp at hi
      obtain ⟨Ab, cb, h1, h2, h3, h4, h5, h6, h7⟩ := hf' i hi
      exact ⟨a, Ab, cb, rfl, h1, by simpa using h2, by simpa using h3, by simpa using h4, by simpa using h5, by simpa using h7⟩
    · obtain ⟨i, hi, rfl⟩ := List.mem_map.1 hp
      obtain ⟨Ab, cb, h1, h2, h3, h4, h5, h6, h7⟩ := hf' i (List.mem_range.1 hi)
      omega
theorem read_gr {v : Value} {d : DataW H} {p : List MemPlace} {base : Nat} (hv : Value.okWide Try.prog w .any base 24 v) (h : DataW.Trod enc Try.prog w 0 (fun _ => true) true 24 v d p) :
    ∃ (g : Gr) (A : Option Addr) (c : Nat), v = grV g A c ∧ GrIn w g A c := by
  obtain ⟨v0, v1, v2, v3, y0, y1, y2, y3, n, rfl, _, _, t0, t1, t2, t3⟩ := open_agg4 Try.underlying24 (by kernel_rfl) (by kernel_rfl) hv h
  obtain ⟨x0, rfl, _⟩ := read_int t0
  obtain ⟨x1, rfl, _⟩ := read_int t1
  obtain ⟨x2, rfl, _⟩ := read_int t2
  obtain ⟨A, ps, c, rfl, h1, h2, h3, h4⟩ := read_prods t3
  exact ⟨⟨x0, x1, x2, ps⟩, A, c, rfl, h1, Nat.le_trans h1 h2, h4, h3⟩
theorem read_int1 {v : Value} {d : DataW H} {p : List MemPlace} {base : Nat} (hv : Value.okWide Try.prog w .any base 3 v) (h : DataW.Trod enc Try.prog w 0 (fun _ => true) true 3 v d p) : ∃ x : Int, v = .int .i64 x ∧ (Lit.int .i64 x).wf = true := by
  obtain ⟨x, rfl, _, _, h3⟩ := open_int Try.underlying3 hv h
  exact ⟨x, rfl, h3⟩
end
end Go.Proofs.Ytofidghilcbegaa.H
namespace Go.Proofs.Ytofidghilcbegaa.H
open Go.RowKit
set_option linter.unusedVariables false
set_option linter.unusedSimpArgs false
theorem info_int : (Try.prog.info? 3).map (fun i => (i.zero, i.size, i.bytes)) = some (some (.int .i64 0), 1, 8) := by kernel_rfl
theorem OwnI.blk {w : World} {B : Nat} {v : Value} {xs : List Int} (h : OwnI w B v xs) (g : Nat) (hg : v.ownBlock = some g) : B ≤ g := by
  rcases h.2 with ⟨rfl, _⟩ | ⟨g', cap, cur, rfl, hB, _⟩
  · simp [Value.ownBlock] at hg
  · simp [Value.ownBlock] at hg
    omega
theorem OwnI.blk_ne {w : World} {B : Nat} {v : Value} {xs : List Int} (h : OwnI w B v xs) {g : Nat} {t : TypeId} {cs : Array Value} (hg : Blk w g t cs) (ht : t ≠ 3) : some g ≠ v.ownBlock := by
  rcases h.2 with ⟨rfl, _⟩ | ⟨g', cap, cur, rfl, hB, hh, _⟩
  · simp [Value.ownBlock]
  · intro e
    have e' : g = g' := by simpa [Value.ownBlock] using e
    subst e'
    unfold Blk at hg
    rw [hg] at hh
    injection hh with hh
    injection hh with _ h2
    exact ht h2
structure Grew (w w' : World) (B : Nat) (v v' : Value) (xs ys : List Int) : Prop where
  own : OwnI w' B v' ys
  low : Below B w w'
  blk : ∀ g t cs, Blk w g t cs → t ≠ 3 → Blk w' g t cs
theorem wpl_append_int {ops : Array Oper} {rest : List Oper} {o : Oper} {a : Act} {Q : Exit → Act → World → Prop} (w : World) (hgd : o.guard = none) (s x : Operand)
    (ho : o.op = .call { callee := .builtin .append, args := #[s, x], argTypes := #[31, 31] })
    (B : Nat) (v : Value) (xs : List Int) (hs : a.eval s = v) (hown : OwnI w B v xs) (g : Nat) (y : Int) (hx : a.eval x = .slice (some ⟨g, 0, none⟩) 1 1) (hc : w.cell? ⟨g, 0, none⟩ = some (.int .i64 y))
    (hl : xs.length < 8796093022208) (hbase : B ≤ w.heap.size)
    (h : ∀ v' w', Grew w w' B v v' xs (xs ++ [y]) → wpList Try.prog ops Q rest (a.put o.dst v') w') : wpList Try.prog ops Q (o :: rest) a w := by
  obtain ⟨i0, hi0, hz0, hz1, hz2⟩ := info_parts info_int
  refine wpList_append_own w hgd s x 31 ho B 3 i0 (.int .i64 0) 1 8 Try.underlying31 hi0 hz0 hz1 hz2 rfl (by decide) v xs.length (xs.map (Value.int .i64)) hs hown ⟨g, 0, none⟩ 1 1 [.int .i64 y] hx rfl
    (fun j u hu => ?_) (by simp [Value.oneCell']) (by simp only [maxLen]; omega) (by omega) hbase (fun v' w' h1 h2 _ => h v' w' ⟨?_, ?_, ?_⟩)
  · rcases j with _ | j
    · simp at hu
      subst hu
      exact hc
    · simp at hu
  · unfold OwnI
    rw [List.map_append, List.length_append]
    exact h1
  · exact (Below.refl _ _).grown h2 hbase (fun b hb => hown.blk b hb)
  · intro b t cs hb ht
    exact hb.grown h2 (hown.blk_ne hb ht)
end Go.Proofs.Ytofidghilcbegaa.H
namespace Go.Proofs.Ytofidghilcbegaa.H
open Go.RowKit
set_option linter.unusedVariables false
set_option linter.unusedSimpArgs false
theorem run_append_none_c {P : Program} {w : World} (base : Nat) (t ty e : TypeId) (i : TypeInfo) (size : Nat) (ht : P.underlying t = some (.slice e)) (hi : P.info? e = some i)
    (v : Value) (n : Nat) (xs : List Value) (c : Nat) (hown : w.ownsRow base e size v n xs) :
    (Builtin.append_ #[t, t] ty #[v, .slice none 0 c]).run P w = .ok v w := by
  rcases hown.2 with ⟨rfl, rfl⟩ | ⟨g, cap, cur, rfl, _, _, hnc, _⟩
  · simp [Builtin.append_, run_underlying ht, sizeOf, typeInfo, hi, Builtin.lenOf, Builtin.firstCells]
  · simp [Builtin.append_, run_underlying ht, sizeOf, typeInfo, hi, Builtin.lenOf, Builtin.firstCells, hnc, storeCells]
theorem wpl_own_none_c {P : Program} {w : World} {ops : Array Oper} {rest : List Oper} {o : Oper} {a : Act} {Q : Exit → Act → World → Prop} (hgd : o.guard = none) (s x : Operand) (t : TypeId)
    (ho : o.op = .call { callee := .builtin .append, args := #[s, x], argTypes := #[t, t] })
    (base : Nat) (e : TypeId) (i : TypeInfo) (size : Nat) (ht : P.underlying t = some (.slice e)) (hi : P.info? e = some i)
    (v : Value) (n : Nat) (xs : List Value) (c : Nat) (hs : a.eval s = v) (hown : w.ownsRow base e size v n xs) (hx : a.eval x = .slice none 0 c)
    (h : wpList P ops Q rest (a.put o.dst v) w) : wpList P ops Q (o :: rest) a w := by
  refine wpList_plain hgd fun K hK => ?_
  have hrun := run_append_none_c (P := P) (w := w) base t o.type e i size ht hi v n xs c hown
  unfold Oper.wp
  simp [execOp, ho, resolve, invoke, builtin, hs, hx, hrun, Result.andThen]
  exact hK _ _ h
theorem wpl_append_rd2 {ops : Array Oper} {rest : List Oper} {o : Oper} {a : Act} {Q : Exit → Act → World → Prop} (w : World) (hgd : o.guard = none) (s x : Operand)
    (ho : o.op = .call { callee := .builtin .append, args := #[s, x], argTypes := #[31, 31] })
    (B : Nat) (v : Value) (xs : List Int) (hs : a.eval s = v) (hown : OwnI w B v xs) (A : Option Addr) (c : Nat) (ys : List Int) (hx : a.eval x = .slice A ys.length c)
    (hr : Rd eI 1 w w.heap.size A ys)
    (hl : xs.length + ys.length < 8796093022208) (hbase : B ≤ w.heap.size)
    (h : ∀ v' w', Grew w w' B v v' xs (xs ++ ys) → wpList Try.prog ops Q rest (a.put o.dst v') w') : wpList Try.prog ops Q (o :: rest) a w := by
  obtain ⟨i0, hi0, hz0, hz1, hz2⟩ := info_parts info_int
  cases A with
  | none =>
    have hy : ys = [] := by
      cases ys with
      | nil => rfl
      | cons y ys => obtain ⟨ad, e, _⟩ := hr 0 (by simp); cases e
    subst hy
    refine wpl_own_none_c hgd s x 31 ho B 3 i0 1 Try.underlying31 hi0 v xs.length _ c hs hown hx (h v w ⟨by simpa using hown, Below.refl _ _, fun _ _ _ hb _ => hb⟩)
  | some ad =>
    refine wpList_append_own w hgd s x 31 ho B 3 i0 (.int .i64 0) 1 8 Try.underlying31 hi0 hz0 hz1 hz2 rfl (by decide) v xs.length (xs.map (Value.int .i64)) hs hown ad ys.length c (ys.map (Value.int .i64)) hx (by simp)
      (fun j u hu => ?_) (fun u hu => by obtain ⟨z, _, rfl⟩ := List.mem_map.1 hu; rfl) (by simp only [maxLen]; omega) (by omega) hbase (fun v' w' h1 h2 _ => h v' w' ⟨?_, ?_, ?_⟩)
    · have hj : j < ys.length := by have := (List.getElem?_eq_some_iff.1 hu).1; simpa using this
      obtain ⟨ad', e, _, hc⟩ := hr.int j hj
      injection e with e
      subst e
      rw [hc, ← hu]
      simp [hj]
    · unfold OwnI
      rw [List.map_append, List.length_append]
      exact h1
    · exact (Below.refl _ _).grown h2 hbase (fun b hb => hown.blk b hb)
    · intro b t cs hb ht
      exact hb.grown h2 (hown.blk_ne hb ht)
end Go.Proofs.Ytofidghilcbegaa.H
namespace Go.Proofs.Ytofidghilcbegaa.H
open Go.RowKit
set_option linter.unusedVariables false
set_option linter.unusedSimpArgs false
theorem info_prod : (Try.prog.info? 38).map (fun i => (i.zero, i.size, i.bytes)) = some (some (.agg #[.int .i64 0, .slice none 0 0, .bool false]), 3, 40) := by kernel_rfl
structure PA where
  p : Pr
  A : Option Addr
  c : Nat
def cellsPA (m : List PA) : List Value := m.flatMap fun x => [.int .i64 x.p.head, .slice x.A x.p.body.length x.c, .bool x.p.right]
theorem cellsPA_length (m : List PA) : (cellsPA m).length = m.length * 3 := by
  induction m with
  | nil => rfl
  | cons x m ih => simp only [cellsPA, List.flatMap_cons, List.length_append, List.length_cons, List.length_nil] at ih ⊢; omega
theorem cellsPA_append (m n : List PA) : cellsPA (m ++ n) = cellsPA m ++ cellsPA n := by simp [cellsPA]
theorem cellsPA_at (m : List PA) : ∀ (i : Nat) (h : i < m.length), (cellsPA m)[i * 3]? = some (.int .i64 m[i].p.head) ∧ (cellsPA m)[i * 3 + 1]? = some (.slice m[i].A m[i].p.body.length m[i].c) ∧ (cellsPA m)[i * 3 + 2]? = some (.bool m[i].p.right) := by
  induction m with
  | nil => intro i h; exact absurd h (by simp)
  | cons x m ih =>
    intro i h
    cases i with
    | zero => simp [cellsPA]
    | succ i =>
      have := ih i (by simpa using h)
      have e : cellsPA (x :: m) = [.int .i64 x.p.head, .slice x.A x.p.body.length x.c, .bool x.p.right] ++ cellsPA m := by simp [cellsPA]
      rw [e]
      refine ⟨?_, ?_, ?_⟩
      · rw [List.getElem?_append_right (by simp; omega), show (i + 1) * 3 - _ = i * 3 from by simp; omega]; exact this.1
      · rw [List.getElem?_append_right (by simp; omega), show (i + 1) * 3 + 1 - _ = i * 3 + 1 from by simp; omega]; exact this.2.1
      · rw [List.getElem?_append_right (by simp; omega), show (i + 1) * 3 + 2 - _ = i * 3 + 2 from by simp; omega]; exact this.2.2
theorem cellsPA_one (m : List PA) : ∀ u ∈ cellsPA m, u.oneCell' = true := by
  intro u hu
  obtain ⟨x, _, hx⟩ := List.mem_flatMap.1 hu
  simp at hx
  rcases hx with rfl | rfl | rfl <;> rfl
theorem addr_add0 (g i : Nat) : (Addr.mk g 0 none).add i = ⟨g, i, none⟩ := by by_cases h0 : i = 0 <;> simp [Addr.add, h0]
end Go.Proofs.Ytofidghilcbegaa.H
namespace Go.Proofs.Ytofidghilcbegaa.H
open Go.RowKit
set_option linter.unusedVariables false
set_option linter.unusedSimpArgs false
def marks : List Int := [-7000, -7001, -7002]
def TwI (w : World) (B : Nat) (A : Option Addr) (c : Nat) (xs : List Int) : Prop := OwnI w B (.slice A (xs.length + 3) c) (xs ++ marks)
theorem OwnI.start {w : World} {B : Nat} (hB : B ≤ w.heap.size) : OwnI (w.alloc (.cells #[] 3)) B (.slice (some ⟨w.heap.size, 0, none⟩) 0 0) [] :=
  ⟨by simp, .inr ⟨w.heap.size, 0, #[], rfl, hB, heap_alloc_new w _, Nat.le_refl _, by simp [maxLen], by simp, by simp⟩⟩
set_option maxRecDepth 100000 in
set_option maxHeartbeats 4000000 in
theorem twinInts_any (A : Option Addr) (c : Nat) (l : List Int) (w : World) (hr : Rd eI 1 w w.heap.size A l) (hl : l.length ≤ 1000000) (hc : l.length ≤ c) :
    Calls Try.prog 35 #[.slice A l.length c] w fun e w' => ∃ A' c', e = .returned (.slice A' l.length c') ∧ TwI w' w.heap.size A' c' l ∧ Below w.heap.size w w' := by
  have HR := Keep.mk hr
  have HS := Keep.mk (OwnI.start (w := w) (Nat.le_refl _))
  clear hr
  go_enter Try.func35, Try.ntmps35
  go_wp2_with (at_builtin; refine wpl_append_rd2 _ rfl (.tmp 5) (.tmp 6) rfl w.heap.size _ [] rfl HS.out A c l rfl ((HR.out.below ((Below.refl _ _).alloc (Nat.le_refl _) _)).mono (by simp)) (by simp; omega) (by simp) ?_)
  intro v1 w1 hG
  have O1 := Keep.mk hG.own
  have B1 : Keep (Below w.heap.size w w1) := ⟨((Below.refl _ _).alloc (Nat.le_refl _) _).trans hG.low⟩
  clear hG HS
  go_wp2
  go_loopg [3, 4] 3 (fun gg v i wr => ∃ k : Nat, k ≤ 3 ∧ 3 - k ≤ gg ∧ i = .int .i64 k ∧ Keep (OwnI wr w.heap.size v (l ++ marks.take k)) ∧ Keep (Below w.heap.size w wr))
  case atStart => exact ⟨0, by omega, by omega, rfl, ⟨by simpa using O1.out⟩, B1⟩
  case round =>
    clear O1 B1
    obtain ⟨k, hk, hg, rfl, HO, HB⟩ := hrel
    have hsz := HB.out.size
    have hlen : (l ++ marks.take k).length ≤ 1000003 := by
      rw [List.length_append, List.length_take]
      have : marks.length = 3 := rfl
      omega
    by_cases hlt : k < 3
    · have hst : Keep (marks.take (k + 1) = marks.take k ++ [-7000 - (k : Int)]) := ⟨by
        have : k = 0 ∨ k = 1 ∨ k = 2 := by omega
        rcases this with rfl | rfl | rfl <;> rfl⟩
      go_wp2_with (at_builtin; refine wpl_append_int _ rfl (.tmp 12) (.tmp 15) rfl w.heap.size _ (l ++ marks.take k) rfl (HO.out.below ((Below.refl _ _).alloc (Nat.le_refl _) _)) wr.heap.size (-7000 - (k : Int)) rfl ?c1 ?c2 ?c3 ?_)
      case c1 => simp
      case c2 => omega
      case c3 => simp; omega
      intro v' w' hG
      have O2 : Keep (OwnI w' w.heap.size v' (l ++ marks.take (k + 1))) := ⟨by rw [hst.out]; first | exact hG.own | (rw [← List.append_assoc]; exact hG.own)⟩
      have B2 : Keep (Below w.heap.size w w') := ⟨(HB.out.alloc hsz _).trans hG.low⟩
      clear hG hlen HO HB
      go_wp2
      go_roundg (3 - (k + 1))
      case measure => omega
      case rel => exact ⟨k + 1, by omega, by omega, by go_num, O2, B2⟩
    · have hk3 : k = 3 := by omega
      subst hk3
      have e3 : marks.take 3 = marks := rfl
      have HO2 := HO.out
      rw [e3] at HO2
      obtain ⟨A', c', rfl, h1, h2, _, _, _⟩ := HO2.open_
      have hl3 : (l ++ marks).length = l.length + 3 := by simp [marks]
      have T : Keep (TwI wr w.heap.size A' c' l) := ⟨by unfold TwI; rw [← hl3]; exact HO2⟩
      rw [hl3] at h1 ⊢
      unfold maxLen at h2
      have h3 : l.length ≤ c' := by omega
      clear HO2 HO hl3 hlen
      go_wp2
      go_ret
      exact ⟨A', c', rfl, T.out, HB.out⟩
end Go.Proofs.Ytofidghilcbegaa.H
namespace Go.Proofs.Ytofidghilcbegaa.H
open Go.RowKit
set_option linter.unusedVariables false
set_option linter.unusedSimpArgs false
def tlist (x : Nat) : List Int := ((List.range 64).filter x.testBit).map Int.ofNat
theorem tlist_step (x k : Nat) : (((List.range (k + 1)).filter x.testBit).map Int.ofNat) = if x.testBit k then ((List.range k).filter x.testBit).map Int.ofNat ++ [(k : Int)] else ((List.range k).filter x.testBit).map Int.ofNat := by
  rw [List.range_succ, List.filter_append]
  by_cases h : x.testBit k <;> simp [h]
set_option maxRecDepth 100000 in
set_option maxHeartbeats 2000000 in
theorem list_any (x : Nat) (w : World) (hx : x < 2 ^ 64) :
    Calls Try.prog 43 #[.int .u64 x] w fun e w' => ∃ v, e = .returned v ∧ OwnI w' w.heap.size v (tlist x) ∧ Below w.heap.size w w' := by
  have HX := Keep.mk hx
  obtain ⟨i0, hi0, hz0, hz1, hz2⟩ := info_parts info_int
  go_enter Try.func43, Try.ntmps43
  go_wp2
  go_loopg [3, 5] 64 (fun gg s3 s5 wr => ∃ k : Nat, k ≤ 64 ∧ 64 - k ≤ gg ∧ s5 = .int .i64 k ∧ Keep (OwnI wr w.heap.size s3 (((List.range k).filter x.testBit).map Int.ofNat)) ∧ Keep (Below w.heap.size w wr))
  case atStart => exact ⟨0, by omega, by omega, rfl, ⟨OwnI.nil _ _⟩, ⟨Below.refl _ _⟩⟩
  case round =>
    obtain ⟨k, hk, hg, rfl, HO, HB⟩ := hrel
    by_cases hlt : k < 64
    · have tb := testBit64 x k hx
      have hst := Keep.mk (tlist_step x k)
      have hlen : (((List.range k).filter x.testBit).map Int.ofNat).length ≤ k := by
        rw [List.length_map]
        exact Nat.le_trans (List.length_filter_le _ _) (by simp)
      generalize ((List.range k).filter x.testBit).map Int.ofNat = ys at *
      cases hb : x.testBit k with
      | false =>
        rw [hb] at tb hst
        clear hb
        go_wp2
        go_roundg (64 - (k + 1))
        case measure => omega
        case rel =>
          exact ⟨k + 1, by omega, by omega, by go_num, ⟨by rw [hst.out]; simpa using HO.out⟩, HB⟩
      | true =>
        rw [hb] at tb hst
        clear hb
        have hown := HO.out
        unfold OwnI at hown
        have hBs := HB.out.size
        have HW := Keep.mk hown
        clear hown
        go_wp2_with (at_builtin; refine wpList_append_own _ rfl (.tmp 13) (.tmp 15) _ rfl w.heap.size 3 i0 (.int .i64 0) 1 8 Try.underlying31 hi0 hz0 hz1 hz2 rfl (by decide) _ _ _ rfl (HW.out.alloc _) ⟨wr.heap.size, 0, none⟩ 1 1 [.int .i64 k] rfl rfl ?c1 ?c2 ?c3 ?c4 ?c5 ?_)
        case c2 => simp [Value.oneCell']
        case c3 => first | omega | (simp only [maxLen]; omega)
        case c4 => omega
        case c5 => first | omega | (simp; omega)
        intro v' w1 hown1 hgrow _
        have H2 : Keep (OwnI w1 w.heap.size v' (ys ++ [(k : Int)])) := ⟨by unfold OwnI; rw [List.map_append, List.length_append]; exact hown1⟩
        have H3 : Keep (Below w.heap.size w w1) := ⟨(HB.out.alloc hBs _).grown hgrow (by simp; omega) (fun g hg => HO.out.blk g hg)⟩
        clear hown1 hgrow
        go_wp2
        go_roundg (64 - (k + 1))
        case measure => omega
        case rel => exact ⟨k + 1, by omega, by omega, by go_num, ⟨by rw [hst.out]; simpa using H2.out⟩, H3⟩
    · have e : k = 64 := by omega
      subst e
      go_wp2
      go_ret
      exact ⟨u3, rfl, HO.out, HB.out⟩
theorem info_u64 : (Try.prog.info? 48).map (fun i => (i.zero, i.size, i.bytes)) = some (some (.int .u64 0), 1, 8) := by kernel_rfl
def gn (xs : List Nat) (i : Int) : Nat := xs.getD i.toNat 0
structure Fi where
  m : List Nat
  more : Bool
def firstX (u : List Nat) (p : Pr) : Nat := gn u p.head ||| gn u (p.body.getD 0 0)
def firstIn (u : Fi) (p : Pr) : Fi := if firstX u.m p = gn u.m p.head then u else ⟨u.m.set p.head.toNat (firstX u.m p), true⟩
def firstRound (ps : List Pr) (u : Fi) : Fi := ps.foldl firstIn ⟨u.m, false⟩
def firstLoop (ps : List Pr) : Nat → Fi → Fi
  | 0, u => u
  | k + 1, u => if u.more then firstLoop ps k (firstRound ps u) else u
def first0 (g : Gr) : List Nat := (List.range g.T.toNat).map (fun s => 2 ^ s) ++ List.replicate (g.S.toNat - g.T.toNat) 0
def lack (xs : List Nat) : Nat := (xs.map fun x => ((List.range 64).filter fun i => !x.testBit i).length).sum
def firstEnd (g : Gr) : List Nat := (firstLoop g.ps (64 * g.S.toNat + 1) ⟨first0 g, true⟩).m
theorem lack_one_le (x : Nat) : ((List.range 64).filter fun i => !x.testBit i).length ≤ 64 := Nat.le_trans (List.length_filter_le _ _) (by simp)
theorem lack_le (xs : List Nat) : lack xs ≤ 64 * xs.length := by
  induction xs with
  | nil => simp [lack]
  | cons x xs ih =>
    have := lack_one_le x
    simp only [lack, List.map_cons, List.sum_cons, List.length_cons] at ih ⊢
    omega
theorem filter_lt_of {α : Type} (p q : α → Bool) (l : List α) (h : ∀ a ∈ l, p a = true → q a = true) (a : α) (ha : a ∈ l) (hq : q a = true) (hp : p a = false) : (l.filter p).length < (l.filter q).length := by
  induction l with
  | nil => cases ha
  | cons b l ih =>
    have hle : (l.filter p).length ≤ (l.filter q).length := by
      rw [← List.countP_eq_length_filter, ← List.countP_eq_length_filter]
      exact List.countP_mono_left (fun x hx hp => h x (by simp [hx]) hp)
    rcases List.mem_cons.1 ha with rfl | ha'
    · rw [List.filter_cons, List.filter_cons, hp, hq]
      simp; omega
    · have ih' := ih (fun x hx => h x (by simp [hx])) ha'
      rw [List.filter_cons, List.filter_cons]
      by_cases hb : p b = true
      · have := h b (by simp) hb
        simp [hb, this]; omega
      · have e : (if p b = true then b :: List.filter p l else List.filter p l) = List.filter p l := if_neg hb
        rw [e]
        by_cases hq2 : q b = true
        · rw [if_pos hq2, List.length_cons]; omega
        · rw [if_neg hq2]; exact ih'
theorem lack_or (x y : Nat) (hy : y < 2 ^ 64) (h : x ||| y ≠ x) : ((List.range 64).filter fun i => !(x ||| y).testBit i).length < ((List.range 64).filter fun i => !x.testBit i).length := by
  have hex : ∃ i, (x ||| y).testBit i ≠ x.testBit i := by
    apply Classical.byContradiction
    intro hc
    exact h (Nat.eq_of_testBit_eq fun i => Classical.byContradiction fun hi => hc ⟨i, hi⟩)
  obtain ⟨i, hi⟩ := hex
  rw [Nat.testBit_or] at hi
  have hx : x.testBit i = false := by cases hxi : x.testBit i <;> simp [hxi] at hi ⊢
  have hyi : y.testBit i = true := by cases hyi : y.testBit i <;> simp [hx, hyi] at hi ⊢
  have hi64 : i < 64 := by
    apply Classical.byContradiction
    intro hc
    have := Nat.testBit_lt_two_pow (x := y) (i := i) (Nat.lt_of_lt_of_le hy (Nat.pow_le_pow_right (by decide) (by omega)))
    rw [this] at hyi; cases hyi
  refine filter_lt_of _ _ _ (fun a _ ha => ?_) i (List.mem_range.2 hi64) (by simp [hx]) (by simp [hyi])
  rw [Nat.testBit_or] at ha
  simp at ha ⊢
  exact ha.1
theorem lack_set (xs : List Nat) (i x : Nat) (hi : i < xs.length) (h : ((List.range 64).filter fun i => !x.testBit i).length < ((List.range 64).filter fun j => !(xs.getD i 0).testBit j).length) : lack (xs.set i x) < lack xs := by
  induction xs generalizing i with
  | nil => simp at hi
  | cons a xs ih =>
    cases i with
    | zero =>
      simp only [lack, List.set_cons_zero, List.map_cons, List.sum_cons]
      simp at h
      omega
    | succ i =>
      have := ih i (by simpa using hi) (by simpa using h)
      simp only [lack, List.set_cons_succ, List.map_cons, List.sum_cons] at this ⊢
      omega
structure FiLe (n : Nat) (u v : Fi) : Prop where
  c : v.m.length = n
  b : ∀ x ∈ v.m, x < 2 ^ 64
  le : lack v.m ≤ lack u.m
  new : v.more = true → u.more = true ∨ lack v.m < lack u.m
theorem FiLe.trans {n : Nat} {a b c : Fi} (h : FiLe n a b) (k : FiLe n b c) : FiLe n a c := by
  refine ⟨k.c, k.b, Nat.le_trans k.le h.le, fun hm => ?_⟩
  rcases k.new hm with h1 | h1
  · rcases h.new h1 with h2 | h2
    · exact .inl h2
    · exact .inr (Nat.lt_of_le_of_lt k.le h2)
  · exact .inr (Nat.lt_of_lt_of_le h1 h.le)
theorem gn_lt {xs : List Nat} (h : ∀ x ∈ xs, x < 2 ^ 64) (i : Int) : gn xs i < 2 ^ 64 := by
  unfold gn
  rw [List.getD_eq_getElem?_getD]
  cases hx : xs[i.toNat]? with
  | none => simp
  | some x => exact h x (List.mem_of_getElem? hx)
theorem set_lt {xs : List Nat} (h : ∀ x ∈ xs, x < 2 ^ 64) (i y : Nat) (hy : y < 2 ^ 64) : ∀ x ∈ xs.set i y, x < 2 ^ 64 := by
  intro x hx
  rcases List.mem_or_eq_of_mem_set hx with h1 | h1
  · exact h x h1
  · omega
theorem firstX_lt {u : List Nat} {p : Pr} (h : ∀ x ∈ u, x < 2 ^ 64) : firstX u p < 2 ^ 64 := Nat.or_lt_two_pow (gn_lt h _) (gn_lt h _)
theorem firstIn_le {n : Nat} {p : Pr} {u : Fi} (hc : u.m.length = n) (hb : ∀ x ∈ u.m, x < 2 ^ 64) (hp : p.head.toNat < n) : FiLe n u (firstIn u p) := by
  unfold firstIn
  split
  · exact ⟨hc, hb, Nat.le_refl _, fun h => .inl h⟩
  · rename_i ht
    have h1 := lack_or (gn u.m p.head) (gn u.m (p.body.getD 0 0)) (gn_lt hb _) ht
    have h2 := lack_set u.m p.head.toNat (firstX u.m p) (by omega) h1
    exact ⟨by simp [hc], set_lt hb _ _ (firstX_lt hb), Nat.le_of_lt h2, fun _ => .inr h2⟩
theorem firstAll_le {n : Nat} (l : List Pr) : ∀ {u : Fi}, u.m.length = n → (∀ x ∈ u.m, x < 2 ^ 64) → (∀ p ∈ l, p.head.toNat < n) → FiLe n u (l.foldl firstIn u) := by
  induction l with
  | nil => intro u hc hb _; exact ⟨hc, hb, Nat.le_refl _, fun h => .inl h⟩
  | cons p l ih =>
    intro u hc hb hs
    have h1 := firstIn_le hc hb (hs p (by simp))
    exact h1.trans (ih h1.c h1.b (fun s hs' => hs s (by simp [hs'])))
theorem firstRound_le {n : Nat} {ps : List Pr} {u : Fi} (hc : u.m.length = n) (hb : ∀ x ∈ u.m, x < 2 ^ 64) (hp : ∀ p ∈ ps, p.head.toNat < n) :
    (firstRound ps u).m.length = n ∧ (∀ x ∈ (firstRound ps u).m, x < 2 ^ 64) ∧ ((firstRound ps u).more = true → lack (firstRound ps u).m < lack u.m) := by
  have h := firstAll_le (n := n) ps (u := ⟨u.m, false⟩) hc hb hp
  refine ⟨h.c, h.b, fun hm => ?_⟩
  rcases h.new hm with h1 | h1
  · cases h1
  · exact h1
theorem firstLoop_done (ps : List Pr) (k : Nat) (u : Fi) (h : u.more = false) : firstLoop ps k u = u := by
  cases k with
  | zero => rfl
  | succ k => simp [firstLoop, h]
theorem firstLoop_go (ps : List Pr) (k : Nat) (u : Fi) (h : u.more = true) : firstLoop ps (k + 1) u = firstLoop ps k (firstRound ps u) := by simp [firstLoop, h]
theorem u64s_gn (xs : List Nat) (i : Nat) (h : i < xs.length) : (u64s xs)[i]? = some (.int .u64 ((gn xs (i : Int) : Nat) : Int)) := u64s_at xs i h
end Go.Proofs.Ytofidghilcbegaa.H
namespace Go.Proofs.Ytofidghilcbegaa.H
open Go.RowKit
set_option linter.unusedVariables false
set_option linter.unusedSimpArgs false
structure FW (w wr : World) (gv : Array Value) (gF n : Nat) (m : List Nat) : Prop where
  bw : Below w.heap.size w wr
  bg : Blk wr w.heap.size 24 gv
  bf : Blk wr gF 48 (u64s m)
  gf : w.heap.size < gF
  lf : m.length = n
section
variable {w wr w' : World} {gv : Array Value} {gF n : Nat} {m : List Nat}
theorem FW.below (h : FW w wr gv gF n m) (hb : Below wr.heap.size wr w') : FW w w' gv gF n m :=
  ⟨below_step h.bw hb h.bw.size, h.bg.below hb h.bg.lt, h.bf.below hb h.bf.lt, h.gf, h.lf⟩
theorem FW.alloc (h : FW w wr gv gF n m) (o : Obj) : FW w (wr.alloc o) gv gF n m := h.below ((Below.refl _ _).alloc (Nat.le_refl _) o)
theorem FW.drewN (h : FW w wr gv gF n m) (k : Nat) : FW w (wr.drewN k) gv gF n m := h.below (below_drewN (Below.refl _ _) k)
theorem FW.setF (h : FW w wr gv gF n m) (i b : Nat) : FW w (wr.setCell ⟨gF, i, none⟩ (.int .u64 (b : Int))) gv gF n (m.set i b) := by
  refine ⟨h.bw.setCell (by show w.heap.size ≤ gF; have := h.gf; omega) _, h.bg.far (by show _ ≠ gF; have := h.gf; omega) _, ?_, h.gf, by simp [h.lf]⟩
  have := h.bf.set_ i (.int .u64 (b : Int))
  rwa [u64s_set] at this
end
theorem wrap_pow (k : Nat) (h : k < 64) : IntKind.u64.wrap ((2 : Int) ^ k) = ((2 ^ k : Nat) : Int) := by
  have h2 : (2 : Nat) ^ k < 2 ^ 64 := Nat.pow_lt_pow_right (by decide) h
  have e : ((2 : Int) ^ k) = ((2 ^ k : Nat) : Int) := by simp
  rw [e]
  exact wraps_u64 _ (Int.natCast_nonneg _) (by exact_mod_cast h2)
theorem first0_lt (t r : Nat) (h : t ≤ 32) : ∀ x ∈ (List.range t).map (fun s => 2 ^ s) ++ List.replicate r 0, x < 2 ^ 64 := by
  intro x hx
  rcases List.mem_append.1 hx with hx | hx
  · obtain ⟨s, hs, rfl⟩ := List.mem_map.1 hx
    have := List.mem_range.1 hs
    exact Nat.pow_lt_pow_right (by decide) (by omega)
  · have := (List.mem_replicate.1 hx).2
    omega
theorem pow_set (k n : Nat) (h : k < n) : ((List.range k).map (fun s => 2 ^ s) ++ List.replicate (n - k) 0).set k (2 ^ k) = (List.range (k + 1)).map (fun s => 2 ^ s) ++ List.replicate (n - (k + 1)) 0 := by
  rw [List.set_append_right _ _ (by simp), List.length_map, List.length_range, Nat.sub_self, show n - k = (n - (k + 1)) + 1 from by omega, List.replicate_succ, List.set_cons_zero, List.range_succ, List.map_append]
  simp
set_option maxRecDepth 100000 in
set_option maxHeartbeats 4000000 in
theorem firsts_any (g : Gr) (A : Option Addr) (c : Nat) (w : World) (hr : RdP w w.heap.size A g.ps) (ok : GrOk g) (hne : ∀ p ∈ g.ps, 0 < p.body.length ∧ p.body.length ≤ 9223372036854775807) :
    Calls Try.prog 42 #[grV g A c] w fun e w' => ∃ gF, e = .returned (.slice (some ⟨gF, 0, none⟩) g.S.toNat g.S.toNat) ∧ Blk w' gF 48 (u64s (firstEnd g)) ∧
      (firstEnd g).length = g.S.toNat ∧ (∀ x ∈ firstEnd g, x < 2 ^ 64) ∧ w.heap.size ≤ gF ∧ Below w.heap.size w w' := by
  obtain ⟨T, S, st, ps⟩ := g
  obtain ⟨t0, t1, s0, s1, st0, st1, n0, n1, pr⟩ := ok
  dsimp only at *
  obtain ⟨t, rfl⟩ := Int.eq_ofNat_of_zero_le (show 0 ≤ T by omega)
  obtain ⟨n, rfl⟩ := Int.eq_ofNat_of_zero_le (show 0 ≤ S by omega)
  have R0 : Keep (RdP w w.heap.size A ps) := ⟨hr⟩
  have B0 : Keep (∀ p ∈ ps, 0 < p.body.length ∧ p.body.length ≤ 9223372036854775807) := ⟨hne⟩
  have P0 : Keep (∀ p ∈ ps, PrIn n p) := ⟨fun p hp => ⟨by have := pr p hp; omega, by have := pr p hp; omega, fun s hs => by have := (pr p hp).2.2 s hs; omega⟩⟩
  clear hr hne pr n0 st0 st1
  have HPost : Keep (∀ (w' : World) (u : List Nat) (gF : Nat), u = firstEnd ⟨t, n, st, ps⟩ → u.length = n → (∀ x ∈ u, x < 2 ^ 64) → w.heap.size < gF → Blk w' gF 48 (u64s u) → Below w.heap.size w w' →
    ∃ gF', (Ending.returned (.slice (some ⟨gF, 0, none⟩) n n)) = .returned (.slice (some ⟨gF', 0, none⟩) ((n : Int).toNat) ((n : Int).toNat)) ∧ Blk w' gF' 48 (u64s (firstEnd ⟨t, n, st, ps⟩)) ∧
      (firstEnd ⟨t, n, st, ps⟩).length = (n : Int).toNat ∧ (∀ x ∈ firstEnd ⟨t, n, st, ps⟩, x < 2 ^ 64) ∧ w.heap.size ≤ gF' ∧ Below w.heap.size w w') := ⟨by
      rintro w' u gF rfl h1 h2 h3 h4 h5
      exact ⟨gF, rfl, h4, h1, h2, Nat.le_of_lt h3, h5⟩⟩
  unfold grV
  dsimp only
  have hmk := @run_make_row' Try.prog 49 48 (.int .u64 0) 8 Try.underlying49 info_u64 rfl .i64 .i64 n (by omega) (by omega)
  simp only [madeCells_u64s] at hmk
  go_enter Try.func42, Try.ntmps42
  go_upto_region 1 with fail
  go_cut [3] (fun s3 wx => ∃ gF : Nat, s3 = .slice (some ⟨gF, 0, none⟩) n n ∧ Keep (FW w wx #[.int .i64 t, .int .i64 n, .int .i64 st, .slice A ps.length c] gF n ((List.range 0).map (fun s => 2 ^ s) ++ List.replicate (n - 0) 0)))
  case first =>
    go_wp2_with fail
    go_meet
    refine ⟨_, rfl, ⟨((Below.refl _ _).alloc (by simp) _).alloc (by simp) _, (Blk.new _ _ _).alloc _, Blk.newAt (by simp), by omega, by simp⟩⟩
  case rest =>
    obtain ⟨gF, rfl, U⟩ := hcut
    have g0 := U.out.bg.cell 0
    simp at g0
    go_wp2
    go_loopg [14] t (fun gg s14 wr => ∃ k : Nat, k ≤ t ∧ t - k ≤ gg ∧ s14 = .int .i64 k ∧
      Keep (FW w wr #[.int .i64 t, .int .i64 n, .int .i64 st, .slice A ps.length c] gF n ((List.range k).map (fun s => 2 ^ s) ++ List.replicate (n - k) 0)))
    case atStart => exact ⟨0, by omega, by omega, rfl, U⟩
    case round =>
      clear U g0
      obtain ⟨k, hk, hg, rfl, U⟩ := hrel
      have g0 := U.out.bg.cell 0
      simp at g0
      by_cases hlt : k < t
      · have cc := U.out.bf.cell k
        rw [u64s_gn _ k (by rw [U.out.lf]; omega)] at cc
        have cf := U.out.bf.frozen k
        have i2 : (k : Int) < n := by omega
        go_wp2
        go_roundg (t - (k + 1))
        case measure => omega
        case rel =>
          refine ⟨k + 1, by omega, by omega, by go_num, ⟨?_⟩⟩
          have := U.out.setF k (2 ^ k)
          rw [pow_set k n (by omega)] at this
          rw [wrap_pow k (by omega)]
          exact this
      · have ek : k = t := by omega
        subst ek
        have H0 : ((List.range k).map (fun s => 2 ^ s) ++ List.replicate (n - k) 0).length = n ∧ ∀ x ∈ (List.range k).map (fun s => 2 ^ s) ++ List.replicate (n - k) 0, x < 2 ^ 64 :=
          ⟨U.out.lf, first0_lt k (n - k) (by omega)⟩
        have HS : Keep (firstLoop ps (64 * n + 1) ⟨(List.range k).map (fun s => 2 ^ s) ++ List.replicate (n - k) 0, true⟩ = firstLoop ps (64 * n + 1) ⟨first0 ⟨k, n, st, ps⟩, true⟩) := ⟨by simp [first0]⟩
        have HF0 : Keep (lack ((List.range k).map (fun s => 2 ^ s) ++ List.replicate (n - k) 0) < 64 * n + 1) := ⟨by
          have := lack_le ((List.range k).map (fun s => 2 ^ s) ++ List.replicate (n - k) 0)
          rw [H0.1] at this
          omega⟩
        have HB0 := Keep.mk H0.2
        clear H0
        go_wp2
        go_loopg [5] (64 * n + 1) (fun gg s5 wr => ∃ u : Fi, s5 = .bool u.more ∧ Keep (u.more = true → lack u.m < gg) ∧ Keep (∀ x ∈ u.m, x < 2 ^ 64) ∧
          Keep (FW w wr #[.int .i64 k, .int .i64 n, .int .i64 st, .slice A ps.length c] gF n u.m) ∧ Keep (firstLoop ps gg u = firstLoop ps (64 * n + 1) ⟨first0 ⟨k, n, st, ps⟩, true⟩))
        case atStart => exact ⟨_, rfl, ⟨fun _ => HF0.out⟩, HB0, U, HS⟩
        case round =>
          clear U HS HF0 HB0 g0
          obtain ⟨⟨m, more⟩, rfl, HF, HB, U, HL⟩ := hrel
          dsimp only at *
          cases more with
          | false =>
            replace HL := HL.out
            rw [firstLoop_done _ _ _ rfl] at HL
            have HE : Keep (m = firstEnd ⟨k, n, st, ps⟩) := ⟨by unfold firstEnd; dsimp only; rw [Int.toNat_natCast, ← HL]⟩
            clear HL
            go_wp2
            go_ret
            exact HPost.out _ m gF HE.out U.out.lf HB.out U.out.gf U.out.bf U.out.bw
          | true =>
            obtain ⟨fu, rfl⟩ : ∃ m, gk = m + 1 := ⟨gk - 1, by have := HF.out rfl; omega⟩
            replace HL := HL.out
            rw [firstLoop_go _ _ _ rfl] at HL
            have HL2 := Keep.mk HL
            have HR := Keep.mk (firstRound_le (n := n) (u := ⟨m, true⟩) (ps := ps) U.out.lf HB.out (fun p hp => (P0.out p hp).2.1))
            clear HL
            have h3 := U.out.bg.cell 3
            simp at h3
            go_wp2
            go_loopg [5, 27] ps.length (fun gg s5 s27 wr => ∃ (j : Nat) (u : Fi), j ≤ ps.length ∧ ps.length - j ≤ gg ∧ s5 = .bool u.more ∧ s27 = .int .i64 j ∧
              Keep (u = (ps.take j).foldl firstIn ⟨m, false⟩) ∧ Keep (∀ x ∈ u.m, x < 2 ^ 64) ∧ Keep (FW w wr #[.int .i64 k, .int .i64 n, .int .i64 st, .slice A ps.length c] gF n u.m))
            case atStart => exact ⟨0, ⟨m, false⟩, Nat.zero_le _, by omega, rfl, rfl, ⟨by simp⟩, HB, U⟩
            case round =>
              clear U h3 HB
              obtain ⟨j, u, hj, hgj, rfl, rfl, HU, HB, U⟩ := hrel
              by_cases hltj : j < ps.length
              · obtain ⟨ad, Ab, cb, rfl, hb, c0, c1, c2, hlb, hrb⟩ := R0.out j hltj
                replace c0 := cell_below c0 U.out.bw (by rw [add_block]; exact hb)
                replace c1 := cell_below c1 U.out.bw (by show (ad.add _).block < _; rw [add_block]; exact hb)
                replace c2 := cell_below c2 U.out.bw (by show (ad.add _).block < _; rw [add_block]; exact hb)
                have hbl := B0.out _ (List.getElem_mem hltj)
                have hpi := Keep.mk (P0.out _ (List.getElem_mem hltj))
                have HU2 : Keep ((ps.take (j + 1)).foldl firstIn ⟨m, false⟩ = firstIn u ps[j]) := ⟨by rw [List.take_succ_eq_append_getElem hltj, List.foldl_append, ← HU.out]; rfl⟩
                have HN := Keep.mk (firstIn_le (p := ps[j]) U.out.lf HB.out hpi.out.2.1)
                clear HU
                generalize hx : ps[j] = p at *
                clear hx
                obtain ⟨hd, bd, rt⟩ := p
                dsimp only at *
                obtain ⟨d, rfl⟩ := Int.eq_ofNat_of_zero_le hpi.out.1
                have hdn : (d : Int) < n := by have := hpi.out.2.1; simp at this; omega
                obtain ⟨a2, rfl, hb2, hc2⟩ := hrb.int 0 hbl.1
                rw [show a2.add 0 = a2 from rfl] at hc2
                have hfx : firstX u.m ⟨d, bd, rt⟩ = (gn u.m d ||| gn u.m (bd[0]'hbl.1)) := by
                  unfold firstX
                  rw [show bd.getD 0 0 = bd[0]'hbl.1 from by simp [hbl.1]]
                have HX : Keep (((gn u.m d ||| gn u.m (bd[0]'hbl.1)) = gn u.m d → firstIn u ⟨d, bd, rt⟩ = u) ∧ (¬ (gn u.m d ||| gn u.m (bd[0]'hbl.1)) = gn u.m d → firstIn u ⟨d, bd, rt⟩ = ⟨u.m.set d (gn u.m d ||| gn u.m (bd[0]'hbl.1)), true⟩)) := ⟨by
                  rw [← hfx]
                  exact ⟨fun h => if_pos h, fun h => if_neg h⟩⟩
                clear hfx
                have hy := hpi.out.2.2 _ (List.getElem_mem hbl.1)
                have hbl1 : (0 : Int) < bd.length := by have := hbl.1; omega
                replace hc2 := cell_below hc2 U.out.bw hb2
                generalize bd[0]'hbl.1 = y at *
                obtain ⟨y, rfl⟩ := Int.eq_ofNat_of_zero_le hy.1
                have hyn : (y : Int) < n := by have := hy.2; simp at this; omega
                have i1 : (0:Int) ≤ j := by omega
                have i2 : (j : Int) < ps.length := by omega
                have ca := U.out.bf.cell d
                rw [u64s_gn _ d (by rw [U.out.lf]; omega)] at ca
                have cb' := U.out.bf.cell y
                rw [u64s_gn _ y (by rw [U.out.lf]; omega)] at cb'
                have cf := U.out.bf.frozen d
                have nw : gF < wr.heap.size := U.out.bf.lt
                have ha2 : a2.block < wr.heap.size := cell_lt hc2
                have hor := or64 (gn u.m d) (gn u.m y) (gn_lt HB.out _) (gn_lt HB.out _)
                clear hbl hy
                generalize gn u.m d = v1 at *
                generalize gn u.m y = v2 at *
                by_cases hne : (v1 ||| v2) = v1
                · have t1 : ((((v1 ||| v2 : Nat) : Int)) != (v1 : Int)) = false := by simp [hne]
                  have e : Keep (firstIn u ⟨d, bd, rt⟩ = u) := ⟨HX.out.1 hne⟩
                  clear hne
                  generalize (v1 ||| v2 : Nat) = v3 at *
                  go_wp2
                  go_quiet (fail)
                  go_wp2
                  go_roundg (ps.length - (j + 1))
                  case measure => omega
                  case rel => exact ⟨j + 1, u, by omega, by omega, rfl, by go_num, ⟨by rw [HU2.out, e.out]⟩, HB, ⟨(U.out.alloc _).drewN _⟩⟩
                · have t1 : ((((v1 ||| v2 : Nat) : Int)) != (v1 : Int)) = true := by simp; omega
                  have e : Keep (firstIn u ⟨d, bd, rt⟩ = ⟨u.m.set d (v1 ||| v2), true⟩) := ⟨HX.out.2 hne⟩
                  clear hne
                  have HN2 := Keep.mk HN.out.b
                  rw [e.out] at HN2
                  generalize (v1 ||| v2 : Nat) = v3 at *
                  go_wp2
                  go_quiet (fail)
                  go_wp2
                  go_roundg (ps.length - (j + 1))
                  case measure => omega
                  case rel => exact ⟨j + 1, ⟨u.m.set d v3, true⟩, by omega, by omega, rfl, by go_num, ⟨by rw [HU2.out, e.out]⟩, HN2, ⟨((U.out.alloc _).drewN _).setF d v3⟩⟩
              · have em : j = ps.length := by omega
                subst em
                go_wp2
                go_roundg fu
                case measure => omega
                case rel =>
                  have hu : u = firstRound ps ⟨m, true⟩ := by rw [HU.out, List.take_length]; rfl
                  refine ⟨u, rfl, ⟨fun h => ?_⟩, HB, U, ⟨by rw [hu]; exact HL2.out⟩⟩
                  have h1 := HR.out.2.2
                  rw [← hu] at h1
                  have h2 := HF.out (by first | rfl | trivial)
                  have h3 := h1 h
                  omega
end Go.Proofs.Ytofidghilcbegaa.H
namespace Go.Proofs.Ytofidghilcbegaa.H
open Go.RowKit
set_option linter.unusedVariables false
set_option linter.unusedSimpArgs false
theorem checkI_zero {g : Gr} (h : checkI g = 0) : numbersB g = true ∧ (∀ p ∈ g.ps, 0 < p.body.length ∧ p.body.length ≤ 8) ∧ usedB g = true ∧ roundB g = false := by
  unfold checkI at h
  by_cases h1 : numbersB g = false
  · rw [if_pos h1] at h; cases h
  rw [if_neg h1] at h
  by_cases h2 : g.ps.any (fun p => decide (8 < p.body.length)) = true
  · rw [if_pos h2] at h; cases h
  rw [if_neg h2] at h
  by_cases h3 : g.ps.any (fun p => decide (p.body.length = 0)) = true
  · rw [if_pos h3] at h; cases h
  rw [if_neg h3] at h
  by_cases h4 : usedB g = false
  · rw [if_pos h4] at h; cases h
  rw [if_neg h4] at h
  by_cases h5 : roundB g = true
  · rw [if_pos h5] at h; cases h
  refine ⟨by simpa using h1, fun p hp => ?_, by simpa using h4, by simpa using h5⟩
  simp only [List.any_eq_true, decide_eq_true_eq, not_exists, not_and] at h2 h3
  have := h2 p hp
  have := h3 p hp
  omega
theorem GrIn.ok {g : Gr} (h : checkI g = 0) : GrOk g := (numbersB_ok (checkI_zero h).1).1
def goes {α : Type} (more : α → Bool) (round : α → α) : Nat → α → α
  | 0, u => u
  | k + 1, u => if more u then goes more round k (round u) else u
theorem goes_end {α : Type} (more : α → Bool) (round : α → α) (μ : α → Nat) (I : α → Prop) (hI : ∀ u, I u → I (round u)) (hμ : ∀ u, I u → more (round u) = true → μ (round u) < μ u) :
    ∀ k u, I u → μ u < k → more u = true → ∃ v, I v ∧ goes more round k u = round v ∧ more (round v) = false := by
  intro k
  induction k with
  | zero => intro u _ h _; omega
  | succ k ih =>
    intro u hu hk hm
    unfold goes
    rw [if_pos hm]
    cases h : more (round u) with
    | false =>
      refine ⟨u, hu, ?_, h⟩
      cases k with
      | zero => rfl
      | succ k => unfold goes; rw [if_neg (by simp [h])]
    | true => exact ih (round u) (hI u hu) (by have := hμ u hu h; omega) h
inductive Cm (st : Int) (ps : List Pr) : Int → Prop where
  | start : Cm st ps st
  | step {p : Pr} {y : Int} (hp : p ∈ ps) (h : Cm st ps p.head) (hy : y ∈ p.body) : Cm st ps y
inductive Gd (T : Int) (ps : List Pr) : Int → Prop where
  | term {s : Int} (h0 : 0 ≤ s) (h : s < T) : Gd T ps s
  | head {p : Pr} (hp : p ∈ ps) (h : ∀ y ∈ p.body, Gd T ps y) : Gd T ps p.head
theorem usedLoop_goes (ps : List Pr) (k : Nat) : ∀ u, usedLoop ps k u = goes Us.more (usedRound ps) k u := by
  induction k with
  | zero => intro u; rfl
  | succ k ih => intro u; simp only [usedLoop, goes]; split <;> simp [ih]
theorem gb_set {m : List Bool} {i : Int} {b : Bool} (hi : 0 ≤ i) (h : i.toNat < m.length) (s : Int) (hs : 0 ≤ s) : gb (m.set i.toNat b) s = if s = i then b else gb m s := by
  unfold gb
  rw [List.getD_eq_getElem?_getD, List.getD_eq_getElem?_getD, List.getElem?_set]
  by_cases e : s = i
  · subst e; simp [h]
  · have : ¬ i.toNat = s.toNat := by omega
    simp [this, e]
theorem gb_rep (a b : Nat) (x y : Bool) (s : Int) (hs : s.toNat < a + b) : gb (List.replicate a x ++ List.replicate b y) s = if s.toNat < a then x else y := by
  unfold gb
  rw [List.getD_eq_getElem?_getD]
  by_cases h : s.toNat < a
  · rw [List.getElem?_append_left (by simpa using h)]
    simp [h]
  · rw [List.getElem?_append_right (by simpa using h)]
    have : s.toNat - a < b := by omega
    simp [h, this]
structure UsI (T : Int) (n : Nat) (st : Int) (ps : List Pr) (u : Us) : Prop where
  lc : u.come.length = n
  lg : u.good.length = n
  sv : gb u.come st = true
  tm : ∀ s : Int, 0 ≤ s → s < T → gb u.good s = true
  c : ∀ s : Int, 0 ≤ s → s.toNat < n → gb u.come s = true → Cm st ps s
  g : ∀ s : Int, 0 ≤ s → s.toNat < n → gb u.good s = true → Gd T ps s
theorem comeIn_I {T : Int} {n : Nat} {st : Int} {ps : List Pr} {u : Us} {p : Pr} {y : Int} (hst : 0 ≤ st) (hp : p ∈ ps) (hin : PrIn n p) (hy : y ∈ p.body) (h : UsI T n st ps u) : UsI T n st ps (comeIn p.head u y) := by
  have hyn := hin.2.2 y hy
  unfold comeIn
  split
  · rename_i ht
    simp only [Bool.and_eq_true, Bool.not_eq_true'] at ht
    refine ⟨by simp [h.lc], h.lg, ?_, h.tm, fun s hs hsn hc => ?_, h.g⟩
    · dsimp only
      rw [gb_set hyn.1 (by rw [h.lc]; exact hyn.2) _ hst]
      split
      · rfl
      · exact h.sv
    · dsimp only at hc
      rw [gb_set hyn.1 (by rw [h.lc]; exact hyn.2) _ hs] at hc
      split at hc
      · rename_i e
        rw [e]
        exact .step hp (h.c p.head hin.1 hin.2.1 ht.1) hy
      · exact h.c s hs hsn hc
  · exact h
theorem goodIn_I {T : Int} {n : Nat} {st : Int} {ps : List Pr} {u : Us} {p : Pr} (hp : p ∈ ps) (hin : PrIn n p) (h : UsI T n st ps u) : UsI T n st ps (goodIn p u) := by
  unfold goodIn
  split
  · rename_i ht
    simp only [Bool.and_eq_true, Bool.not_eq_true'] at ht
    have hall : ∀ y ∈ p.body, gb u.good y = true := by
      intro y hy
      have h2 := List.any_eq_false.1 ht.2 y hy
      simpa using h2
    refine ⟨h.lc, by simp [h.lg], h.sv, fun s hs hsT => ?_, h.c, fun s hs hsn hc => ?_⟩
    · dsimp only
      rw [gb_set hin.1 (by rw [h.lg]; exact hin.2.1) _ hs]
      split
      · rfl
      · exact h.tm s hs hsT
    · dsimp only at hc
      rw [gb_set hin.1 (by rw [h.lg]; exact hin.2.1) _ hs] at hc
      split at hc
      · rename_i e
        rw [e]
        exact .head hp (fun y hy => h.g y (hin.2.2 y hy).1 (hin.2.2 y hy).2 (hall y hy))
      · exact h.g s hs hsn hc
  · exact h
theorem comeAll_I {T : Int} {n : Nat} {st : Int} {ps : List Pr} {p : Pr} (hst : 0 ≤ st) (hp : p ∈ ps) (hin : PrIn n p) (l : List Int) (hl : ∀ y ∈ l, y ∈ p.body) : ∀ u : Us, UsI T n st ps u → UsI T n st ps (l.foldl (comeIn p.head) u) := by
  induction l with
  | nil => intro u h; exact h
  | cons y l ih => intro u h; exact ih (fun q hq => hl q (by simp [hq])) _ (comeIn_I hst hp hin (hl y (by simp)) h)
theorem usedAll_I {T : Int} {n : Nat} {st : Int} {ps : List Pr} (hst : 0 ≤ st) (hin : ∀ p ∈ ps, PrIn n p) (l : List Pr) (hl : ∀ p ∈ l, p ∈ ps) : ∀ u : Us, UsI T n st ps u → UsI T n st ps (l.foldl usedStep u) := by
  induction l with
  | nil => intro u h; exact h
  | cons p l ih =>
    intro u h
    have hp := hl p (by simp)
    exact ih (fun q hq => hl q (by simp [hq])) _ (comeAll_I hst hp (hin p hp) p.body (fun _ h => h) _ (goodIn_I hp (hin p hp) h))
theorem comeAll_still {h : Int} (l : List Int) : ∀ u : Us, (l.foldl (comeIn h) u).more = false → l.foldl (comeIn h) u = u ∧ u.more = false ∧ ∀ y ∈ l, gb u.come h = true → gb u.come y = true := by
  induction l with
  | nil => intro u h; exact ⟨rfl, h, by simp⟩
  | cons y l ih =>
    intro u hm
    obtain ⟨h1, h2, h3⟩ := ih (comeIn h u y) hm
    have e : comeIn h u y = u := by
      unfold comeIn at h2 ⊢
      split at h2
      · cases h2
      · rename_i hc; rw [if_neg hc]
    have e2 : gb u.come h = true → gb u.come y = true := by
      intro hh
      unfold comeIn at h2
      split at h2
      · cases h2
      · rename_i hc
        simp only [Bool.and_eq_true, Bool.not_eq_true', not_and, Bool.not_eq_false] at hc
        exact hc hh
    rw [e] at h1 h2 h3
    refine ⟨by rw [List.foldl_cons, e, h1], h2, fun z hz => ?_⟩
    rcases List.mem_cons.1 hz with rfl | hz
    · exact e2
    · exact h3 z hz
theorem usedAll_still (l : List Pr) : ∀ u : Us, (l.foldl usedStep u).more = false → l.foldl usedStep u = u ∧ u.more = false ∧ ∀ p ∈ l, (gb u.come p.head = true → ∀ y ∈ p.body, gb u.come y = true) ∧ ((∀ y ∈ p.body, gb u.good y = true) → gb u.good p.head = true) := by
  induction l with
  | nil => intro u h; exact ⟨rfl, h, by simp⟩
  | cons p l ih =>
    intro u hm
    obtain ⟨h1, h2, h3⟩ := ih (usedStep u p) hm
    obtain ⟨k1, k2, k3⟩ := comeAll_still p.body (goodIn p u) h2
    have e : goodIn p u = u ∧ ((∀ y ∈ p.body, gb u.good y = true) → gb u.good p.head = true) := by
      unfold goodIn at k2
      unfold goodIn
      split at k2
      · cases k2
      · rename_i hc
        refine ⟨by rw [if_neg hc], fun hall => ?_⟩
        simp only [Bool.and_eq_true, Bool.not_eq_true', not_and] at hc
        apply Classical.byContradiction
        intro hng
        refine hc (by simpa using hng) ?_
        rw [List.any_eq_false]
        intro y hy
        rw [hall y hy]; simp
    have e1 : usedStep u p = u := by
      unfold usedStep
      rw [e.1] at k1 ⊢
      exact k1
    rw [e.1] at k3
    rw [e1] at h1 h2 h3
    refine ⟨by rw [List.foldl_cons, e1, h1], h2, fun q hq => ?_⟩
    rcases List.mem_cons.1 hq with rfl | hq
    · exact ⟨fun hh y hy => k3 y hy hh, e.2⟩
    · exact h3 q hq
theorem any_false_iff (l : List Bool) : l.any (fun x => false == x) = false ↔ ∀ i (h : i < l.length), l[i] = true := by
  rw [List.any_eq_false]
  constructor
  · intro h i hi
    have := h _ (List.getElem_mem hi)
    simpa using this
  · intro h x hx
    obtain ⟨i, hi, rfl⟩ := List.getElem_of_mem hx
    simp [h i hi]
theorem used_spec {g : Gr} (ok : GrOk g) : usedB g = true ↔ (∀ s, g.T ≤ s → s < g.S → Cm g.st g.ps s) ∧ (∀ s, 0 ≤ s → s < g.S → Gd g.T g.ps s) := by
  have h1 := ok.t0; have h2 := ok.s0; have h3 := ok.st0; have h4 := ok.st1
  have hpin : ∀ p ∈ g.ps, PrIn g.S.toNat p := by
    intro p hp
    have h1 := ok.pr p hp
    exact ⟨by omega, by omega, fun s hs => by have := h1.2.2 s hs; omega⟩
  have hst : 0 ≤ g.st := by omega
  have I0 : UsI g.T g.S.toNat g.st g.ps (used0 g) := by
    refine ⟨by simp [used0], by simp [used0]; omega, ?_, fun s hs hsT => ?_, fun s hs hsn hc => ?_, fun s hs hsn hc => ?_⟩
    · simp only [used0]
      rw [gb_set hst (by simp; omega) _ hst, if_pos rfl]
    · simp only [used0]
      rw [gb_rep _ _ _ _ _ (by omega), if_pos (by omega)]
    · simp only [used0] at hc
      rw [gb_set hst (by simp; omega) _ hs] at hc
      split at hc
      · rename_i e; rw [e]; exact .start
      · exfalso
        have : gb (List.replicate g.S.toNat false) s = false := by
          unfold gb; rw [List.getD_eq_getElem?_getD, List.getElem?_replicate]; split <;> rfl
        rw [this] at hc; cases hc
    · simp only [used0] at hc
      rw [gb_rep _ _ _ _ _ (by omega)] at hc
      split at hc
      · exact .term hs (by omega)
      · cases hc
  have hround : ∀ u, UsI g.T g.S.toNat g.st g.ps u → UsI g.T g.S.toNat g.st g.ps (usedRound g.ps u) :=
    fun u hu => usedAll_I hst hpin g.ps (fun _ h => h) _ ⟨hu.lc, hu.lg, hu.sv, hu.tm, hu.c, hu.g⟩
  have hle : falses (used0 g) < 2 * g.S.toNat + 1 := by
    have a1 := List.count_le_length (l := (used0 g).come) (a := false)
    have a2 := List.count_le_length (l := (used0 g).good) (a := false)
    rw [I0.lc] at a1
    rw [I0.lg] at a2
    unfold falses
    omega
  obtain ⟨v, hv, e, hm⟩ := goes_end Us.more (usedRound g.ps) falses (UsI g.T g.S.toNat g.st g.ps) hround
    (fun u hu hm => (usedRound_le (n := g.S.toNat) hu.lc hu.lg hpin).2.2 hm) (2 * g.S.toNat + 1) (used0 g) I0 hle rfl
  have hend : usedEnd g = usedRound g.ps v := by unfold usedEnd; rw [usedLoop_goes, e]
  obtain ⟨k1, _, k3⟩ := usedAll_still g.ps { v with more := false } hm
  have hfin := hround v hv
  have ec : (usedEnd g).come = v.come := by rw [hend]; show (g.ps.foldl usedStep { v with more := false }).come = _; rw [k1]
  have eg : (usedEnd g).good = v.good := by rw [hend]; show (g.ps.foldl usedStep { v with more := false }).good = _; rw [k1]
  have hC : ∀ s, 0 ≤ s → s < g.S → (gb v.come s = true ↔ Cm g.st g.ps s) := by
    intro s hs hsS
    refine ⟨fun h => hv.c s hs (by omega) h, fun h => ?_⟩
    clear hs hsS
    induction h with
    | start => exact hv.sv
    | step hp _ hy ih => exact (k3 _ hp).1 ih _ hy
  have hG : ∀ s, 0 ≤ s → s < g.S → (gb v.good s = true ↔ Gd g.T g.ps s) := by
    intro s hs hsS
    refine ⟨fun h => hv.g s hs (by omega) h, fun h => ?_⟩
    clear hs hsS
    induction h with
    | term h0 h => exact hv.tm _ h0 h
    | head hp _ ih => exact (k3 _ hp).2 ih
  have getb : ∀ (l : List Bool) (i : Nat) (h : i < l.length), gb l (i : Int) = l[i] := by
    intro l i h; unfold gb; simp [h]
  unfold usedB
  rw [Bool.and_eq_true, Bool.not_eq_true', Bool.not_eq_true', any_false_iff, any_false_iff, ec, eg]
  constructor
  · rintro ⟨a1, a2⟩
    refine ⟨fun s hsT hsS => ?_, fun s hs hsS => ?_⟩
    · refine (hC s (by omega) hsS).1 ?_
      have := a1 (s.toNat - g.T.toNat) (by rw [List.length_drop, hv.lc]; omega)
      rw [List.getElem_drop] at this
      have e : (s : Int) = ((g.T.toNat + (s.toNat - g.T.toNat) : Nat) : Int) := by omega
      rw [e, getb _ _ (by rw [hv.lc]; omega)]
      exact this
    · refine (hG s hs hsS).1 ?_
      have := a2 s.toNat (by rw [hv.lg]; omega)
      have e : (s : Int) = ((s.toNat : Nat) : Int) := by omega
      rw [e, getb _ _ (by rw [hv.lg]; omega)]
      exact this
  · rintro ⟨a1, a2⟩
    refine ⟨fun i hi => ?_, fun i hi => ?_⟩
    · rw [List.length_drop, hv.lc] at hi
      rw [List.getElem_drop, ← getb _ _ (by rw [hv.lc]; omega)]
      exact (hC _ (by omega) (by omega)).2 (a1 _ (by omega) (by omega))
    · rw [hv.lg] at hi
      rw [← getb _ _ (by rw [hv.lg]; omega)]
      exact (hG _ (by omega) (by omega)).2 (a2 _ (by omega) (by omega))
def Cyc (ps : List Pr) (X : Int → Prop) : Prop := ∀ s, X s → ∃ p ∈ ps, p.head = s ∧ p.body.length = 1 ∧ X (p.body.getD 0 0)
theorem roundLoop_goes (ps : List Pr) (T n k : Nat) : ∀ u, roundLoop ps T n k u = goes Ro.more (roundRound ps T n) k u := by
  induction k with
  | zero => intro u; rfl
  | succ k ih => intro u; simp only [roundLoop, goes]; split <;> simp [ih]
structure RoI (g : Gr) (u : Ro) : Prop where
  l : u.left.length = g.S.toNat
  t : ∀ s : Int, 0 ≤ s → gb u.left s = true → g.T ≤ s
  x : ∀ X : Int → Prop, (∀ s, X s → g.T ≤ s ∧ s < g.S) → Cyc g.ps X → ∀ s, X s → gb u.left s = true
theorem roundIn_I {g : Gr} {u : Ro} {s : Nat} (hT : 0 ≤ g.T) (hs : s < g.S.toNat) (h : RoI g u) : RoI g (roundIn g.ps u s) := by
  unfold roundIn
  split
  · rename_i hc
    simp only [Bool.and_eq_true, Bool.not_eq_true'] at hc
    refine ⟨by simp [h.l], fun y hy hg => ?_, fun X hX hC y hy => ?_⟩
    · dsimp only at hg
      have := gb_set (m := u.left) (i := (s : Int)) (b := false) (by omega) (by rw [h.l]; simpa using hs) y hy
      simp only [Int.toNat_natCast] at this
      rw [this] at hg
      split at hg
      · cases hg
      · exact h.t y hy hg
    · dsimp only
      have h0 : 0 ≤ y := by have := (hX y hy).1; omega
      have := gb_set (m := u.left) (i := (s : Int)) (b := false) (by omega) (by rw [h.l]; simpa using hs) y h0
      simp only [Int.toNat_natCast] at this
      rw [this]
      by_cases e : y = s
      · exfalso
        subst e
        obtain ⟨p, hp, e1, e2, e3⟩ := hC _ hy
        have h1 := h.x X hX hC _ e3
        have h2 := List.any_eq_false.1 hc.2 p hp
        simp only [leads, e1, e2, h1] at h2
        simp at h2
      · rw [if_neg e]
        exact h.x X hX hC y hy
  · exact h
theorem roundAll_I {g : Gr} (hT : 0 ≤ g.T) (l : List Nat) (hl : ∀ s ∈ l, s < g.S.toNat) : ∀ u, RoI g u → RoI g (l.foldl (roundIn g.ps) u) := by
  induction l with
  | nil => intro u h; exact h
  | cons s l ih => intro u h; exact ih (fun y hy => hl y (List.mem_cons_of_mem _ hy)) _ (roundIn_I hT (hl s List.mem_cons_self) h)
theorem roundAll_still {ps : List Pr} (l : List Nat) : ∀ u : Ro, (l.foldl (roundIn ps) u).more = false → l.foldl (roundIn ps) u = u ∧ u.more = false ∧ ∀ s ∈ l, gb u.left s = true → ps.any (leads u.left s) = true := by
  induction l with
  | nil => intro u h; exact ⟨rfl, h, by simp⟩
  | cons s l ih =>
    intro u h
    rw [List.foldl_cons] at h ⊢
    obtain ⟨h1, h2, h3⟩ := ih _ h
    have hn : ¬ ((gb u.left s && !(ps.any (leads u.left s))) = true) := by
      intro hc
      unfold roundIn at h2
      rw [if_pos hc] at h2
      cases h2
    have he : roundIn ps u s = u := by unfold roundIn; rw [if_neg hn]
    rw [he] at h1 h2 h3 ⊢
    refine ⟨h1, h2, fun y hy hg => ?_⟩
    rcases List.mem_cons.1 hy with rfl | hy
    · simp only [Bool.and_eq_true, Bool.not_eq_true', not_and, Bool.not_eq_false] at hn
      exact hn hg
    · exact h3 y hy hg
theorem round_spec {g : Gr} (ok : GrOk g) : roundB g = true ↔ ∃ X : Int → Prop, (∃ s, X s) ∧ (∀ s, X s → g.T ≤ s ∧ s < g.S) ∧ Cyc g.ps X := by
  have hT0 := ok.t0
  have hS := ok.s0
  have I0 : RoI g (round0 g.T.toNat g.S.toNat) := by
    refine ⟨by simp [round0]; omega, fun s hs hg => ?_, fun X hX hC s hs => ?_⟩
    · unfold round0 at hg
      dsimp only at hg
      by_cases hlt : s.toNat < g.T.toNat + (g.S.toNat - g.T.toNat)
      · rw [gb_rep _ _ _ _ _ hlt] at hg
        split at hg
        · cases hg
        · omega
      · omega
    · unfold round0
      dsimp only
      have := hX s hs
      rw [gb_rep _ _ _ _ _ (by omega), if_neg (by omega)]
  have hround : ∀ u, RoI g u → RoI g (roundRound g.ps g.T.toNat g.S.toNat u) :=
    fun u hu => roundAll_I (by omega) _ (fun s hs => by have := List.mem_range'_1.1 hs; omega) _ ⟨hu.l, hu.t, hu.x⟩
  obtain ⟨v, hv, e, hm⟩ := goes_end Ro.more (roundRound g.ps g.T.toNat g.S.toNat) (fun u => u.left.count true) (RoI g) hround
    (fun u hu hm => (roundRound_le (n := g.S.toNat) hu.l).2 hm) (g.S.toNat + 1) (round0 g.T.toNat g.S.toNat) I0
    (by have := List.count_le_length (a := true) (l := (round0 g.T.toNat g.S.toNat).left); have h1 := I0.l; omega) rfl
  have hend : roundEnd g = roundRound g.ps g.T.toNat g.S.toNat v := by unfold roundEnd; rw [roundLoop_goes, e]
  obtain ⟨h1, _, h3⟩ := roundAll_still _ ⟨v.left, false⟩ hm
  have hsame : (roundEnd g).left = v.left := by rw [hend]; unfold roundRound; rw [h1]
  unfold roundB
  rw [hsame]
  constructor
  · intro ha
    obtain ⟨b, hb, hb2⟩ := List.any_eq_true.1 ha
    have hb3 : b = true := by simpa using hb2
    subst hb3
    obtain ⟨i, hi, hib⟩ := List.getElem_of_mem hb
    refine ⟨fun s => 0 ≤ s ∧ gb v.left s = true, ⟨(i : Int), by omega, by unfold gb; rw [List.getD_eq_getElem?_getD]; simp [hi, hib]⟩, fun s hs => ⟨hv.t s hs.1 hs.2, ?_⟩, fun s hs => ?_⟩
    · apply Classical.byContradiction
      intro hlt
      have := hs.2
      unfold gb at this
      rw [List.getD_eq_getElem?_getD, List.getElem?_eq_none (by rw [hv.l]; omega)] at this
      cases this
    · have hsT := hv.t s hs.1 hs.2
      have hsS : s.toNat < g.S.toNat := by
        apply Classical.byContradiction
        intro hlt
        have := hs.2
        unfold gb at this
        rw [List.getD_eq_getElem?_getD, List.getElem?_eq_none (by rw [hv.l]; omega)] at this
        cases this
      have hss : ((s.toNat : Nat) : Int) = s := Int.toNat_of_nonneg hs.1
      have := h3 s.toNat (List.mem_range'_1.2 ⟨by omega, by omega⟩) (by rw [hss]; exact hs.2)
      rw [hss] at this
      obtain ⟨p, hp, hl⟩ := List.any_eq_true.1 this
      simp only [leads, Bool.and_eq_true, decide_eq_true_eq] at hl
      refine ⟨p, hp, hl.1.1, hl.1.2, ?_, hl.2⟩
      have hb0 : p.body.getD 0 0 ∈ p.body := by
        rw [List.getD_eq_getElem?_getD, List.getElem?_eq_getElem (by omega)]
        exact List.getElem_mem _
      exact ((ok.pr p hp).2.2 _ hb0).1
  · rintro ⟨X, ⟨s, hs⟩, hX, hC⟩
    have hg := hv.x X hX hC s hs
    have := hX s hs
    have hlt : s.toNat < v.left.length := by rw [hv.l]; omega
    refine List.any_eq_true.2 ⟨v.left[s.toNat], List.getElem_mem hlt, ?_⟩
    unfold gb at hg
    rw [List.getD_eq_getElem?_getD, List.getElem?_eq_getElem hlt] at hg
    simpa using hg
end Go.Proofs.Ytofidghilcbegaa.H
namespace Go.Proofs.Ytofidghilcbegaa.H
open Go.RowKit
set_option linter.unusedVariables false
set_option linter.unusedSimpArgs false
def firstR (g : Gr) (s : Int) : List Int × Int := if checkI g = 0 then (if 0 ≤ s ∧ s < g.S then (tlist (gn (firstEnd g) s), 0) else ([], 2)) else ([], checkI g)
def ListErr (w : World) (r : List Int × Int) (e : Ending) (w' : World) : Prop :=
  ∃ v, e = .returned (.tuple #[v, .int .i64 r.2]) ∧ OwnI w' w.heap.size v r.1 ∧ Below w.heap.size w w'
set_option maxRecDepth 100000 in
set_option maxHeartbeats 2000000 in
theorem first_any (g : Gr) (s : Int) (A : Option Addr) (c : Nat) (w : World) (h : GrIn w g A c) :
    Calls Try.prog 18 #[grV g A c, .int .i64 s] w (ListErr w (firstR g s)) := by
  have H0 := Keep.mk h
  clear h
  have K1 := Keep.mk fun W (hW : Below w.heap.size w W) => check_any g A c W (H0.out.below hW)
  have K2 : Keep (checkI g = 0 → ∀ W, Below w.heap.size w W → Calls Try.prog 42 #[grV g A c] W _) := ⟨fun hz W hW => firsts_any g A c W (H0.out.below hW).r (GrIn.ok hz)
    (fun p hp => ⟨((checkI_zero hz).2.1 p hp).1, H0.out.b p hp⟩)⟩
  have HS : Keep (checkI g = 0 → GrOk g) := ⟨GrIn.ok⟩
  have HR : Keep (firstR g s = if checkI g = 0 then (if 0 ≤ s ∧ s < g.S then (tlist (gn (firstEnd g) s), 0) else ([], 2)) else ([], checkI g)) := ⟨rfl⟩
  generalize checkI g = E at *
  generalize firstR g s = R at *
  generalize firstEnd g = F at *
  obtain ⟨T, S, st, ps⟩ := g
  unfold grV at *
  dsimp only at *
  have B0 : Keep (Below w.heap.size w (w.alloc (.cells #[.int .i64 T, .int .i64 S, .int .i64 st, .slice A ps.length c] 24))) := ⟨(Below.refl _ _).alloc (Nat.le_refl _) _⟩
  have BG : Keep (Blk (w.alloc (.cells #[.int .i64 T, .int .i64 S, .int .i64 st, .slice A ps.length c] 24)) w.heap.size 24 #[.int .i64 T, .int .i64 S, .int .i64 st, .slice A ps.length c]) := ⟨Blk.new _ _ _⟩
  go_enter Try.func18, Try.ntmps18
  go_wp2_with fail
  refine (K1.out _ B0.out).mono ?_
  rintro e w1 ⟨rfl, hb⟩
  have B1 : Keep (Below w.heap.size w w1) := ⟨below_step B0.out hb B0.out.size⟩
  have BG1 := Keep.mk (BG.out.below hb BG.out.lt)
  clear BG B0 hb
  by_cases hE : E = 0
  · subst hE
    have q0 := BG1.out.cell 0
    have q1 := BG1.out.cell 1
    have q2 := BG1.out.cell 2
    have q3 := BG1.out.cell 3
    simp at q0 q1 q2 q3
    by_cases hs : 0 ≤ s ∧ s < S
    · obtain ⟨hs0, hs1⟩ := hs
      have HR2 : Keep (R = (tlist (gn F s), 0)) := ⟨by rw [HR.out, if_pos rfl, if_pos ⟨hs0, hs1⟩]⟩
      have ok := HS.out rfl
      obtain ⟨n, rfl⟩ := Int.eq_ofNat_of_zero_le (show 0 ≤ S by have := ok.t0; have := ok.s0; dsimp only at *; omega)
      obtain ⟨y, rfl⟩ := Int.eq_ofNat_of_zero_le hs0
      clear ok HS HR
      go_wp2_with fail
      refine (K2.out (by first | rfl | trivial) _ B1.out).mono ?_
      rintro e w2 ⟨gF, rfl, hF, hl, hlt, hg, hb⟩
      have cF := hF.cell y
      have B2 : Keep (Below w.heap.size w w2) := ⟨below_step B1.out hb B1.out.size⟩
      simp only [Int.toNat_natCast] at hl
      rw [u64s_gn _ y (by omega)] at cF
      have KL := Keep.mk (list_any (gn F y) w2 (gn_lt hlt _))
      clear hF hlt hg hb hl q0 q1 q2 q3
      simp only [Int.toNat_natCast]
      generalize gn F y = v at *
      go_wp2_with fail
      refine KL.out.mono ?_
      rintro e w3 ⟨v3, rfl, ho, hb⟩
      have B3 : Keep (Below w.heap.size w w3) := ⟨below_step B2.out hb B2.out.size⟩
      have HO := Keep.mk (ho.mono B2.out.size)
      clear ho hb
      go_wp2
      go_ret2
      rw [HR2.out]
      exact ⟨v3, rfl, HO.out, B3.out⟩
    · have HR2 : Keep (R = ([], 2)) := ⟨by rw [HR.out, if_pos rfl, if_neg hs]⟩
      clear HR
      go_wp2
      all_goals
        go_ret2
        rw [HR2.out]
        exact ⟨_, rfl, OwnI.nil _ _, B1.out⟩
  · have t : ((E : Int) != 0) = true := by simp [hE]
    have HR2 : Keep (R = ([], E)) := ⟨by rw [HR.out, if_neg hE]⟩
    clear HR hE
    go_wp2
    go_ret2
    rw [HR2.out]
    exact ⟨_, rfl, OwnI.nil _ _, B1.out⟩
end Go.Proofs.Ytofidghilcbegaa.H
namespace Go.Proofs.Ytofidghilcbegaa.H
open Go.RowKit
set_option linter.unusedVariables false
set_option linter.unusedSimpArgs false
def followX (F : List Nat) (p : Pr) (m : List Nat) (k : Nat) : Nat := if k + 1 < p.body.length then gn F (p.body.getD (k + 1) 0) else gn m p.head
def followIn (F : List Nat) (p : Pr) (u : Fi) (k : Nat) : Fi :=
  if followX F p u.m k ||| gn u.m (p.body.getD k 0) = gn u.m (p.body.getD k 0) then u else ⟨u.m.set (p.body.getD k 0).toNat (gn u.m (p.body.getD k 0) ||| followX F p u.m k), true⟩
def followBody (F : List Nat) (u : Fi) (p : Pr) : Fi := (List.range p.body.length).foldl (followIn F p) u
def followRound (F : List Nat) (ps : List Pr) (u : Fi) : Fi := ps.foldl (followBody F) ⟨u.m, false⟩
def followLoop (F : List Nat) (ps : List Pr) : Nat → Fi → Fi
  | 0, u => u
  | k + 1, u => if u.more then followLoop F ps k (followRound F ps u) else u
def follow0 (g : Gr) : List Nat := (List.replicate g.S.toNat 0).set g.st.toNat (2 ^ g.T.toNat)
def followEnd (g : Gr) : List Nat := (followLoop (firstEnd g) g.ps (64 * g.S.toNat + 1) ⟨follow0 g, true⟩).m
def followR (g : Gr) (s : Int) : List Int × Int := if checkI g = 0 then (if 0 ≤ s ∧ s < g.S then (tlist (gn (followEnd g) s), 0) else ([], 2)) else ([], checkI g)
theorem followX_lt {F m : List Nat} {p : Pr} {k : Nat} (hF : ∀ x ∈ F, x < 2 ^ 64) (hm : ∀ x ∈ m, x < 2 ^ 64) : followX F p m k < 2 ^ 64 := by
  unfold followX
  split
  · exact gn_lt hF _
  · exact gn_lt hm _
theorem followIn_le {n : Nat} {F : List Nat} {p : Pr} {u : Fi} {k : Nat} (hF : ∀ x ∈ F, x < 2 ^ 64) (hc : u.m.length = n) (hb : ∀ x ∈ u.m, x < 2 ^ 64) (hp : (p.body.getD k 0).toNat < n) : FiLe n u (followIn F p u k) := by
  unfold followIn
  split
  · exact ⟨hc, hb, Nat.le_refl _, fun h => .inl h⟩
  · rename_i ht
    have hx := followX_lt (p := p) (k := k) hF hb
    have h1 := lack_or (gn u.m (p.body.getD k 0)) (followX F p u.m k) hx (by rw [Nat.or_comm]; exact ht)
    have h2 := lack_set u.m (p.body.getD k 0).toNat (gn u.m (p.body.getD k 0) ||| followX F p u.m k) (by omega) h1
    exact ⟨by simp [hc], set_lt hb _ _ (Nat.or_lt_two_pow (gn_lt hb _) hx), Nat.le_of_lt h2, fun _ => .inr h2⟩
theorem followBody_le {n : Nat} {F : List Nat} {p : Pr} (hF : ∀ x ∈ F, x < 2 ^ 64) (l : List Nat) : ∀ {u : Fi}, u.m.length = n → (∀ x ∈ u.m, x < 2 ^ 64) → (∀ k ∈ l, (p.body.getD k 0).toNat < n) → FiLe n u (l.foldl (followIn F p) u) := by
  induction l with
  | nil => intro u hc hb _; exact ⟨hc, hb, Nat.le_refl _, fun h => .inl h⟩
  | cons k l ih =>
    intro u hc hb hs
    have h1 := followIn_le hF hc hb (hs k (by simp))
    exact h1.trans (ih h1.c h1.b (fun s hs' => hs s (by simp [hs'])))
theorem getD_in {n : Nat} {p : Pr} (hp : PrIn n p) : ∀ k ∈ List.range p.body.length, (p.body.getD k 0).toNat < n := by
  intro k hk
  have hk' := List.mem_range.1 hk
  rw [List.getD_eq_getElem?_getD, List.getElem?_eq_getElem hk']
  exact (hp.2.2 _ (List.getElem_mem hk')).2
theorem followAll_le {n : Nat} {F : List Nat} (hF : ∀ x ∈ F, x < 2 ^ 64) (l : List Pr) : ∀ {u : Fi}, u.m.length = n → (∀ x ∈ u.m, x < 2 ^ 64) → (∀ p ∈ l, PrIn n p) → FiLe n u (l.foldl (followBody F) u) := by
  induction l with
  | nil => intro u hc hb _; exact ⟨hc, hb, Nat.le_refl _, fun h => .inl h⟩
  | cons p l ih =>
    intro u hc hb hs
    have h1 : FiLe n u (followBody F u p) := followBody_le hF (List.range p.body.length) hc hb (getD_in (hs p (by simp)))
    exact h1.trans (ih h1.c h1.b (fun s hs' => hs s (by simp [hs'])))
theorem followRound_le {n : Nat} {F : List Nat} {ps : List Pr} {u : Fi} (hF : ∀ x ∈ F, x < 2 ^ 64) (hc : u.m.length = n) (hb : ∀ x ∈ u.m, x < 2 ^ 64) (hp : ∀ p ∈ ps, PrIn n p) :
    (followRound F ps u).m.length = n ∧ (∀ x ∈ (followRound F ps u).m, x < 2 ^ 64) ∧ ((followRound F ps u).more = true → lack (followRound F ps u).m < lack u.m) := by
  have h := followAll_le (n := n) hF ps (u := ⟨u.m, false⟩) hc hb hp
  refine ⟨h.c, h.b, fun hm => ?_⟩
  rcases h.new hm with h1 | h1
  · cases h1
  · exact h1
theorem followLoop_done (F : List Nat) (ps : List Pr) (k : Nat) (u : Fi) (h : u.more = false) : followLoop F ps k u = u := by
  cases k with
  | zero => rfl
  | succ k => simp [followLoop, h]
theorem followLoop_go (F : List Nat) (ps : List Pr) (k : Nat) (u : Fi) (h : u.more = true) : followLoop F ps (k + 1) u = followLoop F ps k (followRound F ps u) := by simp [followLoop, h]
structure LW (w wr : World) (gv : Array Value) (gF gO n : Nat) (F m : List Nat) : Prop where
  bw : Below w.heap.size w wr
  bg : Blk wr w.heap.size 24 gv
  bf : Blk wr gF 48 (u64s F)
  bo : Blk wr gO 48 (u64s m)
  gf : w.heap.size < gF
  go : w.heap.size < gO
  ne : gO ≠ gF
  lF : F.length = n
  lf : m.length = n
section
variable {w wr w' : World} {gv : Array Value} {gF gO n : Nat} {F m : List Nat}
theorem LW.below (h : LW w wr gv gF gO n F m) (hb : Below wr.heap.size wr w') : LW w w' gv gF gO n F m :=
  ⟨below_step h.bw hb h.bw.size, h.bg.below hb h.bg.lt, h.bf.below hb h.bf.lt, h.bo.below hb h.bo.lt, h.gf, h.go, h.ne, h.lF, h.lf⟩
theorem LW.alloc (h : LW w wr gv gF gO n F m) (o : Obj) : LW w (wr.alloc o) gv gF gO n F m := h.below ((Below.refl _ _).alloc (Nat.le_refl _) o)
theorem LW.drewN (h : LW w wr gv gF gO n F m) (k : Nat) : LW w (wr.drewN k) gv gF gO n F m := h.below (below_drewN (Below.refl _ _) k)
theorem LW.setF (h : LW w wr gv gF gO n F m) (i b : Nat) : LW w (wr.setCell ⟨gO, i, none⟩ (.int .u64 (b : Int))) gv gF gO n F (m.set i b) := by
  refine ⟨h.bw.setCell (by show w.heap.size ≤ gO; have := h.go; omega) _, h.bg.far (by show _ ≠ gO; have := h.go; omega) _, h.bf.far (fun e => h.ne e.symm) _, ?_, h.gf, h.go, h.ne, h.lF, by simp [h.lf]⟩
  have := h.bo.set_ i (.int .u64 (b : Int))
  rwa [u64s_set] at this
end
end Go.Proofs.Ytofidghilcbegaa.H
namespace Go.Proofs.Ytofidghilcbegaa.H
open Go.RowKit
set_option linter.unusedVariables false
set_option linter.unusedSimpArgs false
set_option maxRecDepth 100000 in
set_option maxHeartbeats 6000000 in
theorem follow_any (g : Gr) (s : Int) (A : Option Addr) (c : Nat) (w : World) (h : GrIn w g A c) :
    Calls Try.prog 22 #[grV g A c, .int .i64 s] w (ListErr w (followR g s)) := by
  have H0 := Keep.mk h
  clear h
  have K1 := Keep.mk fun W (hW : Below w.heap.size w W) => check_any g A c W (H0.out.below hW)
  have K2 : Keep (checkI g = 0 → ∀ W, Below w.heap.size w W → Calls Try.prog 42 #[grV g A c] W _) := ⟨fun hz W hW => firsts_any g A c W (H0.out.below hW).r (GrIn.ok hz)
    (fun p hp => ⟨((checkI_zero hz).2.1 p hp).1, H0.out.b p hp⟩)⟩
  have HS : Keep (checkI g = 0 → GrOk g) := ⟨GrIn.ok⟩
  have HP : Keep (checkI g = 0 → ∀ p ∈ g.ps, 0 < p.body.length ∧ p.body.length ≤ 8) := ⟨fun h => (checkI_zero h).2.1⟩
  have HR : Keep (followR g s = if checkI g = 0 then (if 0 ≤ s ∧ s < g.S then (tlist (gn (followLoop (firstEnd g) g.ps (64 * g.S.toNat + 1) ⟨(List.replicate g.S.toNat 0).set g.st.toNat (2 ^ g.T.toNat), true⟩).m s), 0) else ([], 2)) else ([], checkI g)) := ⟨rfl⟩
  generalize checkI g = E at *
  generalize followR g s = R at *
  generalize firstEnd g = F at *
  obtain ⟨T, S, st, ps⟩ := g
  unfold grV at *
  dsimp only at *
  have B0 : Keep (Below w.heap.size w (w.alloc (.cells #[.int .i64 T, .int .i64 S, .int .i64 st, .slice A ps.length c] 24))) := ⟨(Below.refl _ _).alloc (Nat.le_refl _) _⟩
  have BG : Keep (Blk (w.alloc (.cells #[.int .i64 T, .int .i64 S, .int .i64 st, .slice A ps.length c] 24)) w.heap.size 24 #[.int .i64 T, .int .i64 S, .int .i64 st, .slice A ps.length c]) := ⟨Blk.new _ _ _⟩
  go_enter Try.func22, Try.ntmps22
  go_wp2_with fail
  refine (K1.out _ B0.out).mono ?_
  rintro e w1 ⟨rfl, hb⟩
  have B1 : Keep (Below w.heap.size w w1) := ⟨below_step B0.out hb B0.out.size⟩
  have BG1 := Keep.mk (BG.out.below hb BG.out.lt)
  clear BG B0 hb
  by_cases hE : E = 0
  · subst hE
    have q0 := BG1.out.cell 0
    have q1 := BG1.out.cell 1
    have q2 := BG1.out.cell 2
    have q3 := BG1.out.cell 3
    simp at q0 q1 q2 q3
    by_cases hs : 0 ≤ s ∧ s < S
    · obtain ⟨hs0, hs1⟩ := hs
      have HR2 : Keep (R = (tlist (gn (followLoop F ps (64 * S.toNat + 1) ⟨(List.replicate S.toNat 0).set st.toNat (2 ^ T.toNat), true⟩).m s), 0)) := ⟨by rw [HR.out, if_pos rfl, if_pos ⟨hs0, hs1⟩]⟩
      have ok := HS.out rfl
      have hpp := HP.out rfl
      have KF := Keep.mk (K2.out rfl)
      obtain ⟨t0, t1, s0, s1, st0, st1, n0, n1, pr⟩ := ok
      dsimp only at *
      obtain ⟨t, rfl⟩ := Int.eq_ofNat_of_zero_le (show 0 ≤ T by omega)
      obtain ⟨n, rfl⟩ := Int.eq_ofNat_of_zero_le (show 0 ≤ S by omega)
      obtain ⟨a, rfl⟩ := Int.eq_ofNat_of_zero_le (show 0 ≤ st by omega)
      obtain ⟨y, rfl⟩ := Int.eq_ofNat_of_zero_le hs0
      have P0 : Keep (∀ p ∈ ps, PrIn n p) := ⟨fun p hp => ⟨by have := pr p hp; omega, by have := pr p hp; omega, fun s hs => by have := (pr p hp).2.2 s hs; omega⟩⟩
      have L0 : Keep (∀ p ∈ ps, p.body.length ≤ 8) := ⟨fun p hp => (hpp p hp).2⟩
      simp only [Int.toNat_natCast] at HR2
      clear HS HR HP K2 pr hpp n0 hs0
      have hmk := @run_make_row' Try.prog 49 48 (.int .u64 0) 8 Try.underlying49 info_u64 rfl .i64 .i64 n (by omega) (by omega)
      simp only [madeCells_u64s] at hmk
      go_upto_region 6 with fail
      go_cut [7, 8] (fun s7 s8 wx => ∃ gF gO : Nat, s7 = .slice (some ⟨gF, 0, none⟩) n n ∧ s8 = .slice (some ⟨gO, 0, none⟩) n n ∧ Keep (∀ x ∈ F, x < 2 ^ 64) ∧
        Keep (LW w wx #[.int .i64 t, .int .i64 n, .int .i64 a, .slice A ps.length c] gF gO n F (List.replicate n 0)))
      case first =>
        have hsz := BG1.out.lt
        go_region_with (go_at_call 42; refine (KF.out _ (by first | exact below_drew1 B1.out | exact (below_drew1 B1.out).alloc (by simp; exact B1.out.size) _ | exact B1.out | exact B1.out.alloc B1.out.size _)).mono ?_; rintro e w2 ⟨gF, rfl, hF, hl, hlt, hg, hb⟩; have BG2 : Blk w2 w.heap.size 24 #[.int .i64 t, .int .i64 n, .int .i64 a, .slice A ps.length c] := (by first | exact BG1.out.drew.below hb BG1.out.lt | exact (BG1.out.drew.alloc _).below hb (by simp; have := BG1.out.lt; omega)); have q1' := BG2.cell 1; simp at q1'; have hsz2 := BG2.lt; have BG3 := Keep.mk BG2; have HF := Keep.mk hF; clear BG2 hF)
        all_goals go_wp2_with fail
        all_goals go_meet
        all_goals first
          | exact ⟨gF, w2.heap.size, rfl, rfl, ⟨hlt⟩, ⟨(below_step (below_drew1 B1.out) hb B1.out.size).alloc (Nat.le_of_lt hsz2) _, BG3.out.alloc _, HF.out.alloc _, Blk.new _ _ _, Nat.lt_of_lt_of_le hsz hg, hsz2, Nat.ne_of_gt HF.out.lt, by simpa using hl, by simp⟩⟩
          | exact ⟨gF, w1.heap.size, rfl, rfl, ⟨hlt⟩, ⟨below_step ((below_drew1 B1.out).alloc B1.out.size (.cells (u64s (List.replicate n 0)) 48)) hb (by simp; have := B1.out.size; omega), BG3.out, HF.out,
              (Blk.newAt rfl : Blk (w1.drew.alloc (.cells (u64s (List.replicate n 0)) 48)) w1.heap.size 48 _).below hb (by simp), by simp at hg; omega, hsz, by simp at hg; omega, by simpa using hl, by simp⟩⟩
      case rest =>
        obtain ⟨gF, gO, rfl, rfl, HF, U⟩ := hcut
        clear q0 q1 q2 q3 BG1 B1 K1 KF
        clear w1
        have q0 := U.out.bg.cell 0
        have q2 := U.out.bg.cell 2
        simp at q0 q2
        have ca := U.out.bo.cell a
        rw [u64s_gn _ a (by simp; omega)] at ca
        have cf := U.out.bo.frozen a
        have i1 : (a : Int) < n := by omega
        go_upto_region 7 with fail
        go_cut [] (fun wx => Keep (LW w wx #[.int .i64 t, .int .i64 n, .int .i64 a, .slice A ps.length c] gF gO n F ((List.replicate n 0).set a (2 ^ t))))
        case first =>
          go_region
          all_goals (go_wp2_with fail; go_meet)
          all_goals (refine ⟨?_⟩; rw [wrap_pow t (by omega)]; exact (U.out.drewN 1).setF a (2 ^ t))
        case rest =>
          have U := hcut
          clear hcut q0 q2 ca cf
          have H0b : Keep (∀ x ∈ (List.replicate n 0).set a (2 ^ t), x < 2 ^ 64) := ⟨set_lt (fun x hx => by have := (List.mem_replicate.1 hx).2; omega) a (2 ^ t) (Nat.pow_lt_pow_right (by decide) (by omega))⟩
          have HF0 : Keep (lack ((List.replicate n 0).set a (2 ^ t)) < 64 * n + 1) := ⟨by
            have := lack_le ((List.replicate n 0).set a (2 ^ t))
            simp only [List.length_set, List.length_replicate] at this
            omega⟩
          clear i1
          go_wp2
          go_loopg [9] (64 * n + 1) (fun gg s9 wr => ∃ u : Fi, s9 = .bool u.more ∧ Keep (u.more = true → lack u.m < gg) ∧ Keep (∀ x ∈ u.m, x < 2 ^ 64) ∧
            Keep (LW w wr #[.int .i64 t, .int .i64 n, .int .i64 a, .slice A ps.length c] gF gO n F u.m) ∧ Keep (followLoop F ps gg u = followLoop F ps (64 * n + 1) ⟨(List.replicate n 0).set a (2 ^ t), true⟩))
          case atStart => exact ⟨⟨(List.replicate n 0).set a (2 ^ t), true⟩, rfl, ⟨fun _ => HF0.out⟩, H0b, U, ⟨rfl⟩⟩
          case round =>
            clear U HF0 H0b
            obtain ⟨⟨m, more⟩, rfl, HM, HB, U, HL⟩ := hrel
            dsimp only at *
            cases more with
            | false =>
              replace HL := HL.out
              rw [followLoop_done _ _ _ _ rfl] at HL
              have HE : Keep (R = (tlist (gn m y), 0)) := ⟨by rw [HR2.out, ← HL]⟩
              clear HL HR2
              have cy := U.out.bo.cell y
              rw [u64s_gn _ y (by rw [U.out.lf]; omega)] at cy
              have KL := Keep.mk (list_any (gn m y) wr (gn_lt HB.out _))
              generalize gn m y = v at *
              have i1 : (y : Int) < n := by omega
              go_wp2_with fail
              refine KL.out.mono ?_
              rintro e w3 ⟨v3, rfl, ho, hb⟩
              have B3 : Keep (Below w.heap.size w w3) := ⟨below_step U.out.bw hb U.out.bw.size⟩
              have HO := Keep.mk (ho.mono U.out.bw.size)
              clear ho hb
              go_wp2
              go_ret2
              rw [HE.out]
              exact ⟨v3, rfl, HO.out, B3.out⟩
            | true =>
              obtain ⟨fu, rfl⟩ : ∃ m, gk = m + 1 := ⟨gk - 1, by have := HM.out rfl; omega⟩
              replace HL := HL.out
              rw [followLoop_go _ _ _ _ rfl] at HL
              have HL2 := Keep.mk HL
              have HRn := Keep.mk (followRound_le (n := n) (u := ⟨m, true⟩) (ps := ps) HF.out U.out.lf HB.out P0.out)
              clear HL
              have h3 := U.out.bg.cell 3
              simp at h3
              go_wp2
              go_loopg [9, 44] ps.length (fun gg s9 s44 wr => ∃ (j : Nat) (u : Fi), j ≤ ps.length ∧ ps.length - j ≤ gg ∧ s9 = .bool u.more ∧ s44 = .int .i64 j ∧
                Keep (u = (ps.take j).foldl (followBody F) ⟨m, false⟩) ∧ Keep (∀ x ∈ u.m, x < 2 ^ 64) ∧ Keep (LW w wr #[.int .i64 t, .int .i64 n, .int .i64 a, .slice A ps.length c] gF gO n F u.m))
              case atStart => exact ⟨0, ⟨m, false⟩, Nat.zero_le _, by omega, rfl, rfl, ⟨by simp⟩, HB, U⟩
              case round =>
                clear U h3 HB
                obtain ⟨j, u, hj, hgj, rfl, rfl, HU, HB, U⟩ := hrel
                by_cases hltj : j < ps.length
                · obtain ⟨ad, Ab, cb, rfl, hb, c0, c1, c2, hlb, hrb⟩ := H0.out.r j hltj
                  replace c0 := cell_below c0 U.out.bw (by rw [add_block]; exact hb)
                  replace c1 := cell_below c1 U.out.bw (by show (ad.add _).block < _; rw [add_block]; exact hb)
                  replace c2 := cell_below c2 U.out.bw (by show (ad.add _).block < _; rw [add_block]; exact hb)
                  dsimp only at c0 c1 c2 hlb hrb
                  have hbl := L0.out _ (List.getElem_mem hltj)
                  have hpi := Keep.mk (P0.out _ (List.getElem_mem hltj))
                  have HU2 : Keep ((ps.take (j + 1)).foldl (followBody F) ⟨m, false⟩ = followBody F u ps[j]) := ⟨by rw [List.take_succ_eq_append_getElem hltj, List.foldl_append, ← HU.out]; rfl⟩
                  clear HU
                  generalize hx : ps[j] = p at *
                  clear hx
                  obtain ⟨hd, bd, rt⟩ := p
                  dsimp only at *
                  obtain ⟨d, rfl⟩ := Int.eq_ofNat_of_zero_le hpi.out.1
                  have hdn : (d : Int) < n := by have := hpi.out.2.1; simp at this; omega
                  have i1 : (0:Int) ≤ j := by omega
                  have i2 : (j : Int) < ps.length := by omega
                  have HU3 : Keep (followBody F u ⟨d, bd, rt⟩ = (List.range bd.length).foldl (followIn F ⟨d, bd, rt⟩) u) := ⟨rfl⟩
                  have UP : Keep (LW w (wr.alloc (.cells #[.int .i64 d, .slice Ab bd.length cb, .bool rt] 38)) #[.int .i64 t, .int .i64 n, .int .i64 a, .slice (some ad) ps.length c] gF gO n F u.m) := ⟨U.out.alloc _⟩
                  have BP : Keep (Blk (wr.alloc (.cells #[.int .i64 d, .slice Ab bd.length cb, .bool rt] 38)) wr.heap.size 38 #[.int .i64 d, .slice Ab bd.length cb, .bool rt]) := ⟨Blk.new _ _ _⟩
                  have np : gF < wr.heap.size ∧ gO < wr.heap.size ∧ w.heap.size ≤ wr.heap.size := ⟨U.out.bf.lt, U.out.bo.lt, U.out.bw.size⟩
                  clear U
                  obtain ⟨wo, rfl⟩ : ∃ wo : World, wo = wr := ⟨_, rfl⟩
                  go_wp2
                  go_loopg [9, 51] bd.length (fun gg s9 s51 wr => ∃ (i : Nat) (u2 : Fi), i ≤ bd.length ∧ bd.length - i ≤ gg ∧ s9 = .bool u2.more ∧ s51 = .int .i64 i ∧ Keep (u2 = (List.range i).foldl (followIn F ⟨d, bd, rt⟩) u) ∧ Keep (∀ x ∈ u2.m, x < 2 ^ 64) ∧
                    Keep (LW w wr #[.int .i64 t, .int .i64 n, .int .i64 a, .slice (some ad) ps.length c] gF gO n F u2.m) ∧ Keep (Blk wr wo.heap.size 38 #[.int .i64 d, .slice Ab bd.length cb, .bool rt]))
                  case atStart => exact ⟨0, u, Nat.zero_le _, by omega, rfl, rfl, ⟨by simp⟩, HB, UP, BP⟩
                  case round =>
                    clear UP BP HB c0 c1 c2
                    obtain ⟨i, u2, hi, hgi, rfl, rfl, HV, HB, U, BP⟩ := hrel
                    by_cases hlti : i < bd.length
                    · obtain ⟨a2, rfl, hb2, hc2⟩ := hrb.int i hlti
                      replace hc2 := cell_below hc2 U.out.bw (by rw [add_block]; exact hb2)
                      have hs := hpi.out.2.2 _ (List.getElem_mem hlti)
                      have HV2 : Keep ((List.range (i + 1)).foldl (followIn F ⟨d, bd, rt⟩) u = followIn F ⟨d, bd, rt⟩ u2 i) := ⟨by rw [List.range_succ, List.foldl_append, ← HV.out]; rfl⟩
                      have hgz : Keep (bd.getD i 0 = bd[i]) := ⟨by simp [hlti]⟩
                      have HN := Keep.mk (followIn_le (p := ⟨d, bd, rt⟩) (k := i) HF.out U.out.lf HB.out (by dsimp only; rw [hgz.out]; exact hs.2))
                      clear HV
                      generalize bd[i] = z at *
                      obtain ⟨z, rfl⟩ := Int.eq_ofNat_of_zero_le hs.1
                      have hzn : (z : Int) < n := by have := hs.2; simp at this; omega
                      clear hs
                      have j1 : (0:Int) ≤ i := by omega
                      have j2 : (i : Int) < bd.length := by omega
                      have q0 := BP.out.cell 0
                      have q1 := BP.out.cell 1
                      simp at q0 q1
                      have cd := U.out.bo.cell d
                      rw [u64s_gn _ d (by rw [U.out.lf]; omega)] at cd
                      by_cases hnx : i + 1 < bd.length
                      · obtain ⟨a3, e3, hb3, hc3⟩ := hrb.int (i + 1) hnx
                        cases e3
                        replace hc3 := cell_below hc3 U.out.bw (by rw [add_block]; exact hb3)
                        have hs := hpi.out.2.2 _ (List.getElem_mem hnx)
                        have hg3 : Keep (bd.getD (i + 1) 0 = bd[i + 1]) := ⟨by simp [hnx]⟩
                        generalize bd[i + 1] = z3 at *
                        obtain ⟨z3, rfl⟩ := Int.eq_ofNat_of_zero_le hs.1
                        have hzn3 : (z3 : Int) < n := by have := hs.2; simp at this; omega
                        clear hs
                        simp only [Addr.add, Nat.add_eq_zero_iff, Nat.one_ne_zero, and_false, if_false] at hc3
                        have cF := U.out.bf.cell z3
                        rw [u64s_gn _ z3 (by rw [U.out.lF]; omega)] at cF
                        have HX0 : Keep (followX F ⟨d, bd, rt⟩ u2.m i = gn F z3) := ⟨by unfold followX; dsimp only; rw [if_pos hnx, hg3.out]⟩
                        obtain ⟨X, hX⟩ : ∃ X, X = gn F z3 := ⟨_, rfl⟩
                        rw [← hX] at cF HX0
                        have HX := HX0
                        clear HX0 hX
                        have j3 : (0 : Int) ≤ (i : Int) + 1 := by omega
                        have j4 : (i : Int) + 1 < bd.length := by omega
                        have j5 : ((i : Int) + 1).toNat = i + 1 := by omega
                        have hlX : X < 2 ^ 64 := by rw [← HX.out]; exact followX_lt HF.out HB.out
                        have hlv : gn u2.m z < 2 ^ 64 := gn_lt HB.out _
                        have or1 := or64 X (gn u2.m z) hlX hlv
                        have or2 := or64 (gn u2.m z) X hlv hlX
                        have cz := U.out.bo.cell z
                        rw [u64s_gn _ z (by rw [U.out.lf]; omega)] at cz
                        have cf := U.out.bo.frozen z
                        have HIN : Keep ((X ||| gn u2.m z = gn u2.m z → followIn F ⟨d, bd, rt⟩ u2 i = u2) ∧ (¬ X ||| gn u2.m z = gn u2.m z → followIn F ⟨d, bd, rt⟩ u2 i = ⟨u2.m.set z (gn u2.m z ||| X), true⟩)) := ⟨by
                          unfold followIn
                          dsimp only
                          rw [HX.out, hgz.out]
                          exact ⟨fun h => if_pos h, fun h => if_neg h⟩⟩
                        clear hlX hlv
                        generalize gn u2.m z = v at *
                        by_cases hne : (X ||| v) = v
                        · have t1 : ((((X ||| v : Nat) : Int)) != (v : Int)) = false := by simp [hne]
                          have e : Keep (followIn F ⟨d, bd, rt⟩ u2 i = u2) := ⟨HIN.out.1 hne⟩
                          clear hne
                          generalize (X ||| v : Nat) = v3 at *
                          generalize (v ||| X : Nat) = v4 at *
                          go_wp2
                          go_quiet (fail)
                          go_wp2
                          go_roundg (bd.length - (i + 1))
                          case measure => omega
                          case rel => exact ⟨i + 1, u2, by omega, by omega, rfl, by go_num, ⟨by rw [HV2.out, e.out]⟩, HB, ⟨U.out.drewN _⟩, ⟨BP.out.drewN _⟩⟩
                        · have t1 : ((((X ||| v : Nat) : Int)) != (v : Int)) = true := by simp; omega
                          have e : Keep (followIn F ⟨d, bd, rt⟩ u2 i = ⟨u2.m.set z (v ||| X), true⟩) := ⟨HIN.out.2 hne⟩
                          clear hne
                          have HN2 := Keep.mk HN.out.b
                          rw [e.out] at HN2
                          generalize (X ||| v : Nat) = v3 at *
                          generalize (v ||| X : Nat) = v4 at *
                          go_wp2
                          go_quiet (fail)
                          go_wp2
                          go_roundg (bd.length - (i + 1))
                          case measure => omega
                          case rel => exact ⟨i + 1, ⟨u2.m.set z v4, true⟩, by omega, by omega, rfl, by go_num, ⟨by rw [HV2.out, e.out]⟩, HN2, ⟨(U.out.drewN _).setF z v4⟩, ⟨(BP.out.drewN _).far (by show wo.heap.size ≠ gO; omega) _⟩⟩
                      · have j4 : ¬ ((i : Int) + 1 < bd.length) := by omega
                        have HX0 : Keep (followX F ⟨d, bd, rt⟩ u2.m i = gn u2.m d) := ⟨by unfold followX; dsimp only; rw [if_neg hnx]⟩
                        obtain ⟨X, hX⟩ : ∃ X, X = gn u2.m d := ⟨_, rfl⟩
                        rw [← hX] at cd HX0
                        have HX := HX0
                        clear HX0 hX
                        have hlX : X < 2 ^ 64 := by rw [← HX.out]; exact followX_lt HF.out HB.out
                        have hlv : gn u2.m z < 2 ^ 64 := gn_lt HB.out _
                        have or1 := or64 X (gn u2.m z) hlX hlv
                        have or2 := or64 (gn u2.m z) X hlv hlX
                        have cz := U.out.bo.cell z
                        rw [u64s_gn _ z (by rw [U.out.lf]; omega)] at cz
                        have cf := U.out.bo.frozen z
                        have HIN : Keep ((X ||| gn u2.m z = gn u2.m z → followIn F ⟨d, bd, rt⟩ u2 i = u2) ∧ (¬ X ||| gn u2.m z = gn u2.m z → followIn F ⟨d, bd, rt⟩ u2 i = ⟨u2.m.set z (gn u2.m z ||| X), true⟩)) := ⟨by
                          unfold followIn
                          dsimp only
                          rw [HX.out, hgz.out]
                          exact ⟨fun h => if_pos h, fun h => if_neg h⟩⟩
                        clear hlX hlv
                        generalize gn u2.m z = v at *
                        by_cases hne : (X ||| v) = v
                        · have t1 : ((((X ||| v : Nat) : Int)) != (v : Int)) = false := by simp [hne]
                          have e : Keep (followIn F ⟨d, bd, rt⟩ u2 i = u2) := ⟨HIN.out.1 hne⟩
                          clear hne
                          generalize (X ||| v : Nat) = v3 at *
                          generalize (v ||| X : Nat) = v4 at *
                          go_wp2
                          go_quiet (fail)
                          go_wp2
                          go_roundg (bd.length - (i + 1))
                          case measure => omega
                          case rel => exact ⟨i + 1, u2, by omega, by omega, rfl, by go_num, ⟨by rw [HV2.out, e.out]⟩, HB, ⟨U.out.drewN _⟩, ⟨BP.out.drewN _⟩⟩
                        · have t1 : ((((X ||| v : Nat) : Int)) != (v : Int)) = true := by simp; omega
                          have e : Keep (followIn F ⟨d, bd, rt⟩ u2 i = ⟨u2.m.set z (v ||| X), true⟩) := ⟨HIN.out.2 hne⟩
                          clear hne
                          have HN2 := Keep.mk HN.out.b
                          rw [e.out] at HN2
                          generalize (X ||| v : Nat) = v3 at *
                          generalize (v ||| X : Nat) = v4 at *
                          go_wp2
                          go_quiet (fail)
                          go_wp2
                          go_roundg (bd.length - (i + 1))
                          case measure => omega
                          case rel => exact ⟨i + 1, ⟨u2.m.set z v4, true⟩, by omega, by omega, rfl, by go_num, ⟨by rw [HV2.out, e.out]⟩, HN2, ⟨(U.out.drewN _).setF z v4⟩, ⟨(BP.out.drewN _).far (by show wo.heap.size ≠ gO; omega) _⟩⟩
                    · have ei : i = bd.length := by omega
                      subst ei
                      go_wp2
                      go_roundg (ps.length - (j + 1))
                      case measure => omega
                      case rel => exact ⟨j + 1, u2, by omega, by omega, rfl, by go_num, ⟨by rw [HU2.out, HU3.out, HV.out]⟩, HB, U⟩
                · have em : j = ps.length := by omega
                  subst em
                  go_wp2
                  go_roundg fu
                  case measure => omega
                  case rel =>
                    have hu : u = followRound F ps ⟨m, true⟩ := by rw [HU.out, List.take_length]; rfl
                    refine ⟨u, rfl, ⟨fun h => ?_⟩, HB, U, ⟨by rw [hu]; exact HL2.out⟩⟩
                    have h1 := HRn.out.2.2
                    rw [← hu] at h1
                    have h2 := HM.out (by first | rfl | trivial)
                    have h3 := h1 h
                    omega
    · have HR2 : Keep (R = ([], 2)) := ⟨by rw [HR.out, if_pos rfl, if_neg hs]⟩
      clear HR
      go_wp2
      all_goals
        go_ret2
        rw [HR2.out]
        exact ⟨_, rfl, OwnI.nil _ _, B1.out⟩
  · have t : ((E : Int) != 0) = true := by simp [hE]
    have HR2 : Keep (R = ([], E)) := ⟨by rw [HR.out, if_neg hE]⟩
    clear HR hE
    go_wp2
    go_ret2
    rw [HR2.out]
    exact ⟨_, rfl, OwnI.nil _ _, B1.out⟩
end Go.Proofs.Ytofidghilcbegaa.H
namespace Go.Proofs.Ytofidghilcbegaa.H
open Go.RowKit
set_option linter.unusedVariables false
set_option linter.unusedSimpArgs false
def sizeOfGr (ps : List Pr) : Nat := ps.length + (ps.map (·.body.length)).sum
def bigB (g : Gr) : Bool := decide (100000 < sizeOfGr g.ps)
set_option maxRecDepth 100000 in
set_option maxHeartbeats 2000000 in
theorem grammarBig_any (g : Gr) (A : Option Addr) (c : Nat) (w : World) (h : GrIn w g A c) :
    Calls Try.prog 27 #[grV g A c, .int .i64 100000] w fun e w' => e = .returned (.bool (bigB g)) ∧ Below w.heap.size w w' := by
  have H0 := Keep.mk h
  have HL : g.ps.length ≤ 9223372036854775807 := by have := h.l; have := h.l2; omega
  have HR : Keep (bigB g = decide (100000 < g.ps.length + (g.ps.map (·.body.length)).sum)) := ⟨rfl⟩
  generalize bigB g = R at *
  clear h
  obtain ⟨T, S, st, ps⟩ := g
  unfold grV at *
  dsimp only at *
  have BG : Keep (Blk (w.alloc (.cells #[.int .i64 T, .int .i64 S, .int .i64 st, .slice A ps.length c] 24)) w.heap.size 24 #[.int .i64 T, .int .i64 S, .int .i64 st, .slice A ps.length c]) := ⟨Blk.new _ _ _⟩
  go_enter Try.func27, Try.ntmps27
  go_upto_region 2 with fail
  go_cut [5, 6] (fun s5 s6 wx => ∃ q : Nat, s5 = .int .i64 q ∧ s6 = .int .i64 0 ∧ q ≤ 200001 ∧ Keep ((q ≤ 100000 → q = ps.length) ∧ (100000 < q → 100000 < ps.length)) ∧ Keep (Below w.heap.size w wx) ∧ Keep (Blk wx w.heap.size 24 #[.int .i64 T, .int .i64 S, .int .i64 st, .slice A ps.length c]))
  case first =>
    by_cases hb : ps.length ≤ 100001
    · have hb' : ((ps.length : Int) ≤ 100001) := by omega
      go_wp2_with fail
      go_meet
      exact ⟨ps.length, rfl, rfl, by omega, ⟨fun _ => rfl, fun h => h⟩, ⟨(Below.refl _ _).alloc (Nat.le_refl _) _⟩, BG⟩
    · have hb' : ¬ ((ps.length : Int) ≤ 100001) := by omega
      go_wp2_with fail
      go_meet
      exact ⟨100001, rfl, rfl, by omega, ⟨fun h => absurd h (by omega), fun _ => by omega⟩, ⟨(Below.refl _ _).alloc (Nat.le_refl _) _⟩, BG⟩
  case rest =>
    obtain ⟨q, rfl, rfl, hq, HQ, HB, BG1⟩ := hcut
    clear BG
    go_wp2
    go_loopg [5, 6] ps.length (fun gg s5 s6 wr => ∃ i q : Nat, i ≤ ps.length ∧ ps.length - i ≤ gg ∧ s5 = .int .i64 q ∧ s6 = .int .i64 i ∧ q ≤ 200001 ∧ Keep ((q ≤ 100000 → q = ps.length + ((ps.take i).map (·.body.length)).sum) ∧ (100000 < q → 100000 < ps.length + (ps.map (·.body.length)).sum)) ∧
      Keep (Below w.heap.size w wr) ∧ Keep (Blk wr w.heap.size 24 #[.int .i64 T, .int .i64 S, .int .i64 st, .slice A ps.length c]))
    case atStart => exact ⟨0, q, by omega, by omega, rfl, rfl, hq, ⟨fun h => by rw [HQ.out.1 h]; simp, fun h => by have := HQ.out.2 h; omega⟩, HB, BG1⟩
    case round =>
      clear HQ HB BG1 hq
      obtain ⟨i, q, hi, hg, rfl, rfl, hq, HQ, HB, BG⟩ := hrel
      have q3 := BG.out.cell 3
      simp at q3
      by_cases hlt : i < ps.length
      · by_cases hk : q ≤ 100000
        · obtain ⟨ad, Ab, cb, rfl, hb, c0, c1, c2, hlb, hrb⟩ := H0.out.r i hlt
          have hbl := H0.out.b _ (List.getElem_mem hlt)
          dsimp only at c0 c1 c2 hlb hrb hbl
          replace c1 := cell_below c1 HB.out (by show (ad.add _).block < _; rw [add_block]; exact hb)
          clear c0 c2 hrb
          have HT : Keep (((ps.take (i + 1)).map (·.body.length)).sum = ((ps.take i).map (·.body.length)).sum + ps[i].body.length) := ⟨by rw [List.take_succ_eq_append_getElem hlt, List.map_append, List.sum_append]; simp⟩
          have HT2 : Keep (((ps.take (i + 1)).map (·.body.length)).sum ≤ (ps.map (·.body.length)).sum) := ⟨by
            conv => rhs; rw [← List.take_append_drop (i + 1) ps, List.map_append, List.sum_append]
            omega⟩
          have i1 : (0 : Int) ≤ i := by omega
          have i2 : (i : Int) < ps.length := by omega
          generalize ps[i] = p at *
          by_cases hp : p.body.length ≤ 100001
          · have hp' : ((p.body.length : Int) ≤ 100001) := by omega
            go_wp2
            go_roundg (ps.length - (i + 1))
            case measure => omega
            case rel =>
              refine ⟨i + 1, q + p.body.length, by omega, by omega, by go_num, by go_num, by omega, ⟨fun h => ?_, fun h => ?_⟩, HB, BG⟩
              · have := HQ.out.1 hk; have := HT.out; omega
              · have := HQ.out.1 hk; have := HT.out; have := HT2.out; omega
          · have hp' : ¬ ((p.body.length : Int) ≤ 100001) := by omega
            go_wp2
            go_roundg (ps.length - (i + 1))
            case measure => omega
            case rel =>
              refine ⟨i + 1, q + 100001, by omega, by omega, by go_num, by go_num, by omega, ⟨fun h => ?_, fun h => ?_⟩, HB, BG⟩
              · omega
              · have := HQ.out.1 hk; have := HT.out; have := HT2.out; omega
        · go_wp2
          go_ret
          refine ⟨?_, HB.out⟩
          have := HQ.out.2 (by omega)
          rw [HR.out]
          simp; omega
      · have ei : i = ps.length := by omega
        subst ei
        go_wp2
        all_goals
          go_ret
          refine ⟨?_, HB.out⟩
          have h1 := HQ.out.1
          have h2 := HQ.out.2
          rw [List.take_length] at h1
          rw [HR.out]
          simp; omega
theorem big_any (g : Gr) (A : Option Addr) (c : Nat) (w : World) (h : GrIn w g A c) :
    Calls Try.prog 12 #[grV g A c] w fun e w' => e = .returned (.bool (bigB g)) ∧ Below w.heap.size w w' := by
  have hB : Below w.heap.size w (w.alloc (.cells #[.int .i64 g.T, .int .i64 g.S, .int .i64 g.st, .slice A g.ps.length c] 24)) := (Below.refl _ _).alloc (Nat.le_refl _) _
  have K := Keep.mk (grammarBig_any g A c _ (h.below hB))
  have HB := Keep.mk hB
  clear h hB
  generalize bigB g = R at *
  obtain ⟨T, S, st, ps⟩ := g
  unfold grV at *
  dsimp only at *
  go_enter Try.func12, Try.ntmps12
  go_wp2_with fail
  refine K.out.mono ?_
  rintro e w1 ⟨rfl, hb⟩
  go_wp2
  go_ret
  exact ⟨rfl, below_step HB.out hb HB.out.size⟩
end Go.Proofs.Ytofidghilcbegaa.H
namespace Go.Proofs.Ytofidghilcbegaa.H
open Go.RowKit
set_option linter.unusedVariables false
set_option linter.unusedSimpArgs false
theorem sameInts (A1 A2 : Option Addr) (n1 n2 c1 c2 : Nat) (xs ys : List Int) (w : World)
    (hn1 : n1 = xs.length) (hn2 : n2 = ys.length) (hl1 : xs.length ≤ 9223372036854775807)
    (h1 : Rd eI 1 w w.heap.size A1 xs) (h2 : Rd eI 1 w w.heap.size A2 ys) :
    Calls Try.prog 20 #[.slice A1 n1 c1, .slice A2 n2 c2] w fun e w' => e = .returned (.bool (decide (xs = ys))) ∧ ∃ n, w' = w.drewN n := by
  subst hn1 hn2
  by_cases hne : xs.length = ys.length
  · have hne' : ((xs.length : Int) != (ys.length : Int)) = false := by simp [hne]
    have Hne := Lib.hid hne
    clear hne
    go_enter Try.func20, Try.ntmps20
    go_wp2
    go_loopg [5] xs.length (fun gg s13 wr => ∃ k : Nat, k ≤ xs.length ∧ xs.length - k ≤ gg ∧ s13 = .int .i64 k ∧ (∃ n, wr = w.drewN n) ∧ Keep (∀ j, j < k → xs[j]? = ys[j]?))
    case atStart => exact ⟨0, Nat.zero_le _, by omega, rfl, ⟨0, rfl⟩, ⟨fun j hj => absurd hj (Nat.not_lt_zero _)⟩⟩
    case round =>
      obtain ⟨k, hk, hg, rfl, ⟨n, rfl⟩, HA⟩ := hrel
      by_cases hlt : k < xs.length
      · have hlt2 : k < ys.length := by have := Hne.out; omega
        obtain ⟨a1, rfl, hb1, hc1⟩ := h1.int k hlt
        obtain ⟨a2, rfl, hb2, hc2⟩ := h2.int k hlt2
        clear h1 h2
        generalize hx : xs[k] = x at *
        generalize hy : ys[k] = y at *
        have Hx := Lib.hid hx
        have Hy := Lib.hid hy
        clear hx hy
        have i1 : (0:Int) ≤ k := by omega
        have i2 : (k : Int) < xs.length := by omega
        have i3 : (k : Int) < ys.length := by omega
        by_cases hxy : x = y
        · have t : ((x : Int) != y) = false := by simp [hxy]
          have Hxy := Lib.hid hxy
          clear hxy
          go_wp2
          go_quiet (fail)
          go_wp2
          go_roundg (xs.length - (k + 1))
          case measure => omega
          case rel =>
            refine ⟨k + 1, by omega, by omega, by go_num, ⟨_, rfl⟩, ⟨fun j hj => ?_⟩⟩
            by_cases e : j = k
            · subst e
              rw [List.getElem?_eq_getElem hlt, List.getElem?_eq_getElem hlt2, Hx.out, Hy.out, Hxy.out]
            · exact HA.out j (by omega)
        · have t : ((x : Int) != y) = true := by simp [hxy]
          have Hxy := Lib.hid hxy
          clear hxy
          go_wp2
          go_quiet (fail)
          go_wp2
          go_ret
          refine ⟨?_, ⟨_, World.drewN_drewN ..⟩⟩
          have : ¬ xs = ys := by
            rintro rfl
            exact Hxy.out (by rw [← Hx.out, ← Hy.out])
          simp [this]
      · go_wp2
        go_ret
        refine ⟨?_, ⟨_, rfl⟩⟩
        have : xs = ys := List.ext_getElem? (fun j => by
          by_cases hj : j < k
          · exact HA.out j hj
          · rw [List.getElem?_eq_none (by omega), List.getElem?_eq_none (by have := Hne.out; omega)])
        simp [this]
  · have hne' : ((xs.length : Int) != (ys.length : Int)) = true := by simp; omega
    have hxy : decide (xs = ys) = false := by simp; intro h; exact hne (by rw [h])
    clear hne
    go_enter Try.func20, Try.ntmps20
    go_wp2
    go_ret
    exact ⟨by rw [hxy]; rfl, 0, rfl⟩
theorem rd_ints {w : World} {g : Nat} {t : TypeId} {xs : List Int} {B : Nat} (h : Blk w g t (ints .i64 xs)) (hB : g < B) : Rd eI 1 w B (some ⟨g, 0, none⟩) xs := by
  intro i hi
  refine ⟨_, rfl, hB, fun j u hu => ?_⟩
  have hj : j = 0 := by
    rcases j with _ | j
    · rfl
    · simp [eI] at hu
  subst hj
  have : ((Addr.mk g 0 none).add (i * 1)).add 0 = ⟨g, i, none⟩ := by by_cases h0 : i = 0 <;> simp [Addr.add, h0]
  rw [this, h.cell i, ints_at .i64 xs i hi]
  simpa [eI] using hu
theorem rdP_at {w : World} {g : Nat} {t : TypeId} {cs : Array Value} (h : Blk w g t cs) (i : Nat) (p : Pr) (Ab : Option Addr) (cb : Nat) (h0 : cs[i * 3]? = some (.int .i64 p.head)) (h1 : cs[i * 3 + 1]? = some (.slice Ab p.body.length cb)) (h2 : cs[i * 3 + 2]? = some (.bool p.right)) :
    w.cell? ((Addr.mk g 0 none).add (i * 3)) = some (.int .i64 p.head) ∧ w.cell? ⟨((Addr.mk g 0 none).add (i * 3)).block, ((Addr.mk g 0 none).add (i * 3)).off + 1, none⟩ = some (.slice Ab p.body.length cb) ∧
    w.cell? ⟨((Addr.mk g 0 none).add (i * 3)).block, ((Addr.mk g 0 none).add (i * 3)).off + 2, none⟩ = some (.bool p.right) := by
  have e : (Addr.mk g 0 none).add (i * 3) = ⟨g, i * 3, none⟩ := by
    by_cases h0 : i = 0
    · subst h0; rfl
    · have h3 : i * 3 ≠ 0 := by omega
      simp [Addr.add, h3]
  rw [e]
  exact ⟨(h.cell _).trans h0, (h.cell _).trans h1, (h.cell _).trans h2⟩
def knownG : Gr := ⟨4, 6, 4, [⟨4, [4, 0, 5], false⟩, ⟨4, [5], false⟩, ⟨5, [1], false⟩, ⟨5, [2, 4, 3], false⟩]⟩
set_option maxRecDepth 100000 in
set_option maxHeartbeats 2000000 in
theorem known_any (w : World) :
    Calls Try.prog 34 #[] w fun e w' => ∃ A, e = .returned (grV knownG A 4) ∧ GrIn w' knownG A 4 ∧ Below w.heap.size w w' := by
  go_enter Try.func34, Try.ntmps34
  go_wp2
  generalize hw : World.alloc _ _ = wz
  have z := hw
  have b0 : Blk wz w.heap.size 24 #[.int .i64 4, .int .i64 6, .int .i64 4, .slice (some ⟨w.heap.size + 1 + 1 + 1 + 1 + 1, 0, none⟩) 4 4] := by
    rw [← hw]; exact (((((Blk.new _ _ _).alloc _).alloc _).alloc _).alloc _).alloc _
  have b1 : Blk wz (w.heap.size + 1) 3 (ints .i64 [4, 0, 5]) := by rw [← hw]; exact ((((Blk.newAt (by simp)).alloc _).alloc _).alloc _).alloc _
  have b2 : Blk wz (w.heap.size + 1 + 1) 3 (ints .i64 [5]) := by rw [← hw]; exact (((Blk.newAt (by simp)).alloc _).alloc _).alloc _
  have b3 : Blk wz (w.heap.size + 1 + 1 + 1) 3 (ints .i64 [1]) := by rw [← hw]; exact ((Blk.newAt (by simp)).alloc _).alloc _
  have b4 : Blk wz (w.heap.size + 1 + 1 + 1 + 1) 3 (ints .i64 [2, 4, 3]) := by rw [← hw]; exact (Blk.newAt (by simp)).alloc _
  have b5 : Blk wz (w.heap.size + 1 + 1 + 1 + 1 + 1) 38 #[.int .i64 4, .slice (some ⟨w.heap.size + 1, 0, none⟩) 3 3, .bool false, .int .i64 4, .slice (some ⟨w.heap.size + 1 + 1, 0, none⟩) 1 1, .bool false,
      .int .i64 5, .slice (some ⟨w.heap.size + 1 + 1 + 1, 0, none⟩) 1 1, .bool false, .int .i64 5, .slice (some ⟨w.heap.size + 1 + 1 + 1 + 1, 0, none⟩) 3 3, .bool false] := by rw [← hw]; exact Blk.newAt (by simp)
  have bw : Below w.heap.size w wz := by
    rw [← hw]
    exact ((((((Below.refl _ _).alloc (by simp) _).alloc (by simp) _).alloc (by simp; omega) _).alloc (by simp; omega) _).alloc (by simp; omega) _).alloc (by simp; omega) _
  clear hw z
  refine bodyPost_ret (v := grV knownG (some ⟨w.heap.size + 1 + 1 + 1 + 1 + 1, 0, none⟩) 4) ?_ rfl ⟨some ⟨w.heap.size + 1 + 1 + 1 + 1 + 1, 0, none⟩, rfl, ⟨by decide, by decide, ?_, ?_⟩, bw⟩
  · have c0 := b0.cell 0
    have c1 := b0.cell 1
    have c2 := b0.cell 2
    have c3 := b0.cell 3
    simp at c0 c1 c2 c3
    simp [results, Try.results34, go_sem, c0, c1, c2, c3, grV, knownG]
  · intro p hp
    have : p.body.length ≤ 3 := by
      simp only [knownG, List.mem_cons, List.not_mem_nil, or_false] at hp
      rcases hp with rfl | rfl | rfl | rfl <;> decide
    omega
  · intro i hi
    have hi4 : i < 4 := hi
    have h5 := b5.lt
    rcases i with _ | _ | _ | _ | i
    · obtain ⟨x0, x1, x2⟩ := rdP_at b5 0 ⟨4, [4, 0, 5], false⟩ _ 3 rfl rfl rfl
      exact ⟨_, _, _, rfl, h5, x0, x1, x2, Nat.le_refl _, rd_ints b1 b1.lt⟩
    · obtain ⟨x0, x1, x2⟩ := rdP_at b5 1 ⟨4, [5], false⟩ _ 1 rfl rfl rfl
      exact ⟨_, _, _, rfl, h5, x0, x1, x2, Nat.le_refl _, rd_ints b2 b2.lt⟩
    · obtain ⟨x0, x1, x2⟩ := rdP_at b5 2 ⟨5, [1], false⟩ _ 1 rfl rfl rfl
      exact ⟨_, _, _, rfl, h5, x0, x1, x2, Nat.le_refl _, rd_ints b3 b3.lt⟩
    · obtain ⟨x0, x1, x2⟩ := rdP_at b5 3 ⟨5, [2, 4, 3], false⟩ _ 3 rfl rfl rfl
      exact ⟨_, _, _, rfl, h5, x0, x1, x2, Nat.le_refl _, rd_ints b4 b4.lt⟩
    · omega
end Go.Proofs.Ytofidghilcbegaa.H
namespace Go.Proofs.Ytofidghilcbegaa.H
open Go.RowKit
set_option linter.unusedVariables false
set_option linter.unusedSimpArgs false
theorem known_check : checkI knownG = 0 := by decide +kernel
theorem known_follow : followR knownG 5 = ([0, 3, 4], 0) := by decide +kernel
theorem known_first : firstR knownG 4 = ([1, 2], 0) := by decide +kernel
def noneG : Gr := ⟨0, 0, 0, []⟩
theorem none_check : checkI noneG = 2 := by decide +kernel
theorem none_in (w : World) : GrIn w noneG none 0 := ⟨by decide, by decide, by simp [noneG], fun i hi => absurd hi (by simp [noneG])⟩
set_option maxRecDepth 100000 in
set_option maxHeartbeats 4000000 in
theorem alive_any (w : World) : Calls Try.prog 14 #[] w fun e w' => e = .returned (.bool true) ∧ Below w.heap.size w w' := by
  go_enter Try.func14, Try.ntmps14
  go_wp2_with fail
  refine (known_any _).mono ?_
  rintro e w1 ⟨A1, rfl, g1, b1⟩
  have K1 := Keep.mk (follow_any knownG 5 A1 4 w1 g1)
  rw [known_follow] at K1
  have B1 := Keep.mk b1
  clear g1 b1
  generalize hv1 : grV knownG A1 4 = v1 at *
  go_wp2_with fail
  refine K1.out.mono ?_
  rintro e w2 ⟨l1, rfl, o1, b2⟩
  obtain ⟨Al, cl, rfl, _, _, rd1, _, _⟩ := o1.open_
  have R1 := Keep.mk rd1
  have B2 := Keep.mk (below_step B1.out b2 B1.out.size)
  clear K1 rd1 b2 o1 hv1
  dsimp only [List.length_cons, List.length_nil]
  go_wp2_with fail
  refine (known_any _).mono ?_
  rintro e w3 ⟨A3, rfl, g3, b3⟩
  have K3 := Keep.mk (first_any knownG 4 A3 4 w3 g3)
  rw [known_first] at K3
  have B3 := Keep.mk (below_step B2.out b3 B2.out.size)
  have R3 := Keep.mk ((R1.out.below b3).mono b3.size)
  clear g3 b3 R1
  generalize hv3 : grV knownG A3 4 = v3 at *
  go_wp2_with fail
  refine K3.out.mono ?_
  rintro e w4 ⟨l2, rfl, o2, b4⟩
  obtain ⟨Am, cm, rfl, _, _, rd2, _, _⟩ := o2.open_
  have R4 := Keep.mk ((R3.out.below b4).mono b4.size)
  have Q4 := Keep.mk rd2
  have B4 := Keep.mk (below_step B3.out b4 B3.out.size)
  clear K3 rd2 b4 o2 hv3 R3
  dsimp only [List.length_cons, List.length_nil]
  go_wp2_with fail
  refine (known_any _).mono ?_
  rintro e w5 ⟨A5, rfl, g5, b5⟩
  have K5 := Keep.mk (check_any knownG A5 4 w5 g5)
  rw [known_check] at K5
  have B5 := Keep.mk (below_step B4.out b5 B4.out.size)
  have R5 := Keep.mk ((R4.out.below b5).mono b5.size)
  have Q5 := Keep.mk ((Q4.out.below b5).mono b5.size)
  clear g5 b5 R4 Q4
  generalize hv5 : grV knownG A5 4 = v5 at *
  go_wp2_with fail
  refine K5.out.mono ?_
  rintro e w6 ⟨rfl, b6⟩
  have B6 := Keep.mk (below_step B5.out b6 B5.out.size)
  have R6 := Keep.mk ((R5.out.below b6).mono b6.size)
  have Q6 := Keep.mk ((Q5.out.below b6).mono b6.size)
  clear K5 b6 R5 Q5 hv5
  go_wp2_with fail
  have ha : Below w6.heap.size w6 (w6.alloc (.cells (ints .i64 [0, 3, 4]) 3)) := (Below.refl _ _).alloc (Nat.le_refl _) _
  refine (sameInts Al (some ⟨w6.heap.size, 0, none⟩) 3 3 cl 3 [0, 3, 4] [0, 3, 4] (w6.alloc (.cells (ints .i64 [0, 3, 4]) 3)) rfl rfl (by decide) ((R6.out.below ha).mono ha.size) (rd_ints (Blk.new _ _ _) (Blk.new _ _ _).lt)).mono ?_
  rintro e w7 ⟨rfl, n7, rfl⟩
  have h7 := below_drewN ha n7
  have B7 := Keep.mk (below_step B6.out h7 B6.out.size)
  have Q7 := Keep.mk ((Q6.out.below h7).mono h7.size)
  clear R6 Q6 ha h7
  generalize (w6.alloc (.cells (ints .i64 [0, 3, 4]) 3)).drewN n7 = w7 at *
  rw [show decide (([0, 3, 4] : List Int) = [0, 3, 4]) = true from by decide]
  go_wp2_with fail
  have ha : Below w7.heap.size w7 (w7.alloc (.cells (ints .i64 [1, 2]) 3)) := (Below.refl _ _).alloc (Nat.le_refl _) _
  refine (sameInts Am (some ⟨w7.heap.size, 0, none⟩) 2 2 cm 2 [1, 2] [1, 2] (w7.alloc (.cells (ints .i64 [1, 2]) 3)) rfl rfl (by decide) ((Q7.out.below ha).mono ha.size) (rd_ints (Blk.new _ _ _) (Blk.new _ _ _).lt)).mono ?_
  rintro e w8 ⟨rfl, n8, rfl⟩
  have h8 := below_drewN ha n8
  have B8 := Keep.mk (below_step B7.out h8 B7.out.size)
  clear Q7 ha h8
  generalize (w7.alloc (.cells (ints .i64 [1, 2]) 3)).drewN n8 = w8 at *
  rw [show decide (([1, 2] : List Int) = [1, 2]) = true from by decide]
  have K9 := Keep.mk (check_any noneG none 0 w8 (none_in w8))
  rw [none_check] at K9
  go_wp2_with fail
  refine K9.out.mono ?_
  rintro e w9 ⟨rfl, b9⟩
  have B9 := Keep.mk (below_step B8.out b9 B8.out.size)
  clear b9 K9
  go_wp2
  go_ret
  exact ⟨rfl, B9.out⟩
end Go.Proofs.Ytofidghilcbegaa.H
namespace Go.Proofs.Ytofidghilcbegaa.H
open Go.RowKit
set_option linter.unusedVariables false
set_option linter.unusedSimpArgs false
theorem firstLoop_goes (ps : List Pr) (k : Nat) : ∀ u, firstLoop ps k u = goes Fi.more (firstRound ps) k u := by
  induction k with
  | zero => intro u; rfl
  | succ k ih => intro u; simp only [firstLoop, goes]; split <;> simp [ih]
theorem followLoop_goes (F : List Nat) (ps : List Pr) (k : Nat) : ∀ u, followLoop F ps k u = goes Fi.more (followRound F ps) k u := by
  induction k with
  | zero => intro u; rfl
  | succ k ih => intro u; simp only [followLoop, goes]; split <;> simp [ih]
theorem gn_set {m : List Nat} {i : Int} {x : Nat} (hi : 0 ≤ i) (h : i.toNat < m.length) (s : Int) (hs : 0 ≤ s) : gn (m.set i.toNat x) s = if s = i then x else gn m s := by
  unfold gn
  rw [List.getD_eq_getElem?_getD, List.getD_eq_getElem?_getD, List.getElem?_set]
  by_cases e : s = i
  · subst e; simp [h]
  · have : ¬ i.toNat = s.toNat := by omega
    simp [this, e]
inductive Beg (T : Nat) (ps : List Pr) : Int → Nat → Prop where
  | term {t : Nat} (h : t < T) : Beg T ps t t
  | head {p : Pr} {t : Nat} {y : Int} (hp : p ∈ ps) (hy : p.body[0]? = some y) (h : Beg T ps y t) : Beg T ps p.head t
theorem Beg.lt {T : Nat} {ps : List Pr} {s : Int} {t : Nat} (hb : Beg T ps s t) : t < T := by
  induction hb with
  | term h => exact h
  | head _ _ _ ih => exact ih
theorem firstX_some {m : List Nat} {p : Pr} {y : Int} (hy : p.body[0]? = some y) : firstX m p = (gn m p.head ||| gn m y) := by
  unfold firstX
  rw [List.getD_eq_getElem?_getD, hy]; rfl
theorem firstAll_still (l : List Pr) : ∀ u : Fi, (l.foldl firstIn u).more = false → u.more = false ∧ (l.foldl firstIn u).m = u.m ∧ ∀ p ∈ l, firstX u.m p = gn u.m p.head := by
  induction l with
  | nil => intro u h; exact ⟨h, rfl, by simp⟩
  | cons p l ih =>
    intro u h
    obtain ⟨h1, h2, h3⟩ := ih (firstIn u p) h
    have e : firstX u.m p = gn u.m p.head := by
      apply Classical.byContradiction
      intro hc
      unfold firstIn at h1
      rw [if_neg hc] at h1
      cases h1
    have e2 : firstIn u p = u := by unfold firstIn; rw [if_pos e]
    rw [e2] at h1 h2 h3
    refine ⟨h1, by rw [List.foldl_cons, e2]; exact h2, fun q hq => ?_⟩
    rcases List.mem_cons.1 hq with rfl | hq
    · exact e
    · exact h3 q hq
structure FirstI (T n : Nat) (ps : List Pr) (u : Fi) : Prop where
  l : u.m.length = n
  b : ∀ x ∈ u.m, x < 2 ^ 64
  t : ∀ t : Nat, t < T → (gn u.m t).testBit t = true
  s : ∀ s : Int, 0 ≤ s → s.toNat < n → ∀ t, (gn u.m s).testBit t = true → Beg T ps s t
theorem firstIn_I {T n : Nat} {ps : List Pr} {u : Fi} {p : Pr} (hp : p ∈ ps) (hin : PrIn n p) (hne : 0 < p.body.length) (h : FirstI T n ps u) : FirstI T n ps (firstIn u p) := by
  have hle := firstIn_le (p := p) h.l h.b hin.2.1
  obtain ⟨y, hy⟩ : ∃ y, p.body[0]? = some y := ⟨_, List.getElem?_eq_getElem hne⟩
  have hym : y ∈ p.body := List.mem_of_getElem? hy
  have hyn := hin.2.2 y hym
  by_cases e : firstX u.m p = gn u.m p.head
  · have e2 : firstIn u p = u := by unfold firstIn; rw [if_pos e]
    rw [e2]; exact h
  · have e2 : firstIn u p = ⟨u.m.set p.head.toNat (firstX u.m p), true⟩ := by unfold firstIn; rw [if_neg e]
    refine ⟨hle.c, hle.b, fun t ht => ?_, fun s hs hsn t ht => ?_⟩
    · rw [e2]
      dsimp only
      rw [gn_set hin.1 (by rw [h.l]; exact hin.2.1) _ (by omega)]
      split
      · rename_i e3
        rw [firstX_some hy, Nat.testBit_or, ← e3, h.t t ht, Bool.true_or]
      · exact h.t t ht
    · rw [e2] at ht
      dsimp only at ht
      rw [gn_set hin.1 (by rw [h.l]; exact hin.2.1) _ hs] at ht
      split at ht
      · rename_i e3
        rw [firstX_some hy, Nat.testBit_or, Bool.or_eq_true] at ht
        rcases ht with h1 | h1
        · rw [e3]; exact h.s p.head hin.1 hin.2.1 t h1
        · rw [e3]; exact .head hp hy (h.s y hyn.1 hyn.2 t h1)
      · exact h.s s hs hsn t ht
theorem firstAll_I {T n : Nat} {ps : List Pr} (l : List Pr) (hl : ∀ p ∈ l, p ∈ ps) (hin : ∀ p ∈ ps, PrIn n p) (hne : ∀ p ∈ ps, 0 < p.body.length) : ∀ u : Fi, FirstI T n ps u → FirstI T n ps (l.foldl firstIn u) := by
  induction l with
  | nil => intro u h; exact h
  | cons p l ih =>
    intro u h
    exact ih (fun q hq => hl q (by simp [hq])) _ (firstIn_I (hl p (by simp)) (hin p (hl p (by simp))) (hne p (hl p (by simp))) h)
theorem gn_first0 {T n : Nat} (s : Int) (hs : 0 ≤ s) : gn ((List.range T).map (fun s => 2 ^ s) ++ List.replicate (n - T) 0) s = if s.toNat < T then 2 ^ s.toNat else 0 := by
  unfold gn
  rw [List.getD_eq_getElem?_getD]
  by_cases h : s.toNat < T
  · rw [List.getElem?_append_left (by simpa using h)]
    simp [h]
  · rw [List.getElem?_append_right (by simpa using h)]
    simp only [List.length_map, List.length_range, h, if_false, List.getElem?_replicate]
    split <;> rfl
structure GrFit (g : Gr) : Prop where
  ok : GrOk g
  ne : ∀ p ∈ g.ps, 0 < p.body.length
theorem GrFit.pin {g : Gr} (h : GrFit g) : ∀ p ∈ g.ps, PrIn g.S.toNat p := by
  intro p hp
  have h1 := h.ok.pr p hp
  have h2 := h.ok.t0
  have h3 := h.ok.s0
  exact ⟨by omega, by omega, fun s hs => by have := h1.2.2 s hs; omega⟩
theorem first_spec {g : Gr} (h : GrFit g) : (firstEnd g).length = g.S.toNat ∧ (∀ x ∈ firstEnd g, x < 2 ^ 64) ∧
    ∀ s : Int, 0 ≤ s → s < g.S → ∀ t, (gn (firstEnd g) s).testBit t = true ↔ Beg g.T.toNat g.ps s t := by
  have hT := h.ok.t1
  have hS := h.ok.s0
  have hT0 := h.ok.t0
  have hpin := h.pin
  have I0 : FirstI g.T.toNat g.S.toNat g.ps ⟨first0 g, true⟩ := by
    refine ⟨by simp [first0]; omega, first0_lt _ _ (by omega), fun t ht => ?_, fun s hs hsn t ht => ?_⟩
    · unfold first0
      dsimp only
      rw [gn_first0 _ (by omega), if_pos (by simpa using ht)]
      simp [Nat.testBit_two_pow]
    · unfold first0 at ht
      dsimp only at ht
      rw [gn_first0 _ hs] at ht
      split at ht
      · rename_i h1
        rw [Nat.testBit_two_pow] at ht
        simp at ht
        subst ht
        have := Beg.term (ps := g.ps) h1
        rwa [Int.toNat_of_nonneg hs] at this
      · simp at ht
  have hround : ∀ u, FirstI g.T.toNat g.S.toNat g.ps u → FirstI g.T.toNat g.S.toNat g.ps (firstRound g.ps u) :=
    fun u hu => firstAll_I g.ps (fun _ h => h) hpin h.ne _ ⟨hu.l, hu.b, hu.t, hu.s⟩
  obtain ⟨v, hv, e, hm⟩ := goes_end Fi.more (firstRound g.ps) (fun u => lack u.m) (FirstI g.T.toNat g.S.toNat g.ps) hround
    (fun u hu hm => (firstRound_le (n := g.S.toNat) hu.l hu.b (fun p hp => (hpin p hp).2.1)).2.2 hm) (64 * g.S.toNat + 1) ⟨first0 g, true⟩ I0
    (by have := lack_le (first0 g); have h1 := I0.l; dsimp only at h1 ⊢; rw [h1] at this; omega) rfl
  have hend : firstEnd g = (firstRound g.ps v).m := by unfold firstEnd; rw [firstLoop_goes, e]
  obtain ⟨_, h2, h3⟩ := firstAll_still g.ps ⟨v.m, false⟩ hm
  have hfin := hround v hv
  have hsame : firstEnd g = v.m := by rw [hend]; exact h2
  refine ⟨by rw [hend]; exact hfin.l, by rw [hend]; exact hfin.b, fun s hs hsS t => ⟨fun ht => ?_, fun ht => ?_⟩⟩
  · rw [hend] at ht
    exact hfin.s s hs (by omega) t ht
  · rw [hsame]
    have : ∀ s t, Beg g.T.toNat g.ps s t → (gn v.m s).testBit t = true := by
      intro s t hb
      induction hb with
      | term h => exact hv.t _ h
      | head hp hy _ ih =>
        have := h3 _ hp
        rw [firstX_some hy] at this
        dsimp only at this
        rw [← this, Nat.testBit_or, ih, Bool.or_true]
    exact this s t ht
end Go.Proofs.Ytofidghilcbegaa.H
namespace Go.Proofs.Ytofidghilcbegaa.H
open Go.RowKit
set_option linter.unusedVariables false
set_option linter.unusedSimpArgs false
inductive Fol (T : Nat) (st : Int) (ps : List Pr) : Int → Nat → Prop where
  | start : Fol T st ps st T
  | next {p : Pr} {k : Nat} {y z : Int} {t : Nat} (hp : p ∈ ps) (hy : p.body[k]? = some y) (hz : p.body[k + 1]? = some z) (h : Beg T ps z t) : Fol T st ps y t
  | last {p : Pr} {k : Nat} {y : Int} {t : Nat} (hp : p ∈ ps) (hy : p.body[k]? = some y) (hl : p.body.length ≤ k + 1) (h : Fol T st ps p.head t) : Fol T st ps y t
theorem Fol.le {T : Nat} {st : Int} {ps : List Pr} {s : Int} {t : Nat} (hb : Fol T st ps s t) : t ≤ T := by
  induction hb with
  | start => exact Nat.le_refl _
  | next hp hy hz hb => exact Nat.le_of_lt hb.lt
  | last hp hy hl _ ih => exact ih
theorem getD_of {l : List Int} {k : Nat} {y : Int} (h : l[k]? = some y) : l.getD k 0 = y := by rw [List.getD_eq_getElem?_getD, h]; rfl
theorem followX_next {F m : List Nat} {p : Pr} {k : Nat} {z : Int} (hz : p.body[k + 1]? = some z) : followX F p m k = gn F z := by
  have hlt : k + 1 < p.body.length := (List.getElem?_eq_some_iff.1 hz).1
  unfold followX
  rw [if_pos hlt, getD_of hz]
theorem followX_last {F m : List Nat} {p : Pr} {k : Nat} (hl : p.body.length ≤ k + 1) : followX F p m k = gn m p.head := by
  unfold followX
  rw [if_neg (by omega)]
def FolStill (F m : List Nat) (p : Pr) (k : Nat) : Prop := (followX F p m k ||| gn m (p.body.getD k 0)) = gn m (p.body.getD k 0)
theorem followBody_still {F : List Nat} {p : Pr} (l : List Nat) : ∀ u : Fi, (l.foldl (followIn F p) u).more = false → u.more = false ∧ (l.foldl (followIn F p) u).m = u.m ∧ ∀ k ∈ l, FolStill F u.m p k := by
  induction l with
  | nil => intro u h; exact ⟨h, rfl, by simp⟩
  | cons k l ih =>
    intro u h
    obtain ⟨h1, h2, h3⟩ := ih (followIn F p u k) h
    have e : FolStill F u.m p k := by
      apply Classical.byContradiction
      intro hc
      unfold followIn at h1
      unfold FolStill at hc
      rw [if_neg hc] at h1
      cases h1
    have e2 : followIn F p u k = u := by unfold followIn; unfold FolStill at e; rw [if_pos e]
    rw [e2] at h1 h2 h3
    refine ⟨h1, by rw [List.foldl_cons, e2]; exact h2, fun q hq => ?_⟩
    rcases List.mem_cons.1 hq with rfl | hq
    · exact e
    · exact h3 q hq
theorem followAll_still {F : List Nat} (l : List Pr) : ∀ u : Fi, (l.foldl (followBody F) u).more = false → u.more = false ∧ (l.foldl (followBody F) u).m = u.m ∧ ∀ p ∈ l, ∀ k, k < p.body.length → FolStill F u.m p k := by
  induction l with
  | nil => intro u h; exact ⟨h, rfl, by simp⟩
  | cons p l ih =>
    intro u h
    obtain ⟨h1, h2, h3⟩ := ih (followBody F u p) h
    obtain ⟨k1, k2, k3⟩ := followBody_still (List.range p.body.length) u h1
    have em : (followBody F u p).m = u.m := k2
    refine ⟨k1, by rw [List.foldl_cons, h2, em], fun q hq => ?_⟩
    rcases List.mem_cons.1 hq with rfl | hq
    · exact fun k hk => k3 k (List.mem_range.2 hk)
    · rw [em] at h3; exact h3 q hq
structure FolI (T n : Nat) (st : Int) (ps : List Pr) (u : Fi) : Prop where
  l : u.m.length = n
  b : ∀ x ∈ u.m, x < 2 ^ 64
  t : (gn u.m st).testBit T = true
  s : ∀ s : Int, 0 ≤ s → s.toNat < n → ∀ t, (gn u.m s).testBit t = true → Fol T st ps s t
def FirstOf (T n : Nat) (ps : List Pr) (F : List Nat) : Prop := (∀ x ∈ F, x < 2 ^ 64) ∧ ∀ s : Int, 0 ≤ s → s.toNat < n → ∀ t, (gn F s).testBit t = true ↔ Beg T ps s t
theorem followIn_I {T n : Nat} {st : Int} {ps : List Pr} {F : List Nat} {u : Fi} {p : Pr} {k : Nat} (hF : FirstOf T n ps F) (hst : 0 ≤ st) (hp : p ∈ ps) (hin : PrIn n p) (hk : k < p.body.length) (h : FolI T n st ps u) : FolI T n st ps (followIn F p u k) := by
  have hy : p.body[k]? = some p.body[k] := List.getElem?_eq_getElem hk
  have hyn := hin.2.2 _ (List.getElem_mem hk)
  have hg := getD_of hy
  have hle := followIn_le (p := p) (k := k) hF.1 h.l h.b (by rw [hg]; exact hyn.2)
  generalize p.body[k] = y at *
  by_cases e : (followX F p u.m k ||| gn u.m (p.body.getD k 0)) = gn u.m (p.body.getD k 0)
  · have e2 : followIn F p u k = u := by unfold followIn; rw [if_pos e]
    rw [e2]; exact h
  · have e2 : followIn F p u k = ⟨u.m.set y.toNat (gn u.m y ||| followX F p u.m k), true⟩ := by unfold followIn; rw [if_neg e, hg]
    have hX : ∀ t, (followX F p u.m k).testBit t = true → Fol T st ps y t := by
      intro t ht
      by_cases hl : k + 1 < p.body.length
      · have hz : p.body[k + 1]? = some p.body[k + 1] := List.getElem?_eq_getElem hl
        have hzn := hin.2.2 _ (List.getElem_mem hl)
        rw [followX_next hz] at ht
        exact .next hp hy hz ((hF.2 _ hzn.1 hzn.2 t).1 ht)
      · rw [followX_last (by omega)] at ht
        exact .last hp hy (by omega) (h.s p.head hin.1 hin.2.1 t ht)
    refine ⟨hle.c, hle.b, ?_, fun s hs hsn t ht => ?_⟩
    · rw [e2]
      dsimp only
      rw [gn_set hyn.1 (by rw [h.l]; exact hyn.2) _ hst]
      split
      · rename_i e3
        rw [Nat.testBit_or, ← e3, h.t, Bool.true_or]
      · exact h.t
    · rw [e2] at ht
      dsimp only at ht
      rw [gn_set hyn.1 (by rw [h.l]; exact hyn.2) _ hs] at ht
      split at ht
      · rename_i e3
        rw [Nat.testBit_or, Bool.or_eq_true] at ht
        rcases ht with h1 | h1
        · rw [e3]; exact h.s y hyn.1 hyn.2 t h1
        · rw [e3]; exact hX t h1
      · exact h.s s hs hsn t ht
theorem followBody_I {T n : Nat} {st : Int} {ps : List Pr} {F : List Nat} {p : Pr} (hF : FirstOf T n ps F) (hst : 0 ≤ st) (hp : p ∈ ps) (hin : PrIn n p) (l : List Nat) (hl : ∀ k ∈ l, k < p.body.length) : ∀ u : Fi, FolI T n st ps u → FolI T n st ps (l.foldl (followIn F p) u) := by
  induction l with
  | nil => intro u h; exact h
  | cons k l ih => intro u h; exact ih (fun q hq => hl q (by simp [hq])) _ (followIn_I hF hst hp hin (hl k (by simp)) h)
theorem followAll_I {T n : Nat} {st : Int} {ps : List Pr} {F : List Nat} (hF : FirstOf T n ps F) (hst : 0 ≤ st) (l : List Pr) (hl : ∀ p ∈ l, p ∈ ps) (hin : ∀ p ∈ ps, PrIn n p) : ∀ u : Fi, FolI T n st ps u → FolI T n st ps (l.foldl (followBody F) u) := by
  induction l with
  | nil => intro u h; exact h
  | cons p l ih =>
    intro u h
    exact ih (fun q hq => hl q (by simp [hq])) _ (followBody_I hF hst (hl p (by simp)) (hin p (hl p (by simp))) (List.range p.body.length) (fun k hk => List.mem_range.1 hk) u h)
theorem gn_replicate (n : Nat) (s : Int) : gn (List.replicate n 0) s = 0 := by
  unfold gn
  rw [List.getD_eq_getElem?_getD, List.getElem?_replicate]
  split <;> rfl
theorem follow_spec {g : Gr} (h : GrFit g) : (followEnd g).length = g.S.toNat ∧ (∀ x ∈ followEnd g, x < 2 ^ 64) ∧
    ∀ s : Int, 0 ≤ s → s < g.S → ∀ t, (gn (followEnd g) s).testBit t = true ↔ Fol g.T.toNat g.st g.ps s t := by
  obtain ⟨f1, f2, f3⟩ := first_spec h
  have hT := h.ok.t1
  have hS := h.ok.s0
  have hT0 := h.ok.t0
  have hst0 := h.ok.st0
  have hst1 := h.ok.st1
  have hpin := h.pin
  have hF : FirstOf g.T.toNat g.S.toNat g.ps (firstEnd g) := ⟨f2, fun s hs hsn t => f3 s hs (by omega) t⟩
  have hst : 0 ≤ g.st := by omega
  have I0 : FolI g.T.toNat g.S.toNat g.st g.ps ⟨follow0 g, true⟩ := by
    refine ⟨by simp [follow0], set_lt (fun x hx => by have := (List.mem_replicate.1 hx).2; omega) _ _ (Nat.pow_lt_pow_right (by decide) (by omega)), ?_, fun s hs hsn t ht => ?_⟩
    · unfold follow0
      dsimp only
      rw [gn_set hst (by simp; omega) _ hst, if_pos rfl]
      simp [Nat.testBit_two_pow]
    · unfold follow0 at ht
      dsimp only at ht
      rw [gn_set hst (by simp; omega) _ hs] at ht
      split at ht
      · rename_i e
        rw [Nat.testBit_two_pow] at ht
        simp at ht
        subst ht
        rw [e]
        exact .start
      · rw [gn_replicate] at ht
        simp at ht
  have hround : ∀ u, FolI g.T.toNat g.S.toNat g.st g.ps u → FolI g.T.toNat g.S.toNat g.st g.ps (followRound (firstEnd g) g.ps u) :=
    fun u hu => followAll_I hF hst g.ps (fun _ h => h) hpin _ ⟨hu.l, hu.b, hu.t, hu.s⟩
  obtain ⟨v, hv, e, hm⟩ := goes_end Fi.more (followRound (firstEnd g) g.ps) (fun u => lack u.m) (FolI g.T.toNat g.S.toNat g.st g.ps) hround
    (fun u hu hm => (followRound_le (n := g.S.toNat) f2 hu.l hu.b hpin).2.2 hm) (64 * g.S.toNat + 1) ⟨follow0 g, true⟩ I0
    (by have := lack_le (follow0 g); have h1 := I0.l; dsimp only at h1 ⊢; rw [h1] at this; omega) rfl
  have hend : followEnd g = (followRound (firstEnd g) g.ps v).m := by unfold followEnd; rw [followLoop_goes, e]
  obtain ⟨_, h2, h3⟩ := followAll_still g.ps ⟨v.m, false⟩ hm
  have hfin := hround v hv
  have hsame : followEnd g = v.m := by rw [hend]; exact h2
  refine ⟨by rw [hend]; exact hfin.l, by rw [hend]; exact hfin.b, fun s hs hsS t => ⟨fun ht => ?_, fun ht => ?_⟩⟩
  · rw [hend] at ht
    exact hfin.s s hs (by omega) t ht
  · rw [hsame]
    have : ∀ s t, Fol g.T.toNat g.st g.ps s t → (gn v.m s).testBit t = true := by
      intro s t hb
      induction hb with
      | start => exact hv.t
      | @next p k y z t hp hy hz hb =>
        have hk : k < p.body.length := (List.getElem?_eq_some_iff.1 hy).1
        have hzm := (hpin p hp).2.2 z (List.mem_of_getElem? hz)
        have := h3 p hp k hk
        unfold FolStill at this
        rw [followX_next hz, getD_of hy] at this
        dsimp only at this
        rw [← this, Nat.testBit_or, (hF.2 z hzm.1 hzm.2 t).2 hb, Bool.true_or]
      | @last p k y t hp hy hl _ ih =>
        have hk : k < p.body.length := (List.getElem?_eq_some_iff.1 hy).1
        have := h3 p hp k hk
        unfold FolStill at this
        rw [followX_last hl, getD_of hy] at this
        dsimp only at this
        rw [← this, Nat.testBit_or, ih, Bool.true_or]
    exact this s t ht
end Go.Proofs.Ytofidghilcbegaa.H
namespace Go.Proofs.Ytofidghilcbegaa.H
open Go.RowKit
set_option linter.unusedVariables false
set_option linter.unusedSimpArgs false
theorem own_slice {w : World} {B k n : Nat} {e : TypeId} {v : Value} {xs : List Value} (h : w.ownsRow B e k v n xs) : ∃ A c, v = .slice A n c := by
  rcases h.2 with ⟨rfl, rfl⟩ | ⟨g, cap, cur, rfl, _⟩
  · exact ⟨_, _, rfl⟩
  · exact ⟨_, _, rfl⟩
theorem cellsOne {W : World} {n c : Nat} {t : TypeId} {h : Int} {b : List Int} {r : Bool} {A : Option Addr} (hb : Blk W n t #[.int .i64 h, .slice A b.length c, .bool r]) :
    ∀ ad, some (Addr.mk n 0 none) = some ad → ∀ j u, (cellsPA [⟨⟨h, b, r⟩, A, c⟩])[j]? = some u → W.cell? (ad.add j) = some u := by
  intro ad e j u hu
  injection e with e
  subst e
  rw [addr_add0, hb.cell, ← hu]
  simp [cellsPA]
theorem grown_set (w : World) (g i : Nat) (v : Value) : w.grownBy (w.setCell ⟨g, i, none⟩ v) (some g) :=
  ⟨rfl, rfl, rfl, by simp [World.setCell], fun k hk hne => Below.heap_setCell _ _ _ _ (by intro e; exact hne (by rw [e]))⟩
end Go.Proofs.Ytofidghilcbegaa.H
namespace Go.Proofs.Ytofidghilcbegaa.H
open Go.RowKit
set_option linter.unusedVariables false
set_option linter.unusedSimpArgs false
theorem wpl_append_P {ops : Array Oper} {rest : List Oper} {o : Oper} {a : Act} {Q : Exit → Act → World → Prop} (w : World) (hgd : o.guard = none) (s x : Operand)
    (ho : o.op = .call { callee := .builtin .append, args := #[s, x], argTypes := #[22, 22] })
    (B : Nat) (v : Value) (m : List PA) (hs : a.eval s = v) (hown : w.ownsRow B 38 3 v m.length (cellsPA m)) (n : Nat) (y : PA) (hx : a.eval x = .slice (some ⟨n, 0, none⟩) 1 1)
    (hcell : ∀ ad, some (Addr.mk n 0 none) = some ad → ∀ j u, (cellsPA [y])[j]? = some u → w.cell? (ad.add j) = some u)
    (hl : m.length + 1 ≤ 1000000) (hbase : B ≤ w.heap.size)
    (h : ∀ v' w', w'.ownsRow B 38 3 v' (m ++ [y]).length (cellsPA (m ++ [y])) → w.grownBy w' v.ownBlock → wpList Try.prog ops Q rest (a.put o.dst v') w') : wpList Try.prog ops Q (o :: rest) a w := by
  obtain ⟨i0, hi0, hz0, hz1, hz2⟩ := info_parts info_prod
  refine wpList_append_own w hgd s x 22 ho B 38 i0 _ 3 40 Try.underlying22 hi0 hz0 hz1 hz2 rfl (by decide) v m.length (cellsPA m) hs hown ⟨n, 0, none⟩ 1 1 (cellsPA [y]) hx rfl
    (hcell _ rfl) (cellsPA_one [y]) (by simp only [maxLen]; omega) (by omega) hbase (fun v' w' h1 h2 _ => h v' w' ?_ h2)
  rw [List.length_append, cellsPA_append]
  exact h1
end Go.Proofs.Ytofidghilcbegaa.H
namespace Go.Proofs.Ytofidghilcbegaa.H
open Go.RowKit
set_option linter.unusedVariables false
set_option linter.unusedSimpArgs false
def mkP (j : Nat) : PA := ⟨⟨-7000 - (j : Int), [], false⟩, none, 0⟩
def mk3 : List PA := [mkP 0, mkP 1, mkP 2]
theorem own_types {w : World} {B1 B2 e1 e2 s1 s2 n1 n2 : Nat} {v1 v2 : Value} {xs1 xs2 : List Value} (h1 : w.ownsRow B1 e1 s1 v1 n1 xs1) (h2 : w.ownsRow B2 e2 s2 v2 n2 xs2) (hne : e1 ≠ e2) : v1.ownBlock = none ∨ v1.ownBlock ≠ v2.ownBlock := by
  rcases h1.2 with ⟨rfl, _⟩ | ⟨g1, _, cur1, rfl, _, hh1, _⟩
  · exact .inl rfl
  · rcases h2.2 with ⟨rfl, _⟩ | ⟨g2, _, cur2, rfl, _, hh2, _⟩
    · exact .inr (by simp [Value.ownBlock])
    · refine .inr fun e => ?_
      have e' : g1 = g2 := by simpa [Value.ownBlock] using e
      subst e'
      rw [hh1] at hh2
      injection hh2 with hh2
      injection hh2 with _ hh2
      exact hne hh2
theorem OwnI.lt {w : World} {B : Nat} {v : Value} {xs : List Int} (h : OwnI w B v xs) : ∀ k, v.ownBlock = some k → B ≤ k ∧ k < w.heap.size := World.ownsRow.lt h
def TwAll (w : World) (B : Nat) (m : List PA) : Prop := ∀ x ∈ m, TwI w B x.A x.c x.p.body
theorem tw_step {w wr w6 w7 : World} {h B : Nat} {v v' u : Value} {m : List PA} {x : PA} {gt : TypeId} {gc gm : Array Value} {o1 o2 : Obj} {k k' : Nat} {cs' : List Value}
    (hB : B = h + 2) (hh : h = w.heap.size) (hwr : B ≤ wr.heap.size)
    (B2 : Below h w wr) (BG : Blk wr h gt gc) (BM : Blk wr (h + 1) gt gm) (O : wr.ownsRow B 38 3 v k (cellsPA m)) (X : TwAll wr B m)
    (hb : Below (wr.alloc o1).heap.size (wr.alloc o1) w6) (T : TwI w6 (wr.alloc o1).heap.size x.A x.c x.p.body)
    (hg : ((w6.setCell ⟨wr.heap.size, 1, none⟩ u).alloc o2).grownBy w7 v.ownBlock) (ho : w7.ownsRow B 38 3 v' k' cs') :
    Below h w w7 ∧ Blk w7 h gt gc ∧ Blk w7 (h + 1) gt gm ∧ TwAll w7 B (m ++ [x]) := by
  have hs1 : (wr.alloc o1).heap.size = wr.heap.size + 1 := by simp
  have O1 : (wr.alloc o1).ownsRow B 38 3 v k (cellsPA m) := O.alloc _
  have kept6 : ∀ {B' e s n : Nat} {v1 : Value} {xs : List Value}, (wr.alloc o1).ownsRow B' e s v1 n xs → w6.ownsRow B' e s v1 n xs := fun {B' e s n v1 xs} ho1 => by
    refine ⟨ho1.1, ?_⟩
    rcases ho1.2 with h0 | ⟨g, cap, cur, hv, hB', hhg, hr⟩
    · exact .inl h0
    · refine .inr ⟨g, cap, cur, hv, hB', ?_, hr⟩
      have := ho1.lt g (by rw [hv]; rfl)
      exact (hb.block g this.2).trans hhg
  have ltv : ∀ g, v.ownBlock = some g → B ≤ g ∧ g < wr.heap.size := O.lt
  have O6 := kept6 O1
  have nev : v.ownBlock ≠ some wr.heap.size := fun e => by have := (ltv _ e).2; omega
  have O6a : ((w6.setCell ⟨wr.heap.size, 1, none⟩ u).alloc o2).ownsRow B 38 3 v k (cellsPA m) := (O6.kept (grown_set _ _ _ _) (.inr nev)).alloc _
  have s6 := hb.size
  rw [hs1] at s6
  have hbB : Below h w ((w6.setCell ⟨wr.heap.size, 1, none⟩ u).alloc o2) := by
    have b1 : Below h w (wr.alloc o1) := B2.alloc (by omega) _
    have b2 : Below h w w6 := b1.trans (hb.mono (by rw [hs1]; omega))
    exact (b2.setCell (by show h ≤ wr.heap.size; omega) _).alloc (by simp; omega) _
  refine ⟨hbB.grown hg (by simp; omega) (fun b hb' => by have := (ltv b hb').1; omega), ?_, ?_, ?_⟩
  · have b1 := (BG.alloc o1).below hb (by rw [hs1]; omega)
    have b2 := (b1.far (p := ⟨wr.heap.size, 1, none⟩) (by show h ≠ wr.heap.size; omega) u).alloc o2
    exact b2.grown hg (fun e => by have := (ltv h e.symm).1; omega)
  · have b1 := (BM.alloc o1).below hb (by rw [hs1]; omega)
    have b2 := (b1.far (p := ⟨wr.heap.size, 1, none⟩) (by show h + 1 ≠ wr.heap.size; omega) u).alloc o2
    exact b2.grown hg (fun e => by have := (ltv (h + 1) e.symm).1; omega)
  · intro y hy
    rcases List.mem_append.1 hy with hy | hy
    · have t0 := X y hy
      have t1 : (wr.alloc o1).ownsRow B 3 1 _ _ _ := World.ownsRow.alloc t0 o1
      have t6 := kept6 t1
      have t6a := (World.ownsRow.kept t6 (grown_set w6 wr.heap.size 1 u) (.inr fun e => by have := (t0.lt _ e).2; omega)).alloc o2
      exact World.ownsRow.kept t6a hg (own_types t6a O6a (by decide))
    · rw [List.mem_singleton] at hy
      subst hy
      have t6a := (World.ownsRow.kept T (grown_set w6 wr.heap.size 1 u) (.inr fun e => by have := (OwnI.lt T _ e).1; rw [hs1] at this; omega)).alloc o2
      exact OwnI.mono (World.ownsRow.kept t6a hg (own_types t6a O6a (by decide))) (by rw [hs1]; omega)
end Go.Proofs.Ytofidghilcbegaa.H
namespace Go.Proofs.Ytofidghilcbegaa.H
open Go.RowKit
set_option linter.unusedVariables false
set_option linter.unusedSimpArgs false
structure TwG (w : World) (B : Nat) (g : Gr) (A : Option Addr) (c : Nat) : Prop where
  ex : ∃ m : List PA, m.map (·.p) = g.ps ∧ w.ownsRow B 38 3 (.slice A (m.length + 3) c) (m.length + 3) (cellsPA (m ++ mk3)) ∧ TwAll w B m
theorem own_below {w w' : World} {B e s n : Nat} {v : Value} {xs : List Value} (h : w.ownsRow B e s v n xs) (hb : Below w.heap.size w w') : w'.ownsRow B e s v n xs := by
  refine ⟨h.1, ?_⟩
  rcases h.2 with h0 | ⟨g, cap, cur, hv, hB', hhg, hr⟩
  · exact .inl h0
  · refine .inr ⟨g, cap, cur, hv, hB', ?_, hr⟩
    have := h.lt g (by rw [hv]; rfl)
    exact (hb.block g this.2).trans hhg
set_option maxRecDepth 100000 in
set_option maxHeartbeats 8000000 in
theorem twinGrammar_any (g : Gr) (A : Option Addr) (c : Nat) (w : World) (h : GrIn w g A c) (hn : g.ps.length ≤ 100000) (hbl : ∀ p ∈ g.ps, p.body.length ≤ 100000) :
    Calls Try.prog 15 #[grV g A c] w fun e w' => ∃ A' c', e = .returned (grV g A' c') ∧ TwG w' (w.heap.size + 2) g A' c' ∧ Below w.heap.size w w' := by
  have HR := Keep.mk h.r
  have HB := Keep.mk hbl
  clear h hbl
  obtain ⟨T, S, st, ps⟩ := g
  unfold grV at *
  dsimp only at *
  have hN := Keep.mk hn
  go_enter Try.func15, Try.ntmps15
  go_wp2
  obtain ⟨w0, hw0⟩ : ∃ w0 : World, w0 = (w.alloc (.cells #[.int .i64 T, .int .i64 S, .int .i64 st, .slice A ps.length c] 24)).alloc (.cells #[.int .i64 0, .int .i64 0, .int .i64 0, .slice none 0 0] 24) := ⟨_, rfl⟩
  rw [← hw0]
  have B0 : Keep (Below w.heap.size w w0) := ⟨by rw [hw0]; exact ((Below.refl _ _).alloc (Nat.le_refl _) _).alloc (by simp) _⟩
  have BG0 : Keep (Blk w0 w.heap.size 24 #[.int .i64 T, .int .i64 S, .int .i64 st, .slice A ps.length c]) := ⟨by rw [hw0]; exact (Blk.new _ _ _).alloc _⟩
  have BM0 : Keep (Blk w0 (w.heap.size + 1) 24 #[.int .i64 0, .int .i64 0, .int .i64 0, .slice none 0 0]) := ⟨by rw [hw0]; exact Blk.newAt (by simp)⟩
  have Z0 : Keep (w.heap.size + 2 ≤ w0.heap.size) := ⟨by rw [hw0]; simp⟩
  clear hw0
  go_loopg [3, 4, 5] ps.length (fun gg v i x5 wr => ∃ (k : Nat) (m : List PA), k ≤ ps.length ∧ ps.length - k ≤ gg ∧ i = .int .i64 k ∧ Keep (m.length = k) ∧ Keep (m.map (·.p) = ps.take k) ∧ Keep (wr.ownsRow (w.heap.size + 2) 38 3 v k (cellsPA m)) ∧
    Keep (TwAll wr (w.heap.size + 2) m) ∧ Keep (Below w.heap.size w wr) ∧ Keep (Blk wr w.heap.size 24 #[.int .i64 T, .int .i64 S, .int .i64 st, .slice A ps.length c]) ∧ Keep (Blk wr (w.heap.size + 1) 24 #[.int .i64 0, .int .i64 0, .int .i64 0, .slice none 0 0]) ∧ Keep (w.heap.size + 2 ≤ wr.heap.size))
  case atStart => exact ⟨0, [], Nat.zero_le _, by omega, rfl, ⟨rfl⟩, ⟨by simp⟩, ⟨World.ownsRow_nil _ _ _ _⟩, ⟨fun x hx => by cases hx⟩, B0, BG0, BM0, Z0⟩
  case round =>
    clear B0 BG0 BM0 Z0
    obtain ⟨k, m, hk, hgk, rfl, ML, HM, O2, X2, B2, BG, BM, ZZ⟩ := hrel
    have q3 := BG.out.cell 3
    simp at q3
    have n0 : w.heap.size < wr.heap.size := BG.out.lt
    have n1 : w.heap.size + 2 ≤ wr.heap.size := ZZ.out
    by_cases hlt : k < ps.length
    · obtain ⟨ad, xA, xc, rfl, nb, c0, c1, c2, hl, hr⟩ := HR.out k hlt
      have nb' : (ad.add (k * 3)).block < w.heap.size := by rw [add_block]; exact nb
      have hbx := HB.out _ (List.getElem_mem hlt)
      have HTk : Keep (ps.take (k + 1) = ps.take k ++ [ps[k]]) := ⟨List.take_succ_eq_append_getElem hlt⟩
      replace c0 := cell_below c0 B2.out nb'
      replace c1 := cell_below c1 B2.out (by exact nb')
      replace c2 := cell_below c2 B2.out (by exact nb')
      have n3 : (ad.add (k * 3)).block < wr.heap.size := by omega
      generalize hX : ps[k] = X at *
      clear hX
      obtain ⟨xh, xb, xr⟩ := X
      dsimp only at *
      have i1 : (0 : Int) ≤ k := by omega
      have i2 : (k : Int) < ps.length := by omega
      go_wp2_with fail
      refine (twinInts_any xA xc xb _ ((hr.below (B2.out.alloc B2.out.size _)).mono (by simp; omega)) (by omega) hl).mono ?_
      rintro e w6 ⟨A6, c6, rfl, T6, hb⟩
      have BX : Keep (Blk w6 wr.heap.size 38 #[.int .i64 xh, .slice xA xb.length xc, .bool xr]) := ⟨(Blk.new _ _ _).below hb (by simp)⟩
      have x0 := BX.out.cell 0
      have x1 := BX.out.cell 1
      have x2 := BX.out.cell 2
      have xf := BX.out.frozen 1
      simp at x0 x1 x2
      have n6 : wr.heap.size < w6.heap.size := BX.out.lt
      have T6k := Keep.mk T6
      have hbk := Keep.mk hb
      have O6 : Keep (w6.ownsRow (w.heap.size + 2) 38 3 u3 m.length (cellsPA m)) := ⟨by rw [ML.out]; exact own_below (O2.out.alloc _) hb⟩
      have ne6 : Keep (u3.ownBlock ≠ some wr.heap.size) := ⟨fun e => by have := (O2.out.lt _ e).2; omega⟩
      clear T6 hb c0 c1 c2 BX
      go_wp2_with (at_builtin; refine wpl_append_P _ rfl (.tmp 23) (.tmp 25) rfl (w.heap.size + 2) u3 m rfl ((O6.out.kept (grown_set _ _ _ _) (.inr ne6.out)).alloc _) w6.heap.size ⟨⟨xh, xb, xr⟩, A6, c6⟩ rfl ?c2 ?c3 ?c4 ?_)
      case c2 => exact cellsOne (t := 38) (Blk.newAt (by simp))
      case c3 => have := ML.out; have := hN.out; omega
      case c4 => simp; omega
      intro v' w7 ho hg
      have e1 : (m ++ [(⟨⟨xh, xb, xr⟩, A6, c6⟩ : PA)]).length = k + 1 := by rw [List.length_append, ML.out]; rfl
      have e2 : m.length + 1 = k + 1 := by rw [ML.out]
      simp only [List.length_append, List.length_singleton, e2] at ho
      clear e2
      obtain ⟨f1, f2, f3, f4⟩ := tw_step (x := ⟨⟨xh, xb, xr⟩, A6, c6⟩) rfl rfl n1 B2.out BG.out BM.out O2.out X2.out hbk.out T6k.out hg ho
      have F1 := Keep.mk f1
      have F2 := Keep.mk f2
      have F3 := Keep.mk f3
      have F4 := Keep.mk f4
      have F5 := Keep.mk ho
      have F6 : Keep ((m ++ [(⟨⟨xh, xb, xr⟩, A6, c6⟩ : PA)]).map (·.p) = ps.take (k + 1)) := ⟨by rw [HTk.out, List.map_append, HM.out]; rfl⟩
      have F7 : Keep (w.heap.size + 2 ≤ w7.heap.size) := ⟨by have := hg.size; simp at this; omega⟩
      have E1 := Keep.mk e1
      clear f1 f2 f3 f4 ho hg e1 O6 ne6 T6k hbk x0 x1 x2 xf q3
      go_wp2
      go_roundg (ps.length - (k + 1))
      case measure => omega
      case rel => exact ⟨k + 1, _, by omega, by omega, by go_num, E1, F6, F5, F4, F1, F2, F3, F7⟩
    · have ek : k = ps.length := by omega
      subst ek
      have HMa : Keep (m.map (·.p) = ps) := ⟨by rw [HM.out, List.take_length]⟩
      clear HM
      obtain ⟨wo, rfl⟩ : ∃ wo : World, wo = wr := ⟨_, rfl⟩
      go_wp2
      go_loopg [3, 6] 3 (fun gg v i wr => ∃ (j : Nat), j ≤ 3 ∧ 3 - j ≤ gg ∧ i = .int .i64 j ∧ Keep (wr.ownsRow (w.heap.size + 2) 38 3 v (ps.length + j) (cellsPA (m ++ mk3.take j))) ∧
        Keep (TwAll wr (w.heap.size + 2) m) ∧ Keep (Below w.heap.size w wr) ∧ Keep (Blk wr w.heap.size 24 #[.int .i64 T, .int .i64 S, .int .i64 st, .slice A ps.length c]) ∧ Keep (Blk wr (w.heap.size + 1) 24 #[.int .i64 0, .int .i64 0, .int .i64 0, .slice none 0 0]) ∧ Keep (w.heap.size + 2 ≤ wr.heap.size))
      case atStart => exact ⟨0, by omega, by omega, rfl, ⟨by simpa using O2.out⟩, X2, B2, BG, BM, ZZ⟩
      case round =>
        clear O2 X2 B2 BG BM ZZ q3 n0 n1
        obtain ⟨j, hj, hgj, rfl, O2, X2, B2, BG, BM, ZZ⟩ := hrel
        have n0 : w.heap.size < wr.heap.size := BG.out.lt
        have n1 : w.heap.size + 2 ≤ wr.heap.size := ZZ.out
        by_cases hlt3 : j < 3
        · have hst : Keep (mk3.take (j + 1) = mk3.take j ++ [mkP j]) := ⟨by
            have : j = 0 ∨ j = 1 ∨ j = 2 := by omega
            rcases this with rfl | rfl | rfl <;> rfl⟩
          have hln : Keep ((m ++ mk3.take j).length = ps.length + j) := ⟨by
            rw [List.length_append, ML.out, List.length_take]
            have : mk3.length = 3 := rfl
            omega⟩
          go_wp2_with (at_builtin; refine wpl_append_P _ rfl (.tmp 31) (.tmp 35) rfl (w.heap.size + 2) u3 (m ++ mk3.take j) rfl ?c1 wr.heap.size (mkP j) rfl ?c2 ?c3 ?c4 ?_)
          case c1 => rw [hln.out]; exact O2.out.alloc _
          case c2 => exact cellsOne (t := 38) (h := -7000 - (j : Int)) (b := []) (r := false) (A := none) (c := 0) (Blk.newAt rfl)
          case c3 => rw [hln.out]; have := hN.out; omega
          case c4 => simp; omega
          intro v' w7 ho hg
          have e1 : m.length + (min j mk3.length + 1) = ps.length + (j + 1) := by
            have : mk3.length = 3 := rfl
            have := ML.out
            omega
          rw [e1] at ho
          have ltv : ∀ g, u3.ownBlock = some g → w.heap.size + 2 ≤ g ∧ g < wr.heap.size := O2.out.lt
          have O3 : Keep (w7.ownsRow (w.heap.size + 2) 38 3 v' (ps.length + (j + 1)) (cellsPA (m ++ mk3.take (j + 1)))) := ⟨by rw [hst.out]; exact ho⟩
          have O2a := O2.out.alloc (.cells #[.int .i64 (-7000 - (j : Int)), .slice none 0 0, .bool false] 38)
          have X3 : Keep (TwAll w7 (w.heap.size + 2) m) := ⟨fun y hy => World.ownsRow.kept (World.ownsRow.alloc (X2.out y hy) _) hg (own_types (World.ownsRow.alloc (X2.out y hy) _) O2a (by decide))⟩
          have B3 : Keep (Below w.heap.size w w7) := ⟨(B2.out.alloc B2.out.size _).grown hg (by simp; omega) (fun b hb' => by have := (ltv b hb').1; omega)⟩
          have BG3 := Keep.mk ((BG.out.alloc _).grown hg (fun e => by have := (ltv _ e.symm).1; omega))
          have BM3 := Keep.mk ((BM.out.alloc _).grown hg (fun e => by have := (ltv _ e.symm).1; omega))
          have Z3 : Keep (w.heap.size + 2 ≤ w7.heap.size) := ⟨by have := hg.size; simp at this; omega⟩
          clear ho hg O2a O2 X2 B2 BG BM ZZ e1 ltv
          go_wp2
          go_roundg (3 - (j + 1))
          case measure => omega
          case rel => exact ⟨j + 1, by omega, by omega, by go_num, O3, X3, B3, BG3, BM3, Z3⟩
        · have ej : j = 3 := by omega
          subst ej
          have e3 : mk3.take 3 = mk3 := rfl
          have O3 := O2.out
          rw [e3] at O3
          obtain ⟨A', c', rfl⟩ := own_slice O3
          have hcap : ps.length + 3 ≤ c' := by
            rcases O3.2 with ⟨h, _⟩ | ⟨g, cap, cur, h, _, _, hnc, _⟩
            · injection h with _ h; omega
            · injection h with _ _ h; omega
          have q0 := BG.out.cell 0
          have q1 := BG.out.cell 1
          have q2 := BG.out.cell 2
          have q3 := BG.out.cell 3
          have qf := BG.out.frozen 3
          have m0 := BM.out.cell 0
          have m1 := BM.out.cell 1
          have m2 := BM.out.cell 2
          have m3 := BM.out.cell 3
          have mf0 := BM.out.frozen 0
          have mf1 := BM.out.frozen 1
          have mf2 := BM.out.frozen 2
          have mf3 := BM.out.frozen 3
          simp at q0 q1 q2 q3 m0 m1 m2 m3
          have n2 : w.heap.size + 1 < wr.heap.size := BM.out.lt
          have O3k := Keep.mk O3
          have hcap' : ps.length ≤ c' := by omega
          have hN2 : ps.length ≤ 9223372036854775807 := by have := hN.out; omega
          clear O3 O2
          have SB := Keep.mk ((((((B2.out.setCell (p := ⟨w.heap.size, 3, none⟩) (Nat.le_refl _) (.slice A' ps.length c')).setCell (p := ⟨w.heap.size + 1, 0, none⟩) (Nat.le_succ _) (.int .i64 T)).setCell (p := ⟨w.heap.size + 1, 1, none⟩) (Nat.le_succ _) (.int .i64 S)).setCell (p := ⟨w.heap.size + 1, 2, none⟩) (Nat.le_succ _) (.int .i64 st)).setCell (p := ⟨w.heap.size + 1, 3, none⟩) (Nat.le_succ _) (.slice A' ps.length c')))
          have SM := Keep.mk (((((BM.out.far (p := ⟨w.heap.size, 3, none⟩) (Nat.succ_ne_self _) (.slice A' ps.length c')).set_ 0 (.int .i64 T)).set_ 1 (.int .i64 S)).set_ 2 (.int .i64 st)).set_ 3 (.slice A' ps.length c'))
          have hk : ∀ {e s n : Nat} {v1 : Value} {xs : List Value}, wr.ownsRow (w.heap.size + 2) e s v1 n xs → (((((wr.setCell ⟨w.heap.size, 3, none⟩ (.slice A' ps.length c')).setCell ⟨w.heap.size + 1, 0, none⟩ (.int .i64 T)).setCell ⟨w.heap.size + 1, 1, none⟩ (.int .i64 S)).setCell ⟨w.heap.size + 1, 2, none⟩ (.int .i64 st)).setCell ⟨w.heap.size + 1, 3, none⟩ (.slice A' ps.length c')).ownsRow (w.heap.size + 2) e s v1 n xs := fun {e s n v1 xs} ho => by
            have n0 : v1.ownBlock ≠ some w.heap.size := fun e' => by have := (ho.lt _ e').1; omega
            have n1 : v1.ownBlock ≠ some (w.heap.size + 1) := fun e' => by have := (ho.lt _ e').1; omega
            exact ((((ho.kept (grown_set _ _ _ _) (.inr n0)).kept (grown_set _ _ _ _) (.inr n1)).kept (grown_set _ _ _ _) (.inr n1)).kept (grown_set _ _ _ _) (.inr n1)).kept (grown_set _ _ _ _) (.inr n1)
          have ST : Keep (TwG (((((wr.setCell ⟨w.heap.size, 3, none⟩ (.slice A' ps.length c')).setCell ⟨w.heap.size + 1, 0, none⟩ (.int .i64 T)).setCell ⟨w.heap.size + 1, 1, none⟩ (.int .i64 S)).setCell ⟨w.heap.size + 1, 2, none⟩ (.int .i64 st)).setCell ⟨w.heap.size + 1, 3, none⟩ (.slice A' ps.length c')) (w.heap.size + 2) ⟨T, S, st, ps⟩ A' c') := ⟨⟨m, HMa.out, by
            rw [ML.out]
            exact hk O3k.out, fun x hx => hk (X2.out x hx)⟩⟩
          simp at SM
          clear hk
          go_wp2
          refine bodyPost_ret (results_cell_row rfl _ _ (w.heap.size + 1) 24 #[.int .i64 T, .int .i64 S, .int .i64 st, .slice A' ps.length c'] (0, 0) _ rfl SM.out Try.underlying24 rfl (by kernel_rfl)) rfl ?_
          exact ⟨A', c', rfl, ST.out, SB.out⟩
end Go.Proofs.Ytofidghilcbegaa.H
namespace Go.Proofs.Ytofidghilcbegaa.H
open Go.RowKit
set_option linter.unusedVariables false
set_option linter.unusedSimpArgs false
set_option maxRecDepth 100000 in
set_option maxHeartbeats 8000000 in
theorem sameGrammar_true (g : Gr) (A1 A2 : Option Addr) (c1 c2 : Nat) (w : World) (h1 : GrIn w g A1 c1) (h2 : GrIn w g A2 c2) :
    Calls Try.prog 40 #[grV g A1 c1, grV g A2 c2] w fun e w' => e = .returned (.bool true) ∧ Below w.heap.size w w' := by
  have R1 := Keep.mk h1.r
  have R2 := Keep.mk h2.r
  have HB := Keep.mk h1.b
  have hN := h1.l2
  clear h1 h2
  obtain ⟨T, S, st, ps⟩ := g
  unfold grV at *
  dsimp only at *
  have B0 : Keep (Below w.heap.size w ((w.alloc (.cells #[.int .i64 T, .int .i64 S, .int .i64 st, .slice A1 ps.length c1] 24)).alloc (.cells #[.int .i64 T, .int .i64 S, .int .i64 st, .slice A2 ps.length c2] 24))) := ⟨((Below.refl _ _).alloc (Nat.le_refl _) _).alloc (by simp) _⟩
  have t1 : ((T : Int) != T) = false := by simp
  have t2 : ((S : Int) != S) = false := by simp
  have t3 : ((st : Int) != st) = false := by simp
  have t4 : ((ps.length : Int) != ps.length) = false := by simp
  go_enter Try.func40, Try.ntmps40
  go_wp2
  go_loopg [5, 6, 7] ps.length (fun gg i x6 x7 wr => ∃ k : Nat, k ≤ ps.length ∧ ps.length - k ≤ gg ∧ i = .int .i64 k ∧ Keep (Below w.heap.size w wr) ∧ Keep (Blk wr w.heap.size 24 #[.int .i64 T, .int .i64 S, .int .i64 st, .slice A1 ps.length c1]) ∧ Keep (Blk wr (w.heap.size + 1) 24 #[.int .i64 T, .int .i64 S, .int .i64 st, .slice A2 ps.length c2]))
  case atStart => exact ⟨0, Nat.zero_le _, by omega, rfl, B0, ⟨(Blk.new _ _ _).alloc _⟩, ⟨Blk.newAt (by simp)⟩⟩
  case round =>
    clear B0
    obtain ⟨k, hk, hgk, rfl, B2, G1, G2⟩ := hrel
    have q1 := G1.out.cell 3
    have q2 := G2.out.cell 3
    simp at q1 q2
    have n1 := G1.out.lt
    have n2 := G2.out.lt
    by_cases hlt : k < ps.length
    · obtain ⟨a1, x1, y1, rfl, nb1, c0, c1', c2', hl1, hr1⟩ := R1.out k hlt
      obtain ⟨a2, x2, y2, rfl, nb2, d0, d1, d2, hl2, hr2⟩ := R2.out k hlt
      have nb1' : (a1.add (k * 3)).block < w.heap.size := by rw [add_block]; exact nb1
      have nb2' : (a2.add (k * 3)).block < w.heap.size := by rw [add_block]; exact nb2
      have hbx := HB.out _ (List.getElem_mem hlt)
      replace c0 := cell_below c0 B2.out nb1'
      replace c1' := cell_below c1' B2.out (by exact nb1')
      replace c2' := cell_below c2' B2.out (by exact nb1')
      replace d0 := cell_below d0 B2.out nb2'
      replace d1 := cell_below d1 B2.out (by exact nb2')
      replace d2 := cell_below d2 B2.out (by exact nb2')
      have n3 : (a1.add (k * 3)).block < wr.heap.size := by omega
      have n4 : (a2.add (k * 3)).block < wr.heap.size := by omega
      have KS := Keep.mk fun W (hW : Below w.heap.size w W) => sameInts x1 x2 ps[k].body.length ps[k].body.length y1 y2 ps[k].body ps[k].body W rfl rfl hbx ((hr1.below hW).mono hW.size) ((hr2.below hW).mono hW.size)
      generalize hX : ps[k] = X at *
      clear hX hr1 hr2
      obtain ⟨xh, xb, xr⟩ := X
      dsimp only at *
      rw [decide_eq_true rfl] at KS
      have i1 : (0 : Int) ≤ k := by omega
      have i2 : (k : Int) < ps.length := by omega
      have t5 : ((xh : Int) != xh) = false := by simp
      go_upto_region 6 with fail
      go_cut [6, 7] (fun s6 s7 wx => ∃ g6 g7 : Nat, s6 = .pointer (some ⟨g6, 0, none⟩) ∧ s7 = .pointer (some ⟨g7, 0, none⟩) ∧ Keep (Blk wx g6 38 #[.int .i64 xh, .slice x1 xb.length y1, .bool xr]) ∧ Keep (Blk wx g7 38 #[.int .i64 xh, .slice x2 xb.length y2, .bool xr]) ∧ Keep (Below w.heap.size w wx) ∧
        Keep (Blk wx w.heap.size 24 #[.int .i64 T, .int .i64 S, .int .i64 st, .slice (some a1) ps.length c1]) ∧ Keep (Blk wx (w.heap.size + 1) 24 #[.int .i64 T, .int .i64 S, .int .i64 st, .slice (some a2) ps.length c2]))
      case first =>
        go_region
        all_goals (go_wp2_with fail; go_meet)
        all_goals have bs := B2.out.size
        all_goals first
          | exact ⟨_, _, rfl, rfl, ⟨((Blk.new _ _ _).alloc _).drew⟩, ⟨(Blk.newAt (by simp)).drew⟩, ⟨below_drew1 ((B2.out.alloc bs _).alloc (by simp; omega) _)⟩, ⟨((G1.out.alloc _).alloc _).drew⟩, ⟨((G2.out.alloc _).alloc _).drew⟩⟩
          | exact ⟨_, _, rfl, rfl, ⟨(Blk.newAt (by simp)).drew⟩, ⟨((Blk.new _ _ _).alloc _).drew⟩, ⟨below_drew1 ((B2.out.alloc bs _).alloc (by simp; omega) _)⟩, ⟨((G1.out.alloc _).alloc _).drew⟩, ⟨((G2.out.alloc _).alloc _).drew⟩⟩
      case rest =>
        obtain ⟨g6, g7, rfl, rfl, X6, X7, B3, G3, G4⟩ := hcut
        clear B2 G1 G2 q1 q2 c0 c1' c2' d0 d1 d2 n1 n2 n3 n4
        have p0 := X6.out.cell 0
        have p1 := X6.out.cell 1
        have p2 := X6.out.cell 2
        have r0 := X7.out.cell 0
        have r1 := X7.out.cell 1
        have r2 := X7.out.cell 2
        simp at p0 p1 p2 r0 r1 r2
        have m6 := X6.out.lt
        have m7 := X7.out.lt
        have KS2 := KS.out _ B3.out
        clear KS
        cases xr with
        | true =>
          go_wp2_with (go_at_call 20; refine KS2.mono ?_; rintro e w9 ⟨rfl, nq, rfl⟩)
          go_roundg (ps.length - (k + 1))
          case measure => omega
          case rel => exact ⟨k + 1, by omega, by omega, by go_num, ⟨below_drewN B3.out _⟩, ⟨G3.out.drewN _⟩, ⟨G4.out.drewN _⟩⟩
        | false =>
          go_wp2_with (go_at_call 20; refine KS2.mono ?_; rintro e w9 ⟨rfl, nq, rfl⟩)
          go_roundg (ps.length - (k + 1))
          case measure => omega
          case rel => exact ⟨k + 1, by omega, by omega, by go_num, ⟨below_drewN B3.out _⟩, ⟨G3.out.drewN _⟩, ⟨G4.out.drewN _⟩⟩
    · go_wp2
      go_ret
      exact ⟨rfl, B2.out⟩
theorem marks_get (k : Nat) (h : k < 3) : (l : List Int) → (l ++ marks)[l.length + k]? = some (-7000 - (k : Int)) := fun l => by
  rw [List.getElem?_append_right (by omega)]
  have : k = 0 ∨ k = 1 ∨ k = 2 := by omega
  rcases this with rfl | rfl | rfl <;> simp [marks]
set_option maxRecDepth 100000 in
set_option maxHeartbeats 4000000 in
theorem leftInts_true (At Al : Option Addr) (ct cl : Nat) (xs : List Int) (w : World) (hl : xs.length + 3 ≤ ct) (hct : ct ≤ 9223372036854775807) (h1 : Rd eI 1 w w.heap.size At (xs ++ marks)) (h2 : Rd eI 1 w w.heap.size Al xs) :
    Calls Try.prog 41 #[.slice At xs.length ct, .slice Al xs.length cl] w fun e w' => e = .returned (.bool true) ∧ ∃ n, w' = w.drewN n := by
  have R1 := Keep.mk h1
  have K1 := Keep.mk (sameInts At Al xs.length xs.length ct cl xs xs w rfl rfl (by omega) (by have := h1.take xs.length; rwa [List.take_left'] at this; rfl) h2)
  rw [decide_eq_true rfl] at K1
  clear h1 h2
  go_enter Try.func41, Try.ntmps41
  have u1 : decide (ct < xs.length + 3) = false := decide_eq_false (by omega)
  have u2 : decide ((ct : Int) < (xs.length : Int) + 3) = false := decide_eq_false (by omega)
  go_wp2_with (go_at_call 20; refine K1.out.mono ?_; rintro e w9 ⟨rfl, nq, rfl⟩)
  go_loopg [6] 3 (fun gg i wr => ∃ k : Nat, k ≤ 3 ∧ 3 - k ≤ gg ∧ i = .int .i64 k ∧ Keep (∃ n, wr = w.drewN n))
  case atStart => exact ⟨0, by omega, by omega, rfl, ⟨nq, rfl⟩⟩
  case round =>
    obtain ⟨k, hk, hg, rfl, HW⟩ := hrel
    obtain ⟨n, rfl⟩ := HW.out
    by_cases hlt : k < 3
    · obtain ⟨ad, rfl, hb, hc⟩ := R1.out.int (xs.length + k) (by simp [marks]; omega)
      have e := marks_get k hlt xs
      rw [List.getElem?_eq_getElem (by simp [marks]; omega)] at e
      injection e with e
      rw [e] at hc
      have i1 : (0 : Int) ≤ (xs.length : Int) + k := by omega
      have i2 : (xs.length : Int) + k < (xs.length : Int) + 3 := by omega
      have t5 : ((-7000 - (k : Int)) != (-7000 - (k : Int))) = false := by simp
      clear e
      go_wp2
      go_roundg (3 - (k + 1))
      case measure => omega
      case rel => exact ⟨k + 1, by omega, by omega, by go_num, ⟨n, rfl⟩⟩
    · go_wp2
      go_ret
      exact ⟨rfl, n, rfl⟩
theorem twG_open {w : World} {B : Nat} {g : Gr} {A : Option Addr} {c : Nat} (h : TwG w B g A c) (hn : ∀ p ∈ g.ps, p.body.length ≤ 100000) : ∃ gb : Nat, A = some ⟨gb, 0, none⟩ ∧ gb < w.heap.size ∧ g.ps.length + 3 ≤ c ∧ c ≤ 9223372036854775807 ∧ GrIn w g A c ∧
    (∀ j, j < 3 → w.cell? ⟨gb, (g.ps.length + j) * 3, none⟩ = some (.int .i64 (-7000 - (j : Int)))) ∧
    ∀ i (hi : i < g.ps.length), ∃ Ab cb, w.cell? ⟨gb, i * 3 + 1, none⟩ = some (.slice Ab g.ps[i].body.length cb) ∧ g.ps[i].body.length + 3 ≤ cb ∧ cb ≤ 9223372036854775807 ∧ Rd eI 1 w w.heap.size Ab (g.ps[i].body ++ marks) := by
  obtain ⟨⟨m, hm, ho, hx⟩⟩ := h
  have hml : m.length = g.ps.length := by rw [← hm]; simp
  rcases ho.2 with ⟨h0, h0'⟩ | ⟨gb, cap, cur, he, hB, hh, hnc, hcm, hcs, ht⟩
  · omega
  simp only [Value.slice.injEq] at he
  obtain ⟨rfl, _, rfl⟩ := he
  have hlt : gb < w.heap.size := by
    rcases Nat.lt_or_ge gb w.heap.size with h | h
    · exact h
    · rw [Array.getElem?_eq_none h] at hh; cases hh
  have hlen : (m ++ mk3).length = m.length + 3 := by simp [mk3]
  have cell : ∀ j u, (cellsPA (m ++ mk3))[j]? = some u → w.cell? ⟨gb, j, none⟩ = some u := by
    intro j u hu
    have hj : j < (m.length + 3) * 3 := by
      have := (List.getElem?_eq_some_iff.1 hu).1
      rw [cellsPA_length, hlen] at this
      exact this
    rw [cell_of_row w gb j cur _ _ hh, ← hu, ← ht, List.getElem?_take, if_pos hj]
    simp
  have body : ∀ i (hi : i < m.length), m[i].p.body.length + 3 ≤ m[i].c ∧ m[i].c ≤ 9223372036854775807 ∧ Rd eI 1 w w.heap.size m[i].A (m[i].p.body ++ marks) := by
    intro i hi
    obtain ⟨A', c', e, h1, h2, h3, _⟩ := OwnI.open_ (hx m[i] (List.getElem_mem hi))
    simp only [Value.slice.injEq] at e
    obtain ⟨rfl, hl, rfl⟩ := e
    rw [← hl] at h1
    exact ⟨h1, h2, h3⟩
  have prod : ∀ i (hi : i < m.length), w.cell? ⟨gb, i * 3, none⟩ = some (.int .i64 m[i].p.head) ∧ w.cell? ⟨gb, i * 3 + 1, none⟩ = some (.slice m[i].A m[i].p.body.length m[i].c) ∧ w.cell? ⟨gb, i * 3 + 2, none⟩ = some (.bool m[i].p.right) := by
    intro i hi
    obtain ⟨a0, a1, a2⟩ := cellsPA_at (m ++ mk3) i (by rw [hlen]; omega)
    simp only [List.getElem_append_left hi] at a0 a1 a2
    exact ⟨cell _ _ a0, cell _ _ a1, cell _ _ a2⟩
  refine ⟨gb, rfl, hlt, by omega, hcm, ⟨by omega, ?_, fun p hp => by have := hn p hp; omega, ?_⟩, fun j hj => ?_, fun i hi => ?_⟩
  · have := hcm; unfold maxLen at this; omega
  · intro i hi
    have hi' : i < m.length := by omega
    have e : g.ps[i] = m[i].p := by simp only [← hm, List.getElem_map]
    obtain ⟨p0, p1, p2⟩ := prod i hi'
    obtain ⟨b1, b2, b3⟩ := body i hi'
    refine ⟨⟨gb, 0, none⟩, m[i].A, m[i].c, rfl, hlt, ?_, ?_, ?_, by rw [e]; omega, ?_⟩
    · rw [addr_add0, e]; exact p0
    · rw [addr_add0, e]; exact p1
    · rw [addr_add0, e]; exact p2
    · rw [e]
      have := b3.take m[i].p.body.length
      rwa [List.take_left'] at this
      rfl
  · obtain ⟨a0, _, _⟩ := cellsPA_at (m ++ mk3) (m.length + j) (by rw [hlen]; omega)
    rw [← hml]
    have e : (m ++ mk3)[m.length + j]'(by rw [hlen]; omega) = mkP j := by
      rw [List.getElem_append_right (by omega)]
      have : j = 0 ∨ j = 1 ∨ j = 2 := by omega
      rcases this with rfl | rfl | rfl <;> simp [mk3]
    rw [e] at a0
    exact cell _ _ a0
  · have hi' : i < m.length := by omega
    have e : g.ps[i] = m[i].p := by simp only [← hm, List.getElem_map]
    obtain ⟨p0, p1, p2⟩ := prod i hi'
    obtain ⟨b1, b2, b3⟩ := body i hi'
    exact ⟨m[i].A, m[i].c, by rw [e]; exact p1, by rw [e]; exact b1, b2, by rw [e]; exact b3⟩
theorem quiet_add {P : Program} {f : FuncId} {args : Array Value} {w : World} {a n : Nat} {v : Value}
    (h : Calls P f args (w.drewN (a + n)) fun e w' => e = .returned v ∧ ∃ m, w' = (w.drewN (a + n)).drewN m) :
    Calls P f args (w.drewN (a + n)) fun e w'' => e = .returned v ∧ ∃ m, w'' = w.drewN (a + m) :=
  h.mono fun _ _ ⟨he, m, hm⟩ => ⟨he, n + m, by rw [hm, World.drewN_drewN, Nat.add_assoc]⟩
set_option maxRecDepth 100000 in
set_option maxHeartbeats 8000000 in
theorem leftGrammar_true (g : Gr) (A1 A2 : Option Addr) (c1 c2 B : Nat) (w : World) (h1 : TwG w B g A1 c1) (h2 : GrIn w g A2 c2) (hn : ∀ p ∈ g.ps, p.body.length ≤ 100000) :
    Calls Try.prog 17 #[grV g A1 c1, grV g A2 c2] w fun e w' => e = .returned (.bool true) ∧ Below w.heap.size w w' := by
  obtain ⟨gb, rfl, hgb, hc, hcm, hin, hmk, hbd⟩ := twG_open h1 hn
  have K1 := Keep.mk fun W (hW : Below w.heap.size w W) => sameGrammar_true g (some ⟨gb, 0, none⟩) A2 c1 c2 W (hin.below hW) (h2.below hW)
  have HM := Keep.mk hmk
  have HD := Keep.mk hbd
  have R2 := Keep.mk h2.r
  have hN := h2.l2
  clear h1 h2 hin hmk hbd hn
  obtain ⟨T, S, st, ps⟩ := g
  unfold grV at *
  dsimp only at *
  have B0 : Keep (Below w.heap.size w ((w.alloc (.cells #[.int .i64 T, .int .i64 S, .int .i64 st, .slice (some ⟨gb, 0, none⟩) ps.length c1] 24)).alloc (.cells #[.int .i64 T, .int .i64 S, .int .i64 st, .slice A2 ps.length c2] 24))) := ⟨((Below.refl _ _).alloc (Nat.le_refl _) _).alloc (by simp) _⟩
  have G1 : Keep (Blk ((w.alloc (.cells #[.int .i64 T, .int .i64 S, .int .i64 st, .slice (some ⟨gb, 0, none⟩) ps.length c1] 24)).alloc (.cells #[.int .i64 T, .int .i64 S, .int .i64 st, .slice A2 ps.length c2] 24)) w.heap.size 24 #[.int .i64 T, .int .i64 S, .int .i64 st, .slice (some ⟨gb, 0, none⟩) ps.length c1]) := ⟨(Blk.new _ _ _).alloc _⟩
  have G2 : Keep (Blk ((w.alloc (.cells #[.int .i64 T, .int .i64 S, .int .i64 st, .slice (some ⟨gb, 0, none⟩) ps.length c1] 24)).alloc (.cells #[.int .i64 T, .int .i64 S, .int .i64 st, .slice A2 ps.length c2] 24)) (w.heap.size + 1) 24 #[.int .i64 T, .int .i64 S, .int .i64 st, .slice A2 ps.length c2]) := ⟨Blk.newAt (by simp)⟩
  have u1 : decide ((c1 : Int) < (ps.length : Int) + 3) = false := decide_eq_false (by omega)
  have u2 : decide (c1 < ps.length + 3) = false := decide_eq_false (by omega)
  go_enter Try.func17, Try.ntmps17
  go_wp2_with fail
  refine (K1.out _ B0.out).mono ?_
  rintro e w1 ⟨rfl, hb⟩
  have B1 : Keep (Below w.heap.size w w1) := ⟨B0.out.trans (hb.mono (by simp; omega))⟩
  have H1 := Keep.mk (G1.out.below hb G1.out.lt)
  have H2 := Keep.mk (G2.out.below hb G2.out.lt)
  clear hb B0 G1 G2 K1
  have q1 := H1.out.cell 3
  have q2 := H2.out.cell 3
  simp at q1 q2
  have n1 := H1.out.lt
  have n2 := H2.out.lt
  go_wp2
  go_loopg [6] 3 (fun gg i wr => ∃ k : Nat, k ≤ 3 ∧ 3 - k ≤ gg ∧ i = .int .i64 k ∧ wr = w1)
  case atStart => exact ⟨0, by omega, by omega, rfl, rfl⟩
  case round =>
    obtain ⟨k, hk, hgk, rfl, rfl⟩ := hrel
    by_cases hlt : k < 3
    · have hc0 := cell_below (HM.out k hlt) B1.out hgb
      have i1 : (0 : Int) ≤ (ps.length : Int) + k := by omega
      have i2 : (ps.length : Int) + k < (ps.length : Int) + 3 := by omega
      have t5 : ((-7000 - (k : Int)) != (-7000 - (k : Int))) = false := by simp
      go_wp2
      go_roundg (3 - (k + 1))
      case measure => omega
      case rel => exact ⟨k + 1, by omega, by omega, by go_num, rfl⟩
    · obtain ⟨wo, rfl⟩ : ∃ wo : World, wo = wr := ⟨_, rfl⟩
      have hk3 : k = 3 := by omega
      subst hk3
      go_wp2
      go_loopg [7] ps.length (fun gg i wr => ∃ k : Nat, k ≤ ps.length ∧ ps.length - k ≤ gg ∧ i = .int .i64 k ∧ Keep (∃ n, wr = wo.drewN n))
      case atStart => exact ⟨0, Nat.zero_le _, by omega, rfl, ⟨0, rfl⟩⟩
      case round =>
        obtain ⟨i, hi, hgi, rfl, HW⟩ := hrel
        obtain ⟨nd, rfl⟩ := HW.out
        by_cases hlt : i < ps.length
        · obtain ⟨Ab, cb, d1, hcb, hcb2, hrb⟩ := HD.out i hlt
          obtain ⟨a2, x2, y2, rfl, nb2, e0, e1, e2, hl2, hr2⟩ := R2.out i hlt
          have nb2' : (a2.add (i * 3)).block < w.heap.size := by rw [add_block]; exact nb2
          replace d1 := cell_below d1 B1.out hgb
          replace e1 := cell_below e1 B1.out (by exact nb2')
          have KL := Keep.mk fun W (hW : Below w.heap.size w W) => leftInts_true Ab x2 cb y2 ps[i].body W hcb hcb2 ((hrb.below hW).mono hW.size) ((hr2.below hW).mono hW.size)
          clear hrb hr2 e0 e2
          generalize hX : ps[i] = X at *
          clear hX
          obtain ⟨xh, xb, xr⟩ := X
          dsimp only at *
          have i1 : (0 : Int) ≤ i := by omega
          have i2 : (i : Int) < ps.length := by omega
          go_wp2
          go_quiet ((go_at_call 41; exact quiet_add (KL.out _ (below_drewN B1.out _))))
          go_wp2
          go_roundg (ps.length - (i + 1))
          case measure => omega
          case rel => exact ⟨i + 1, by omega, by omega, by go_num, ⟨_, rfl⟩⟩
        · go_wp2
          go_ret
          exact ⟨rfl, below_drewN B1.out _⟩
end Go.Proofs.Ytofidghilcbegaa.H
namespace Go.Proofs.Ytofidghilcbegaa.H
open Go.RowKit
set_option linter.unusedVariables false
set_option linter.unusedSimpArgs false
theorem refSymbol (g : Gr) (s : Int) (A : Option Addr) (c : Nat) (w : World) :
    Calls Try.prog 44 #[grV g A c, .int .i64 s] w fun e w' => e = .returned (.bool (decide (0 ≤ s) && decide (s < g.S))) ∧ Below w.heap.size w w' := by
  obtain ⟨T, S, st, ps⟩ := g
  unfold grV
  dsimp only
  by_cases h : 0 ≤ s
  · have h1 : decide (0 ≤ s) = true := by simp [h]
    rw [h1, Bool.true_and]
    go_enter Try.func44, Try.ntmps44
    go_wp2
    go_ret
    exact ⟨rfl, (Below.refl _ _).alloc (Nat.le_refl _) _⟩
  · have h1 : decide (0 ≤ s) = false := by simp; omega
    rw [h1, Bool.false_and]
    go_enter Try.func44, Try.ntmps44
    go_wp2
    go_ret
    exact ⟨rfl, (Below.refl _ _).alloc (Nat.le_refl _) _⟩
theorem refHead (g : Gr) (s : Int) (A : Option Addr) (c : Nat) (w : World) :
    Calls Try.prog 48 #[grV g A c, .int .i64 s] w fun e w' => e = .returned (.bool (decide (g.T ≤ s) && decide (s < g.S))) ∧ Below w.heap.size w w' := by
  obtain ⟨T, S, st, ps⟩ := g
  unfold grV
  dsimp only
  by_cases h : T ≤ s
  · have h1 : decide (T ≤ s) = true := by simp [h]
    rw [h1, Bool.true_and]
    go_enter Try.func48, Try.ntmps48
    go_wp2
    go_ret
    exact ⟨rfl, (Below.refl _ _).alloc (Nat.le_refl _) _⟩
  · have h1 : decide (T ≤ s) = false := by simp; omega
    rw [h1, Bool.false_and]
    go_enter Try.func48, Try.ntmps48
    go_wp2
    go_ret
    exact ⟨rfl, (Below.refl _ _).alloc (Nat.le_refl _) _⟩
set_option maxHeartbeats 2000000 in
theorem refSame (a b : Pr) (Aa Ab : Option Addr) (ca cb : Nat) (w : World) (hl : a.body.length ≤ 9223372036854775807) (hla : a.body.length ≤ ca) (hlb : b.body.length ≤ cb)
    (h1 : Rd eI 1 w w.heap.size Aa a.body) (h2 : Rd eI 1 w w.heap.size Ab b.body) :
    Calls Try.prog 56 #[prV a Aa ca, prV b Ab cb] w fun e w' => e = .returned (.bool (sameP a b)) ∧ Below w.heap.size w w' := by
  have R1 := Keep.mk h1
  have R2 := Keep.mk h2
  clear h1 h2
  have HS : Keep (sameP a b = (decide (b.head = a.head) && decide (b.body = a.body))) := ⟨rfl⟩
  generalize sameP a b = RES at *
  obtain ⟨ha, xs, ra⟩ := a
  obtain ⟨hb, ys, rb⟩ := b
  unfold prV
  dsimp only at *
  have B0 : Keep (Below w.heap.size w ((w.alloc (.cells #[.int .i64 ha, .slice Aa xs.length ca, .bool ra] 38)).alloc (.cells #[.int .i64 hb, .slice Ab ys.length cb, .bool rb] 38))) := ⟨((Below.refl _ _).alloc (Nat.le_refl _) _).alloc (by simp) _⟩
  by_cases hh : ha = hb
  · by_cases hne : xs.length = ys.length
    · have t1 : ((ha : Int) != hb) = false := by simp [hh]
      have t2 : ((xs.length : Int) != ys.length) = false := by simp [hne]
      have HH := Keep.mk hh
      have Hne := Keep.mk hne
      clear hh hne
      go_enter Try.func56, Try.ntmps56
      go_wp2
      go_loopg [5] xs.length (fun gg s5 wr => ∃ k : Nat, k ≤ xs.length ∧ xs.length - k ≤ gg ∧ s5 = .int .i64 k ∧ Keep (∀ j, j < k → xs[j]? = ys[j]?) ∧ Keep (Below w.heap.size w wr) ∧
        Keep (Blk wr w.heap.size 38 #[.int .i64 ha, .slice Aa xs.length ca, .bool ra]) ∧ Keep (Blk wr (w.heap.size + 1) 38 #[.int .i64 hb, .slice Ab ys.length cb, .bool rb]))
      case atStart => exact ⟨0, Nat.zero_le _, by omega, rfl, ⟨fun j hj => absurd hj (Nat.not_lt_zero _)⟩, B0, ⟨(Blk.new _ _ _).alloc _⟩, ⟨Blk.newAt (by simp)⟩⟩
      case round =>
        clear B0
        obtain ⟨k, hk, hg, rfl, HA, B0, BA, BB⟩ := hrel
        have qa := BA.out.cell 1
        have qb := BB.out.cell 1
        simp at qa qb
        by_cases hlt : k < xs.length
        · have hlt2 : k < ys.length := by have := Hne.out; omega
          obtain ⟨a1, rfl, hb1, hc1⟩ := R1.out.int k hlt
          obtain ⟨a2, rfl, hb2, hc2⟩ := R2.out.int k hlt2
          replace hc1 := cell_below hc1 B0.out (by rw [add_block]; exact hb1)
          replace hc2 := cell_below hc2 B0.out (by rw [add_block]; exact hb2)
          generalize hx : xs[k] = x at *
          generalize hy : ys[k] = y at *
          have Hx := Keep.mk hx
          have Hy := Keep.mk hy
          clear hx hy
          have i1 : (0:Int) ≤ k := by omega
          have i2 : (k : Int) < xs.length := by omega
          have i3 : (k : Int) < ys.length := by omega
          by_cases hxy : x = y
          · have t : ((x : Int) != y) = false := by simp [hxy]
            have Hxy := Keep.mk hxy
            clear hxy
            go_wp2
            go_quiet (fail)
            go_wp2
            go_roundg (xs.length - (k + 1))
            case measure => omega
            case rel =>
              refine ⟨k + 1, by omega, by omega, by go_num, ⟨fun j hj => ?_⟩, ⟨below_drewN B0.out _⟩, ⟨BA.out.drewN _⟩, ⟨BB.out.drewN _⟩⟩
              by_cases e : j = k
              · subst e
                rw [List.getElem?_eq_getElem hlt, List.getElem?_eq_getElem hlt2, Hx.out, Hy.out, Hxy.out]
              · exact HA.out j (by omega)
          · have t : ((x : Int) != y) = true := by simp [hxy]
            have Hxy := Keep.mk hxy
            clear hxy
            go_wp2
            go_quiet (fail)
            go_wp2
            go_ret
            refine ⟨?_, below_drewN B0.out _⟩
            have : ¬ ys = xs := by
              rintro rfl
              exact Hxy.out (by rw [← Hx.out, ← Hy.out])
            rw [HS.out]
            simp [this]
        · go_wp2
          go_ret
          refine ⟨?_, B0.out⟩
          have : ys = xs := (List.ext_getElem? (fun j => by
            by_cases hj : j < k
            · exact HA.out j hj
            · rw [List.getElem?_eq_none (by omega), List.getElem?_eq_none (by have := Hne.out; omega)])).symm
          rw [HS.out, this, HH.out]
          simp
    · have t1 : ((ha : Int) != hb) = false := by simp [hh]
      have t2 : ((xs.length : Int) != ys.length) = true := by simp; omega
      have hR : RES = false := by rw [HS.out]; simp; intro _ e; exact hne (by rw [e])
      clear hh hne HS
      subst hR
      go_enter Try.func56, Try.ntmps56
      go_wp2
      go_ret
      exact ⟨rfl, B0.out⟩
  · have t1 : ((ha : Int) != hb) = true := by simp [hh]
    have hR : RES = false := by rw [HS.out]; simp; intro e; exact absurd e.symm hh
    clear hh HS
    subst hR
    go_enter Try.func56, Try.ntmps56
    go_wp2
    go_ret
    exact ⟨rfl, B0.out⟩
end Go.Proofs.Ytofidghilcbegaa.H
