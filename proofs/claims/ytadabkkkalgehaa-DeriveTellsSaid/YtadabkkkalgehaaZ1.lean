import Derived.Test.YtadabkkkalgehaaWWords
import Derived.Test.YtadabkkkalgehaaProg
import Derived.ProofKit
import Derived.Lib.SmallJoins
import Derived.OpenShut
import Derived.ShutString
import Derived.ChangeOld
import Derived.Below
import Derived.SizedLaws
import Derived.Deep.Slices
import Derived.Deep.Fields
import Derived.ChangeSame
import Derived.WalkKit
import Derived.Deep.LoopGhost
import Derived.Deep.QuietTactic
import Derived.BigQuiet
import Derived.Deep.RegionHeld3
import Derived.Deep.AppendLies
import Derived.Maps.AppendAt
import Derived.Deep.OwnRows
import Derived.KernelRfl
import Derived.Lib.Hide
import Derived.Shelf.Abstract
import Derived.Deep.DeepCutAuto
import Derived.Deep.CutBlock
import Derived.Deep.RegionWith
import Derived.Laws.AppendOwnNone
import Derived.Maps.OwnOps
import Derived.Maps.OwnSet
import Derived.Maps.Ext
import Derived.DeepKeys4
import Derived.RowKit
import Derived.StillTailTactics
import Derived.Outline
import Derived.Carry
namespace Go.Proofs.Ytadabkkkalgehaa.Rg
open Go.RowKit Go.Proofs.YtadabkkkalgehaaW.PrintWords Go.ChangeShapes Go.WideShapes Go.ChangeAt Go.Joins Go.Deep
set_option linter.unusedVariables false
set_option linter.unusedSimpArgs false
section
variable {H : Type} {enc : TypeId × Value → H} {w : World}
def Rds {α : Type} (enc : TypeId × Value → H) (w : World) (t : TypeId) (d : Kd α) (fuel : Nat) : Prop :=
  ∀ cs y, DataW.trod enc Try.prog w 0 (fun _ => true) true fuel t cs = some y → ∃ x, d.K w x cs
theorem rds_int {t : TypeId} {k : IntKind} (ht : Try.prog.underlying t = some (.int k)) (n : Nat) : Rds enc w t (Kd.int k) n := fun cs y h => by
  obtain ⟨x, rfl, _⟩ := DataW.trod_int ht h
  exact ⟨x, rfl⟩
theorem rds_bool {t : TypeId} (ht : Try.prog.underlying t = some .bool) (n : Nat) : Rds enc w t Kd.bool n := fun cs y h => by
  obtain ⟨x, rfl, _⟩ := DataW.trod_bool ht h
  exact ⟨x, rfl⟩
theorem choose_lt {α : Type} {n : Nat} {Q : Nat → α → Prop} (h : ∀ i, i < n → ∃ x, Q i x) : ∃ l : List α, l.length = n ∧ ∀ (i : Nat) (x : α), l[i]? = some x → Q i x := by
  induction n with
  | zero => exact ⟨[], rfl, fun i x hx => by simp at hx⟩
  | succ n ih =>
    obtain ⟨l, hl, hq⟩ := ih (fun i hi => h i (by omega))
    obtain ⟨x, hx⟩ := h n (by omega)
    refine ⟨l ++ [x], by simp [hl], fun i y hy => ?_⟩
    rcases Nat.lt_or_ge i n with hi | hi
    · rw [List.getElem?_append_left (by omega)] at hy
      exact hq i y hy
    · rw [List.getElem?_append_right (by omega)] at hy
      have : i = n := by
        rcases Nat.eq_or_lt_of_le hi with e | e
        · exact e.symm
        · rw [List.getElem?_eq_none (by simp; omega)] at hy; cases hy
      subst this
      simp [hl] at hy
      subst hy
      exact hx
theorem add_add' (a : Addr) (m n : Nat) : (a.add m).add n = a.add (m + n) := Go.Deep.add_add a m n
theorem row_of {α : Type} {d : Kd α} {e : TypeId} {A : Option Addr} {len : Nat} (hz : Try.prog.cellsOf e = d.sz) (hm : len ≤ 9223372036854775807)
    (h : 0 < len → ∃ a, A = some a ∧ ∀ i, i < len → ∃ cs x, w.cells? 0 (a.add (i * d.sz)) d.sz = some cs ∧ d.K w x cs) : ∃ xs : List α, xs.length = len ∧ d.C w A len xs := by
  by_cases h0 : len = 0
  · subst h0
    exact ⟨[], rfl, rfl, by omega, fun h => absurd h (Nat.lt_irrefl _)⟩
  · obtain ⟨a, rfl, hi⟩ := h (by omega)
    obtain ⟨l, hl, hq⟩ := choose_lt (Q := fun i x => ∃ cs, w.cells? 0 (a.add (i * d.sz)) d.sz = some cs ∧ d.K w x cs) (fun i hl => by
      obtain ⟨cs, x, h1, h2⟩ := hi i hl
      exact ⟨x, cs, h1, h2⟩)
    refine ⟨l, hl, hl, hm, fun _ => ⟨a, rfl, fun j x hx => ?_⟩⟩
    obtain ⟨cs, h1, h2⟩ := hq j x hx
    obtain ⟨_, hlen, hat⟩ := World.cells?_some h1
    refine ⟨cs, hlen, h2, fun i u hu => ?_⟩
    have hil : i < d.sz := by rw [← hlen]; exact (List.getElem?_eq_some_iff.1 hu).1
    rw [← add_add', hat i hil, hu]
theorem rds_slice {α : Type} {d : Kd α} {t e : TypeId} (ht : Try.prog.underlying t = some (.slice e)) (hz : Try.prog.cellsOf e = d.sz) {fuel : Nat} (hd : ∀ n, n < fuel → Rds enc w e d n) : Rds enc w t (Kd.slice e d) fuel := fun cs y h => by
  rcases DataW.trod_slice ht h with ⟨rfl, _⟩ | ⟨a, len, cap, elems, rest, n, rfl, rfl, _, _, hl, hm, hlen, hel, _, _⟩
  · exact ⟨[], none, 0, rfl, Nat.le_refl _, rfl, by simp, fun h => absurd h (Nat.lt_irrefl _)⟩
  · obtain ⟨xs, hxl, hC⟩ := row_of (w := w) (d := d) (e := e) (A := some a) (len := len) hz (Nat.le_trans hl hm) (fun _ => ⟨a, rfl, fun i hi => by
      have h1 := hel i hi
      rw [List.getElem?_eq_getElem (by omega), hz] at h1
      obtain ⟨cs', h2, h3⟩ := Option.bind_eq_some_iff.1 h1
      obtain ⟨x, hx⟩ := hd n (Nat.lt_succ_self _) _ _ h3
      exact ⟨cs', x, h2, hx⟩⟩)
    subst hxl
    exact ⟨xs, some a, cap, rfl, hl, hC⟩
theorem fld_last {α : Type} {d : Kd α} {t : TypeId} {n o s : Nat} {cs : List Value} {y : DataW H × List MemPlace} (hd : Rds enc w t d n) (hl : cs.length = o + s)
    (h : DataW.trod enc Try.prog w 0 (fun _ => true) true n t ((cs.drop o).take s) = some y) : ∃ x, d.K w x (cs.drop o) := by
  have e : (cs.drop o).take s = cs.drop o := List.take_of_length_le (by rw [List.length_drop]; omega)
  rw [e] at h
  exact hd _ _ h
theorem fld_cons {α β : Type} {d : Kd α} {b : Kd β} {t : TypeId} {n o s : Nat} {cs : List Value} {y : DataW H × List MemPlace} (hd : Rds enc w t d n)
    (h : DataW.trod enc Try.prog w 0 (fun _ => true) true n t ((cs.drop o).take s) = some y) (hb : ∃ x, b.K w x (cs.drop (o + s))) : ∃ x, (Kd.pair d b).K w x (cs.drop o) := by
  obtain ⟨x, hx⟩ := hd _ _ h
  obtain ⟨z, hz⟩ := hb
  refine ⟨(x, z), (cs.drop o).take s, cs.drop (o + s), ?_, hx, hz⟩
  rw [← List.drop_drop, List.take_append_drop]
theorem fld_iso {α β : Type} {d : Kd α} {f : β → α} {cs : List Value} (g : α → β) (hg : ∀ x, f (g x) = x) (h : ∃ x, d.K w x (cs.drop 0)) : ∃ x, (Kd.iso d f).K w x cs := by
  obtain ⟨x, hx⟩ := h
  exact ⟨g x, by show d.K w (f (g x)) cs; rw [hg]; exact hx⟩
theorem str_of {t : TypeId} {fs : Array Field} {fuel : Nat} {cs : List Value} {y : DataW H × List MemPlace} (ht : Try.prog.underlying t = some (.struct fs)) (h : DataW.trod enc Try.prog w 0 (fun _ => true) true fuel t cs = some y) :
    ∃ n, fuel = n + 1 ∧ cs.length = Try.prog.cellsOf t ∧ ∀ (i : Nat) (f : Field), fs[i]? = some f → ∃ z, DataW.trod enc Try.prog w 0 (fun _ => true) true n f.type ((cs.drop f.offset).take (Try.prog.cellsOf f.type)) = some z := by
  obtain ⟨xs, n, rfl, _, hl, hlen, hf⟩ := DataW.trod_struct ht h
  refine ⟨n, rfl, hl, fun i f hi => ?_⟩
  have hlt : i < fs.size := (Array.getElem?_eq_some_iff.1 hi).1
  have := hf i f hi
  rw [List.getElem?_eq_getElem (by omega)] at this
  exact ⟨_, this⟩
theorem arg_agg {α : Type} {d : Kd α} {t : TypeId} {fs : Array Field} {b0 : Nat} {v : Value} {x : DataW H} {p : List MemPlace} (ht : Try.prog.underlying t = some (.struct fs)) (hv : Value.okWide Try.prog w .any b0 t v)
    (h : DataW.Trod enc Try.prog w 0 (fun _ => true) true t v x p) (hd : ∀ n, Rds enc w t d n) : ∃ a cs, v = .agg cs.toArray ∧ d.K w a cs := by
  obtain ⟨cs, rfl, hsz⟩ := okWide_struct ht hv
  obtain ⟨fuel, hf⟩ := h
  obtain ⟨a, ha⟩ := hd fuel _ _ hf
  exact ⟨a, cs.toList, by simp, by simpa [Value.cells] using ha⟩
theorem arg_slice {α : Type} {d : Kd α} {t e : TypeId} {b0 : Nat} {v : Value} {x : DataW H} {p : List MemPlace} (ht : Try.prog.underlying t = some (.slice e)) (hz : Try.prog.cellsOf e = d.sz) (hv : Value.okWide Try.prog w .any b0 t v)
    (h : DataW.Trod enc Try.prog w 0 (fun _ => true) true t v x p) (hd : ∀ n, Rds enc w e d n) : ∃ A xs c, v = .slice A xs.length c ∧ xs.length ≤ c ∧ d.C w A xs.length xs := by
  obtain ⟨A, n, c, rfl⟩ := okWide_slice ht hv
  obtain ⟨fuel, hf⟩ := h
  obtain ⟨xs, A', c', h1, h2, h3⟩ := rds_slice (d := d) ht hz (fun n _ => hd n) [.slice A n c] (x, p) (by simpa [Value.cells] using hf)
  injection h1 with h1
  exact ⟨A', xs, c', h1, h2, h3⟩
end
end Go.Proofs.Ytadabkkkalgehaa.Rg
namespace Go.Proofs.Ytadabkkkalgehaa.H
open Go.RowKit
structure Keep (p : Prop) : Prop where mk :: (out : p)
theorem cell_lt {w : World} {a : Addr} {v : Value} (h : w.cell? a = some v) : a.block < w.heap.size := World.block_lt_of_cell? w a h
theorem cell_below {B : Nat} {w w' : World} {a : Addr} {v : Value} (h : w.cell? a = some v) (hb : Below B w w') (ha : a.block < B) : w'.cell? a = some v := (hb.cell ha).trans h
theorem below_step {B B' : Nat} {a b c : World} (h : Below B a b) (k : Below B' b c) (hB : B ≤ B') : Below B a c := h.trans (k.mono hB)
theorem below_drew1 {B : Nat} {w W : World} (h : Below B w W) : Below B w W.drew := h.drew
theorem below_drewN {B : Nat} {w W : World} (h : Below B w W) (n : Nat) : Below B w (W.drewN n) := ⟨h.os, h.tape, h.output, h.size, h.block⟩
theorem add_block (a : Addr) (n : Nat) : (a.add n).block = a.block := by unfold Addr.add; split <;> rfl
def Rd {α : Type} (enc : α → List Value) (k : Nat) (w : World) (B : Nat) (A : Option Addr) (xs : List α) : Prop :=
  ∀ i (h : i < xs.length), ∃ ad, A = some ad ∧ ad.block < B ∧ ∀ j u, (enc xs[i])[j]? = some u → w.cell? ((ad.add (i * k)).add j) = some u
def eI (x : Int) : List Value := [.int .i64 x]
def eB (x : Bool) : List Value := [.bool x]
theorem Rd.below {α : Type} {enc : α → List Value} {k : Nat} {w w' : World} {B : Nat} {A : Option Addr} {xs : List α} (h : Rd enc k w B A xs) (hb : Below B w w') : Rd enc k w' B A xs := by
  intro i hi
  obtain ⟨ad, e, hB, hc⟩ := h i hi
  exact ⟨ad, e, hB, fun j u hu => cell_below (hc j u hu) hb (by rw [add_block, add_block]; exact hB)⟩
theorem Rd.mono {α : Type} {enc : α → List Value} {k : Nat} {w : World} {B B' : Nat} {A : Option Addr} {xs : List α} (h : Rd enc k w B A xs) (hB : B ≤ B') : Rd enc k w B' A xs := by
  intro i hi
  obtain ⟨ad, e, hb, hc⟩ := h i hi
  exact ⟨ad, e, by omega, hc⟩
theorem Rd.take {α : Type} {enc : α → List Value} {k : Nat} {w : World} {B : Nat} {A : Option Addr} {xs : List α} (h : Rd enc k w B A xs) (n : Nat) : Rd enc k w B A (xs.take n) := by
  intro i hi
  have hi' : i < xs.length := by rw [List.length_take] at hi; omega
  obtain ⟨ad, e, hb, hc⟩ := h i hi'
  refine ⟨ad, e, hb, ?_⟩
  rw [List.getElem_take]
  exact hc
theorem Rd.get1 {α : Type} {enc : α → List Value} {w : World} {B : Nat} {A : Option Addr} {xs : List α} (v : α → Value) (he : ∀ x, enc x = [v x]) (h : Rd enc 1 w B A xs) (i : Nat) (hi : i < xs.length) :
    ∃ ad, A = some ad ∧ ad.block < B ∧ w.cell? (ad.add i) = some (v xs[i]) := by
  obtain ⟨ad, e, hb, hc⟩ := h i hi
  have := hc 0 (v xs[i]) (by rw [he]; rfl)
  exact ⟨ad, e, hb, by simpa [Addr.add] using this⟩
theorem Rd.int {w : World} {B : Nat} {A : Option Addr} {xs : List Int} (h : Rd eI 1 w B A xs) (i : Nat) (hi : i < xs.length) :
    ∃ ad, A = some ad ∧ ad.block < B ∧ w.cell? (ad.add i) = some (.int .i64 xs[i]) := h.get1 (fun x => .int .i64 x) (fun _ => rfl) i hi
theorem Rd.bool {w : World} {B : Nat} {A : Option Addr} {xs : List Bool} (h : Rd eB 1 w B A xs) (i : Nat) (hi : i < xs.length) :
    ∃ ad, A = some ad ∧ ad.block < B ∧ w.cell? (ad.add i) = some (.bool xs[i]) := h.get1 (fun x => .bool x) (fun _ => rfl) i hi
structure Pr where
  head : Int
  body : List Int
  right : Bool
structure Gr where
  T : Int
  S : Int
  st : Int
  ps : List Pr
def RdP (w : World) (B : Nat) (A : Option Addr) (ps : List Pr) : Prop :=
  ∀ i (h : i < ps.length), ∃ ad Ab cb, A = some ad ∧ ad.block < B ∧ w.cell? (ad.add (i * 3)) = some (.int .i64 ps[i].head) ∧
    w.cell? ⟨(ad.add (i * 3)).block, (ad.add (i * 3)).off + 1, none⟩ = some (.slice Ab ps[i].body.length cb) ∧
    w.cell? ⟨(ad.add (i * 3)).block, (ad.add (i * 3)).off + 2, none⟩ = some (.bool ps[i].right) ∧ ps[i].body.length ≤ cb ∧ Rd eI 1 w B Ab ps[i].body
theorem RdP.below {w w' : World} {B : Nat} {A : Option Addr} {ps : List Pr} (h : RdP w B A ps) (hb : Below B w w') : RdP w' B A ps := by
  intro i hi
  obtain ⟨ad, Ab, cb, e, hB, c0, c1, c2, hl, hr⟩ := h i hi
  exact ⟨ad, Ab, cb, e, hB, cell_below c0 hb (by rw [add_block]; exact hB), cell_below c1 hb (by show (ad.add _).block < B; rw [add_block]; exact hB),
    cell_below c2 hb (by show (ad.add _).block < B; rw [add_block]; exact hB), hl, hr.below hb⟩
theorem RdP.mono {w : World} {B B' : Nat} {A : Option Addr} {ps : List Pr} (h : RdP w B A ps) (hB : B ≤ B') : RdP w B' A ps := by
  intro i hi
  obtain ⟨ad, Ab, cb, e, hb, c0, c1, c2, hl, hr⟩ := h i hi
  exact ⟨ad, Ab, cb, e, by omega, c0, c1, c2, hl, hr.mono hB⟩
theorem RdP.take {w : World} {B : Nat} {A : Option Addr} {ps : List Pr} (h : RdP w B A ps) (n : Nat) : RdP w B A (ps.take n) := by
  intro i hi
  have hi' : i < ps.length := by rw [List.length_take] at hi; omega
  have := h i hi'
  rw [List.getElem_take]
  exact this
def Blk (w : World) (g : Nat) (t : TypeId) (cs : Array Value) : Prop := w.heap[g]? = some (.cells cs t (0, 0))
section
variable {w w' : World} {g : Nat} {t : TypeId} {cs : Array Value}
theorem Blk.lt (h : Blk w g t cs) : g < w.heap.size := by
  rcases Nat.lt_or_ge g w.heap.size with hlt | hge
  · exact hlt
  · unfold Blk at h; rw [Array.getElem?_eq_none hge] at h; cases h
theorem Blk.cell (h : Blk w g t cs) (i : Nat) : w.cell? ⟨g, i, none⟩ = cs[i]? := cell_of_row w g i cs t (0, 0) h
theorem Blk.frozen (h : Blk w g t cs) (i : Nat) : w.frozen? ⟨g, i, none⟩ = false := by
  unfold Blk at h
  simp [World.frozen?, h]
theorem Blk.new (w : World) (t : TypeId) (cs : Array Value) : Blk (w.alloc (.cells cs t)) w.heap.size t cs := heap_alloc_new w _
theorem Blk.newAt (hg : g = w.heap.size) : Blk (w.alloc (.cells cs t)) g t cs := by subst hg; exact Blk.new w t cs
theorem Blk.drew (h : Blk w g t cs) : Blk w.drew g t cs := h
theorem Blk.drewN (h : Blk w g t cs) (n : Nat) : Blk (w.drewN n) g t cs := h
theorem Blk.alloc (h : Blk w g t cs) (o : Obj) : Blk (w.alloc o) g t cs := (Below.heap_alloc w o g h.lt).trans h
theorem Blk.set_ (h : Blk w g t cs) (i : Nat) (u : Value) : Blk (w.setCell ⟨g, i, none⟩ u) g t (cs.setIfInBounds i u) := by
  unfold Blk at h ⊢
  simp [World.setCell, Array.getElem?_modify, h]
theorem Blk.far (h : Blk w g t cs) {p : Addr} (hp : g ≠ p.block) (u : Value) : Blk (w.setCell p u) g t cs := (Below.heap_setCell w p u g hp).trans h
theorem Blk.below {B : Nat} (h : Blk w g t cs) (hb : Below B w w') (hg : g < B) : Blk w' g t cs := (hb.block g hg).trans h
theorem Blk.grown {row : Option Nat} (h : Blk w g t cs) (hb : w.grownBy w' row) (hg : some g ≠ row) : Blk w' g t cs := (hb.block g h.lt hg).trans h
end
def bools (xs : List Bool) : Array Value := (xs.map Value.bool).toArray
def ints (k : IntKind) (xs : List Int) : Array Value := (xs.map (Value.int k)).toArray
theorem bools_at (xs : List Bool) (i : Nat) (h : i < xs.length) : (bools xs)[i]? = some (.bool xs[i]) := by simp [bools, h]
theorem bools_set (xs : List Bool) (i : Nat) (b : Bool) : (bools xs).setIfInBounds i (.bool b) = bools (xs.set i b) := by simp [bools, List.map_set]
theorem ints_at (k : IntKind) (xs : List Int) (i : Nat) (h : i < xs.length) : (ints k xs)[i]? = some (.int k xs[i]) := by simp [ints, h]
theorem ints_set (k : IntKind) (xs : List Int) (i : Nat) (b : Int) : (ints k xs).setIfInBounds i (.int k b) = ints k (xs.set i b) := by simp [ints, List.map_set]
theorem rd_bools {w : World} {g : Nat} {t : TypeId} {xs : List Bool} {B : Nat} (h : Blk w g t (bools xs)) (hB : g < B) : Rd eB 1 w B (some ⟨g, 0, none⟩) xs := by
  intro i hi
  refine ⟨_, rfl, hB, fun j u hu => ?_⟩
  have hj : j = 0 := by
    rcases j with _ | j
    · rfl
    · simp [eB] at hu
  subst hj
  have : ((Addr.mk g 0 none).add (i * 1)).add 0 = ⟨g, i, none⟩ := by by_cases h0 : i = 0 <;> simp [Addr.add, h0]
  rw [this, h.cell i, bools_at xs i hi]
  simpa [eB] using hu
theorem rd_bools_drop {w : World} {g : Nat} {t : TypeId} {xs : List Bool} {B : Nat} (k : Nat) (h : Blk w g t (bools xs)) (hB : g < B) : Rd eB 1 w B (some ⟨g, k, none⟩) (xs.drop k) := by
  intro i hi
  refine ⟨_, rfl, hB, fun j u hu => ?_⟩
  have hj : j = 0 := by
    rcases j with _ | j
    · rfl
    · simp [eB] at hu
  subst hj
  have : ((Addr.mk g k none).add (i * 1)).add 0 = ⟨g, k + i, none⟩ := by by_cases h0 : i = 0 <;> simp [Addr.add, h0]
  rw [List.length_drop] at hi
  rw [this, h.cell (k + i), bools_at xs (k + i) (by omega)]
  simpa [eB] using hu
theorem madeCells_bools (n : Nat) : madeCells #[Value.bool false] n = bools (List.replicate n false) := by
  apply Array.ext
  · simp [bools, madeCells]
  · intro i h1 h2
    simp [bools, madeCells, Nat.mod_one]
theorem madeCells_ints (k : IntKind) (n : Nat) : madeCells #[Value.int k 0] n = ints k (List.replicate n 0) := by
  apply Array.ext
  · simp [ints, madeCells]
  · intro i h1 h2
    simp [ints, madeCells, Nat.mod_one]
def OwnI (w : World) (B : Nat) (v : Value) (xs : List Int) : Prop := w.ownsRow B 3 1 v xs.length (xs.map (Value.int .i64))
theorem OwnI.nil (w : World) (B : Nat) : OwnI w B (.slice none 0 0) [] := ⟨by simp, .inl ⟨rfl, rfl⟩⟩
theorem OwnI.open_ {w : World} {B : Nat} {v : Value} {xs : List Int} (h : OwnI w B v xs) :
    ∃ A c, v = .slice A xs.length c ∧ xs.length ≤ c ∧ c ≤ maxLen ∧ Rd eI 1 w w.heap.size A xs ∧ (∀ ad, A = some ad → B ≤ ad.block ∧ ad.off = 0 ∧ ad.spot = none) ∧ (A = none → xs = []) := by
  obtain ⟨h1, h2⟩ := h
  rcases h2 with ⟨rfl, h0⟩ | ⟨g, cap, cur, rfl, hB, hh, hn, hc, hs, ht⟩
  · have : xs = [] := List.eq_nil_of_length_eq_zero h0
    subst this
    exact ⟨none, 0, rfl, by simp, by simp [maxLen], fun i hi => absurd hi (by simp), fun ad h => (by cases h), fun _ => rfl⟩
  · have hlt : g < w.heap.size := by
      rcases Nat.lt_or_ge g w.heap.size with h | h
      · exact h
      · rw [Array.getElem?_eq_none h] at hh; cases hh
    refine ⟨some ⟨g, 0, none⟩, cap, rfl, hn, hc, fun i hi => ⟨_, rfl, hlt, fun j u hu => ?_⟩, fun ad h => by injection h with h; subst h; exact ⟨hB, rfl, rfl⟩, fun h => by cases h⟩
    have hj : j = 0 := by
      rcases j with _ | j
      · rfl
      · simp [eI] at hu
    subst hj
    have : ((Addr.mk g 0 none).add (i * 1)).add 0 = ⟨g, i, none⟩ := by by_cases h0 : i = 0 <;> simp [Addr.add, h0]
    rw [this]
    have e : w.cell? ⟨g, i, none⟩ = cur[i]? := cell_of_row w g i cur _ _ hh
    rw [e]
    have h3 : (cur.toList.take (xs.length * 1))[i]? = (xs.map (Value.int .i64))[i]? := by rw [ht]
    rw [List.getElem?_take, if_pos (by omega)] at h3
    simp only [Array.getElem?_toList] at h3
    rw [h3]
    simp [hi] at hu ⊢
    simpa [eI] using hu
theorem OwnI.below {w w' : World} {B : Nat} {v : Value} {xs : List Int} (h : OwnI w B v xs) (hb : Below w.heap.size w w') : OwnI w' B v xs := by
  obtain ⟨h1, h2⟩ := h
  refine ⟨h1, ?_⟩
  rcases h2 with h0 | ⟨g, cap, cur, hv, hB, hh, hr⟩
  · exact .inl h0
  · refine .inr ⟨g, cap, cur, hv, hB, ?_, hr⟩
    have hlt : g < w.heap.size := by
      rcases Nat.lt_or_ge g w.heap.size with h | h
      · exact h
      · rw [Array.getElem?_eq_none h] at hh; cases hh
    exact (hb.block g hlt).trans hh
theorem OwnI.mono {w : World} {B B' : Nat} {v : Value} {xs : List Int} (h : OwnI w B v xs) (hB : B' ≤ B) : OwnI w B' v xs := by
  obtain ⟨h1, h2⟩ := h
  refine ⟨h1, ?_⟩
  rcases h2 with h0 | ⟨g, cap, cur, hv, hB, hr⟩
  · exact .inl h0
  · exact .inr ⟨g, cap, cur, hv, by omega, hr⟩
end Go.Proofs.Ytadabkkkalgehaa.H
namespace Go.Proofs.Ytadabkkkalgehaa.H
open Go.RowKit
set_option linter.unusedVariables false
set_option linter.unusedSimpArgs false
theorem slicesEqual (A1 A2 : Option Addr) (n1 n2 c1 c2 : Nat) (xs ys : List Int) (w : World)
    (hn1 : n1 = xs.length) (hn2 : n2 = ys.length) (hl1 : xs.length ≤ 9223372036854775807)
    (h1 : Rd eI 1 w w.heap.size A1 xs) (h2 : Rd eI 1 w w.heap.size A2 ys) :
    Calls Try.prog 62 #[.slice A1 n1 c1, .slice A2 n2 c2] w fun e w' => e = .returned (.bool (decide (xs = ys))) ∧ ∃ n, w' = w.drewN n := by
  subst hn1 hn2
  by_cases hne : xs.length = ys.length
  · have hne' : ((xs.length : Int) != (ys.length : Int)) = false := by simp [hne]
    have Hne := Lib.hid hne
    clear hne
    go_enter Try.func62, Try.ntmps62
    go_wp2
    go_loopg [5, 13] xs.length (fun gg _ s13 wr => ∃ k : Nat, k ≤ xs.length ∧ xs.length - k ≤ gg ∧ s13 = .int .i64 k ∧ (∃ n, wr = w.drewN n) ∧ Keep (∀ j, j < k → xs[j]? = ys[j]?))
    case atStart => exact ⟨0, Nat.zero_le _, by omega, rfl, ⟨0, rfl⟩, ⟨fun j hj => absurd hj (Nat.not_lt_zero _)⟩⟩
    case round =>
      obtain ⟨k, hk, hg, rfl, ⟨n, rfl⟩, HA⟩ := hrel
      by_cases hlt : k < xs.length
      · have hlt2 : k < ys.length := by have := Hne.out; omega
        obtain ⟨a1, rfl, hb1, hc1⟩ := h1.int k hlt
        obtain ⟨a2, rfl, hb2, hc2⟩ := h2.int k hlt2
        clear h1 h2
        generalize hx : xs[k] = x at *
        generalize hy : ys[k] = y at *
        have Hx := Lib.hid hx
        have Hy := Lib.hid hy
        clear hx hy
        have i1 : (0:Int) ≤ k := by omega
        have i2 : (k : Int) < xs.length := by omega
        have i3 : (k : Int) < ys.length := by omega
        by_cases hxy : x = y
        · have t : ((x : Int) != y) = false := by simp [hxy]
          have Hxy := Lib.hid hxy
          clear hxy
          go_wp2
          go_quiet (fail)
          go_wp2
          go_roundg (xs.length - (k + 1))
          case measure => omega
          case rel =>
            refine ⟨k + 1, by omega, by omega, by go_num, ⟨_, rfl⟩, ⟨fun j hj => ?_⟩⟩
            by_cases e : j = k
            · subst e
              rw [List.getElem?_eq_getElem hlt, List.getElem?_eq_getElem hlt2, Hx.out, Hy.out, Hxy.out]
            · exact HA.out j (by omega)
        · have t : ((x : Int) != y) = true := by simp [hxy]
          have Hxy := Lib.hid hxy
          clear hxy
          go_wp2
          go_quiet (fail)
          go_wp2
          go_ret
          refine ⟨?_, ⟨_, World.drewN_drewN ..⟩⟩
          have : ¬ xs = ys := by
            rintro rfl
            exact Hxy.out (by rw [← Hx.out, ← Hy.out])
          simp [this]
      · go_wp2
        go_ret
        refine ⟨?_, ⟨_, rfl⟩⟩
        have : xs = ys := List.ext_getElem? (fun j => by
          by_cases hj : j < k
          · exact HA.out j hj
          · rw [List.getElem?_eq_none (by omega), List.getElem?_eq_none (by have := Hne.out; omega)])
        simp [this]
  · have hne' : ((xs.length : Int) != (ys.length : Int)) = true := by simp; omega
    have hxy : decide (xs = ys) = false := by simp; intro h; exact hne (by rw [h])
    clear hne
    go_enter Try.func62, Try.ntmps62
    go_wp2
    go_ret
    exact ⟨by rw [hxy]; rfl, 0, rfl⟩
def PredI (g : Nat) (lb : Array Value) (p : Int → Bool) (xs : List Int) (w : World) : Prop :=
  ∀ x ∈ xs, ∀ W, Below w.heap.size w W → Calls Try.prog g (#[.int .i64 x] ++ lb) W fun e w' => e = .returned (.bool (p x)) ∧ Below w.heap.size w w'
def idxOf {α : Type} (p : α → Bool) (xs : List α) : Int := if xs.any p then (xs.findIdx p : Int) else -1
theorem idxOf_hit {α : Type} {p : α → Bool} {xs : List α} {k : Nat} (hk : k < xs.length) (hp : p xs[k] = true) (h : ∀ j (hj : j < k), p (xs[j]'(by omega)) = false) : idxOf p xs = k := by
  unfold idxOf
  have ha : xs.any p = true := List.any_eq_true.2 ⟨_, List.getElem_mem hk, hp⟩
  rw [if_pos ha]
  congr 1
  rw [List.findIdx_eq hk]
  exact ⟨hp, fun j hj => h j hj⟩
theorem idxOf_miss {α : Type} {p : α → Bool} {xs : List α} (h : ∀ j (hj : j < xs.length), p xs[j] = false) : idxOf p xs = -1 := by
  unfold idxOf
  rw [if_neg]
  rw [List.any_eq_true]
  rintro ⟨x, hx, hp⟩
  obtain ⟨j, hj, rfl⟩ := List.getElem_of_mem hx
  rw [h j hj] at hp
  cases hp
theorem idxOf_ge {α : Type} (p : α → Bool) (xs : List α) : decide (idxOf p xs ≥ 0) = xs.any p := by
  unfold idxOf
  split
  · rename_i h; rw [h]; simp
  · rename_i h; simp only [Bool.not_eq_true] at h; rw [h]; rfl
theorem indexFuncI (A : Option Addr) (n c : Nat) (xs : List Int) (g : Nat) (lb : Array Value) (p : Int → Bool) (w : World)
    (hn : n = xs.length) (hl : xs.length ≤ 9223372036854775807) (h : Rd eI 1 w w.heap.size A xs)
    (eg : ∀ args w, (callFunc g args).run Try.prog w = .ok (.enter g args) w) (hp : PredI g lb p xs w) :
    Calls Try.prog 72 #[.slice A n c, .func (.func g) #[] lb] w fun e w' => e = .returned (.int .i64 (idxOf p xs)) ∧ Below w.heap.size w w' := by
  subst hn
  go_enter Try.func72, Try.ntmps72
  go_wp2
  go_loopg [5, 8] xs.length (fun gg _ s8 wr => ∃ k : Nat, k ≤ xs.length ∧ xs.length - k ≤ gg ∧ s8 = .int .i64 k ∧ Keep (Below w.heap.size w wr) ∧ Keep (∀ j (hj : j < xs.length), j < k → p xs[j] = false))
  case atStart => exact ⟨0, Nat.zero_le _, by omega, rfl, ⟨Below.refl _ w⟩, ⟨fun j _ hj => absurd hj (Nat.not_lt_zero _)⟩⟩
  case round =>
    obtain ⟨k, hk, hg, rfl, BW, HA⟩ := hrel
    by_cases hlt : k < xs.length
    · obtain ⟨ad, rfl, hb, hc⟩ := h.int k hlt
      have hc' := cell_below hc BW.out (by rw [add_block]; exact hb)
      have hcall := hp xs[k] (List.getElem_mem hlt) wr BW.out
      clear hc h hp
      generalize hx : xs[k] = x at *
      have Hx := Lib.hid hx
      clear hx
      have i1 : (0:Int) ≤ k := by omega
      have i2 : (k : Int) < xs.length := by omega
      cases hq : p x with
      | true =>
        rw [hq] at hcall
        have Hq := Lib.hid hq
        clear hq
        go_wp2_with (go_at_fn g; refine hcall.mono ?_; rintro e w' ⟨rfl, hb'⟩)
        go_ret
        refine ⟨?_, hb'⟩
        rw [idxOf_hit hlt (by rw [Hx.out]; exact Hq.out) (fun j hj => HA.out j (by omega) hj)]
        rfl
      | false =>
        rw [hq] at hcall
        have Hq := Lib.hid hq
        clear hq
        go_wp2_with (go_at_fn g; refine hcall.mono ?_; rintro e w' ⟨rfl, hb'⟩)
        go_roundg (xs.length - (k + 1))
        case measure => omega
        case rel =>
          refine ⟨k + 1, by omega, by omega, by go_num, ⟨hb'⟩, ⟨fun j hj hjk => ?_⟩⟩
          by_cases e : j = k
          · subst e; rw [Hx.out]; exact Hq.out
          · exact HA.out j hj (by omega)
    · go_wp2
      go_ret
      refine ⟨?_, BW.out⟩
      rw [idxOf_miss (fun j hj => HA.out j hj (by omega))]
      rfl
theorem containsFuncI (A : Option Addr) (n c : Nat) (xs : List Int) (g : Nat) (lb : Array Value) (p : Int → Bool) (w : World)
    (hn : n = xs.length) (hl : xs.length ≤ 9223372036854775807) (h : Rd eI 1 w w.heap.size A xs)
    (eg : ∀ args w, (callFunc g args).run Try.prog w = .ok (.enter g args) w) (hp : PredI g lb p xs w) :
    Calls Try.prog 64 #[.slice A n c, .func (.func g) #[] lb] w fun e w' => e = .returned (.bool (xs.any p)) ∧ Below w.heap.size w w' := by
  rw [← idxOf_ge]
  subst hn
  go_enter Try.func64, Try.ntmps64
  go_wp2_with (go_at_call 72; refine (indexFuncI A _ c xs g lb p _ rfl hl h eg hp).mono ?_; rintro e w' ⟨rfl, hb'⟩)
  go_ret
  exact ⟨by simp, hb'⟩
def prV (p : Pr) (A : Option Addr) (c : Nat) : Value := .agg #[.int .i64 p.head, .slice A p.body.length c, .bool p.right]
def PredP (g : Nat) (lb : Array Value) (q : Pr → Bool) (ps : List Pr) (w : World) : Prop :=
  ∀ p ∈ ps, ∀ A c, Rd eI 1 w w.heap.size A p.body → ∀ W, Below w.heap.size w W → Calls Try.prog g (#[prV p A c] ++ lb) W fun e w' => e = .returned (.bool (q p)) ∧ Below w.heap.size w w'
theorem indexFuncP (A : Option Addr) (n c : Nat) (ps : List Pr) (g : Nat) (lb : Array Value) (q : Pr → Bool) (w : World)
    (hn : n = ps.length) (hl : ps.length ≤ 9223372036854775807) (h : RdP w w.heap.size A ps)
    (eg : ∀ args w, (callFunc g args).run Try.prog w = .ok (.enter g args) w) (hp : PredP g lb q ps w) :
    Calls Try.prog 63 #[.slice A n c, .func (.func g) #[] lb] w fun e w' => e = .returned (.int .i64 (idxOf q ps)) ∧ Below w.heap.size w w' := by
  subst hn
  go_enter Try.func63, Try.ntmps63
  go_wp2
  go_loopg [5, 8] ps.length (fun gg _ s8 wr => ∃ k : Nat, k ≤ ps.length ∧ ps.length - k ≤ gg ∧ s8 = .int .i64 k ∧ Keep (Below w.heap.size w wr) ∧ Keep (∀ j (hj : j < ps.length), j < k → q ps[j] = false))
  case atStart => exact ⟨0, Nat.zero_le _, by omega, rfl, ⟨Below.refl _ w⟩, ⟨fun j _ hj => absurd hj (Nat.not_lt_zero _)⟩⟩
  case round =>
    obtain ⟨k, hk, hg, rfl, BW, HA⟩ := hrel
    by_cases hlt : k < ps.length
    · obtain ⟨ad, Ab, cb, rfl, hb, c0, c1, c2, hlb, hr⟩ := h k hlt
      replace c0 := cell_below c0 BW.out (by rw [add_block]; exact hb)
      replace c1 := cell_below c1 BW.out (by show (ad.add _).block < _; rw [add_block]; exact hb)
      replace c2 := cell_below c2 BW.out (by show (ad.add _).block < _; rw [add_block]; exact hb)
      have hcall := hp ps[k] (List.getElem_mem hlt) Ab cb hr wr BW.out
      clear h hp hr
      unfold prV at hcall
      generalize hx : ps[k] = x at *
      have Hx := Lib.hid hx
      clear hx
      have i1 : (0:Int) ≤ k := by omega
      have i2 : (k : Int) < ps.length := by omega
      cases hq : q x with
      | true =>
        rw [hq] at hcall
        have Hq := Lib.hid hq
        clear hq
        go_wp2_with (go_at_fn g; refine hcall.mono ?_; rintro e w' ⟨rfl, hb'⟩)
        go_ret
        refine ⟨?_, hb'⟩
        rw [idxOf_hit hlt (by rw [Hx.out]; exact Hq.out) (fun j hj => HA.out j (by omega) hj)]
        rfl
      | false =>
        rw [hq] at hcall
        have Hq := Lib.hid hq
        clear hq
        go_wp2_with (go_at_fn g; refine hcall.mono ?_; rintro e w' ⟨rfl, hb'⟩)
        go_roundg (ps.length - (k + 1))
        case measure => omega
        case rel =>
          refine ⟨k + 1, by omega, by omega, by go_num, ⟨hb'⟩, ⟨fun j hj hjk => ?_⟩⟩
          by_cases e : j = k
          · subst e; rw [Hx.out]; exact Hq.out
          · exact HA.out j hj (by omega)
    · go_wp2
      go_ret
      refine ⟨?_, BW.out⟩
      rw [idxOf_miss (fun j hj => HA.out j hj (by omega))]
      rfl
theorem containsFuncP (A : Option Addr) (n c : Nat) (ps : List Pr) (g : Nat) (lb : Array Value) (q : Pr → Bool) (w : World)
    (hn : n = ps.length) (hl : ps.length ≤ 9223372036854775807) (h : RdP w w.heap.size A ps)
    (eg : ∀ args w, (callFunc g args).run Try.prog w = .ok (.enter g args) w) (hp : PredP g lb q ps w) :
    Calls Try.prog 49 #[.slice A n c, .func (.func g) #[] lb] w fun e w' => e = .returned (.bool (ps.any q)) ∧ Below w.heap.size w w' := by
  rw [← idxOf_ge]
  subst hn
  go_enter Try.func49, Try.ntmps49
  go_wp2_with (go_at_call 63; refine (indexFuncP A _ c ps g lb q _ rfl hl h eg hp).mono ?_; rintro e w' ⟨rfl, hb'⟩)
  go_ret
  exact ⟨by simp, hb'⟩
theorem indexB (A : Option Addr) (n c : Nat) (xs : List Bool) (b : Bool) (w : World)
    (hn : n = xs.length) (hl : xs.length ≤ 9223372036854775807) (h : Rd eB 1 w w.heap.size A xs) :
    Calls Try.prog 73 #[.slice A n c, .bool b] w fun e w' => e = .returned (.int .i64 (idxOf (fun x => b == x) xs)) ∧ w = w' := by
  subst hn
  go_enter Try.func73, Try.ntmps73
  go_wp2
  go_loopg [5, 8] xs.length (fun gg _ s8 wr => ∃ k : Nat, k ≤ xs.length ∧ xs.length - k ≤ gg ∧ s8 = .int .i64 k ∧ Keep (wr = w) ∧ Keep (∀ j (hj : j < xs.length), j < k → (b == xs[j]) = false))
  case atStart => exact ⟨0, Nat.zero_le _, by omega, rfl, ⟨rfl⟩, ⟨fun j _ hj => absurd hj (Nat.not_lt_zero _)⟩⟩
  case round =>
    obtain ⟨k, hk, hg, rfl, ⟨rfl⟩, HA⟩ := hrel
    by_cases hlt : k < xs.length
    · obtain ⟨ad, rfl, hb, hc⟩ := h.bool k hlt
      clear h
      generalize hx : xs[k] = x at *
      have Hx := Lib.hid hx
      clear hx
      have i1 : (0:Int) ≤ k := by omega
      have i2 : (k : Int) < xs.length := by omega
      cases hq : (b == x) with
      | true =>
        go_wp2
        go_ret
        refine ⟨?_, rfl⟩
        rw [idxOf_hit hlt (by rw [Hx.out]; exact hq) (fun j hj => HA.out j (by omega) hj)]
        rfl
      | false =>
        go_wp2
        go_roundg (xs.length - (k + 1))
        case measure => omega
        case rel =>
          refine ⟨k + 1, by omega, by omega, by go_num, ⟨rfl⟩, ⟨fun j hj hjk => ?_⟩⟩
          by_cases e : j = k
          · subst e; rw [Hx.out]; exact hq
          · exact HA.out j hj (by omega)
    · go_wp2
      go_ret
      refine ⟨?_, rfl⟩
      rw [idxOf_miss (fun j hj => HA.out j hj (by omega))]
      rfl
theorem containsB (A : Option Addr) (n c : Nat) (xs : List Bool) (b : Bool) (w : World)
    (hn : n = xs.length) (hl : xs.length ≤ 9223372036854775807) (h : Rd eB 1 w w.heap.size A xs) :
    Calls Try.prog 66 #[.slice A n c, .bool b] w fun e w' => e = .returned (.bool (xs.any (fun x => b == x))) ∧ w = w' := by
  rw [← idxOf_ge]
  subst hn
  go_enter Try.func66, Try.ntmps66
  go_wp2_with (go_at_call 73; refine (indexB A _ c xs b _ rfl hl h).mono ?_; rintro e w' ⟨rfl, rfl⟩)
  go_ret
  exact ⟨rfl, rfl⟩
end Go.Proofs.Ytadabkkkalgehaa.H
namespace Go.Proofs.Ytadabkkkalgehaa.H
open Go.RowKit
set_option linter.unusedVariables false
set_option linter.unusedSimpArgs false
def grV (g : Gr) (A : Option Addr) (c : Nat) : Value := .agg #[.int .i64 g.T, .int .i64 g.S, .int .i64 g.st, .slice A g.ps.length c]
def prCells (p : Pr) (A : Option Addr) (c : Nat) : Array Value := #[.int .i64 p.head, .slice A p.body.length c, .bool p.right]
def sameP (p q : Pr) : Bool := decide (q.head = p.head) && decide (q.body = p.body)
theorem numbers1 (p q : Pr) (Aq Ap : Option Addr) (cq cp : Nat) (gb : Nat) (w : World) (hl : q.body.length ≤ 9223372036854775807)
    (hb : Blk w gb 55 (prCells p Ap cp)) (hq : Rd eI 1 w w.heap.size Aq q.body) (hp : Rd eI 1 w w.heap.size Ap p.body) :
    Calls Try.prog 61 #[prV q Aq cq, .pointer (some ⟨gb, 0, none⟩)] w fun e w' => e = .returned (.bool (sameP p q)) ∧ Below w.heap.size w w' := by
  unfold prV
  have c0 := hb.cell 0
  have c1 := hb.cell 1
  simp [prCells] at c0 c1
  have hlt := hb.lt
  by_cases hh : q.head = p.head
  · have t : ((q.head : Int) == p.head) = true := by simp [hh]
    have Hh := Lib.hid hh
    clear hh
    go_enter Try.func61, Try.ntmps61
    go_wp2_with (go_at_call 62; refine (slicesEqual Aq Ap _ _ cq cp q.body p.body _ rfl rfl hl ?_ ?_).mono ?_; rotate_left 2; rintro e w' ⟨rfl, n, rfl⟩)
    · go_ret
      refine ⟨by simp [sameP, Hh.out], ?_⟩
      exact below_drewN ((Below.refl _ _).alloc (Nat.le_refl _) _) n
    · exact (hq.below ((Below.refl _ _).alloc (Nat.le_refl _) _)).mono (by simp)
    · exact (hp.below ((Below.refl _ _).alloc (Nat.le_refl _) _)).mono (by simp)
  · have t : ((q.head : Int) == p.head) = false := by simp [hh]
    have Hh := Lib.hid hh
    clear hh
    go_enter Try.func61, Try.ntmps61
    go_wp2
    go_ret
    refine ⟨?_, (Below.refl _ _).alloc (Nat.le_refl _) _⟩
    have := Hh.out
    simp [sameP, this]
theorem check1 (q : Pr) (A : Option Addr) (c : Nat) (w : World) (hl : q.body.length ≤ 9223372036854775807) :
    Calls Try.prog 50 #[prV q A c] w fun e w' => e = .returned (.bool (decide (8 < q.body.length))) ∧ Below w.heap.size w w' := by
  unfold prV
  go_enter Try.func50, Try.ntmps50
  go_wp2
  go_ret
  exact ⟨by simp; omega, (Below.refl _ _).alloc (Nat.le_refl _) _⟩
theorem check2 (q : Pr) (A : Option Addr) (c : Nat) (w : World) (hl : q.body.length ≤ 9223372036854775807) :
    Calls Try.prog 51 #[prV q A c] w fun e w' => e = .returned (.bool (decide (q.body.length = 0))) ∧ Below w.heap.size w w' := by
  unfold prV
  go_enter Try.func51, Try.ntmps51
  go_wp2
  go_ret
  exact ⟨by simp; rw [Bool.eq_iff_iff]; simp, (Below.refl _ _).alloc (Nat.le_refl _) _⟩
def symB (S s : Int) : Bool := decide (0 ≤ s) && decide (s < S)
def prodB (T S : Int) (pre : List Pr) (p : Pr) : Bool := decide (T ≤ p.head) && decide (p.head < S) && p.body.all (symB S) && !(pre.any (sameP p))
def headB (g : Gr) : Bool := decide (1 ≤ g.T ∧ g.T ≤ 32 ∧ g.T < g.S ∧ g.S ≤ 64 ∧ g.T ≤ g.st ∧ g.st < g.S ∧ 0 < g.ps.length ∧ g.ps.length ≤ 64)
def okAt (g : Gr) (i : Nat) : Bool := match g.ps[i]? with | some p => prodB g.T g.S (g.ps.take i) p | none => true
def numbersB (g : Gr) : Bool := headB g && (List.range g.ps.length).all (okAt g)
theorem numbersB_head {g : Gr} (h : headB g = false) : numbersB g = false := by simp [numbersB, h]
theorem numbersB_at {g : Gr} {i : Nat} (hi : i < g.ps.length) (h : okAt g i = false) : numbersB g = false := by
  unfold numbersB
  rw [Bool.and_eq_false_iff]
  right
  rw [List.all_eq_false]
  exact ⟨i, List.mem_range.2 hi, by simp [h]⟩
theorem numbersB_all {g : Gr} (hh : headB g = true) (h : ∀ i, i < g.ps.length → okAt g i = true) : numbersB g = true := by
  unfold numbersB
  rw [hh, Bool.true_and, List.all_eq_true]
  exact fun i hi => h i (List.mem_range.1 hi)
theorem numbers_no (g : Gr) (A : Option Addr) (c : Nat) (w : World) (hl : g.ps.length ≤ 9223372036854775807) (hh : headB g = false) :
    Calls Try.prog 48 #[grV g A c] w fun e w' => e = .returned (.bool (numbersB g)) ∧ Below w.heap.size w w' := by
  rw [numbersB_head hh]
  obtain ⟨T, S, st, ps⟩ := g
  simp only [headB, decide_eq_false_iff_not] at hh
  unfold grV
  dsimp only at *
  go_enter Try.func48, Try.ntmps48
  go_wp2
  all_goals first
    | (go_ret; exact ⟨rfl, (Below.refl _ _).alloc (Nat.le_refl _) _⟩)
    | (exfalso; have : ps.length ≠ 0 := by simpa using ‹¬ ps = []›
       omega)
end Go.Proofs.Ytadabkkkalgehaa.H
namespace Go.Proofs.Ytadabkkkalgehaa.H
open Go.RowKit
set_option linter.unusedVariables false
set_option linter.unusedSimpArgs false
set_option maxRecDepth 100000 in
set_option maxHeartbeats 4000000 in
theorem numbers_yes (g : Gr) (A : Option Addr) (c : Nat) (w : World) (hl : g.ps.length ≤ c) (hbl : ∀ p ∈ g.ps, p.body.length ≤ 9223372036854775807) (hr : RdP w w.heap.size A g.ps) (hh : headB g = true) :
    Calls Try.prog 48 #[grV g A c] w fun e w' => e = .returned (.bool (numbersB g)) ∧ Below w.heap.size w w' := by
  have Hh := Lib.hid hh
  generalize hg : g = G0 at Hh ⊢
  have Hg := Lib.hid hg
  have HP : Keep (∀ i, okAt G0 i = match g.ps[i]? with | some p => prodB g.T g.S (g.ps.take i) p | none => true) := ⟨fun i => by rw [← hg]; rfl⟩
  have HL : Keep (G0.ps.length = g.ps.length) := ⟨by rw [hg]⟩
  rw [show grV G0 A c = grV g A c from by rw [hg]]
  clear hg
  obtain ⟨T, S, st, ps⟩ := g
  simp only [headB, decide_eq_true_eq] at hh
  obtain ⟨h1, h2, h3, h4, h5, h6, h7, h8⟩ := hh
  have h9 : ((ps.length : Int) == 0) = false := by simp; intro e; simp [e] at h7
  unfold grV
  dsimp only at *
  have R0 : Keep (RdP w w.heap.size A ps) := ⟨hr⟩
  have B0 : Keep (∀ p ∈ ps, p.body.length ≤ 9223372036854775807) := ⟨hbl⟩
  clear hr hbl
  go_enter Try.func48, Try.ntmps48
  go_wp2
  go_loopg [56] ps.length (fun gg s56 wr => ∃ k : Nat, k ≤ ps.length ∧ ps.length - k ≤ gg ∧ s56 = .int .i64 k ∧ Keep (Below w.heap.size w wr) ∧ Keep (Blk wr w.heap.size 24 #[.int .i64 T, .int .i64 S, .int .i64 st, .slice A ps.length c]) ∧ Keep (∀ j, j < k → okAt G0 j = true))
  case atStart =>
    refine ⟨0, Nat.zero_le _, by omega, rfl, ⟨(Below.refl _ _).alloc (Nat.le_refl _) _⟩, ⟨?_⟩, ⟨fun j hj => absurd hj (Nat.not_lt_zero _)⟩⟩
    exact Blk.new _ _ _
  case round =>
    obtain ⟨k, hk, hg, rfl, BW, BK, HA⟩ := hrel
    obtain ⟨wo, rfl⟩ : ∃ wo : World, wo = wr := ⟨_, rfl⟩
    by_cases hlt : k < ps.length
    · obtain ⟨ad, Ab, cb, rfl, hb, c0, c1, c2, hlb, hrb⟩ := R0.out k hlt
      replace c0 := cell_below c0 BW.out (by rw [add_block]; exact hb)
      replace c1 := cell_below c1 BW.out (by show (ad.add _).block < _; rw [add_block]; exact hb)
      replace c2 := cell_below c2 BW.out (by show (ad.add _).block < _; rw [add_block]; exact hb)
      have hbl := B0.out _ (List.getElem_mem hlt)
      have HO : Keep (okAt G0 k = prodB T S (ps.take k) ps[k]) := ⟨by rw [HP.out, List.getElem?_eq_getElem hlt]⟩
      generalize hx : ps[k] = p at *
      clear hx
      obtain ⟨hd, bd, rt⟩ := p
      dsimp only at *
      have i1 : (0:Int) ≤ k := by omega
      have i2 : (k : Int) < ps.length := by omega
      have g0 := BK.out.cell 0
      have g1 := BK.out.cell 1
      have g2 := BK.out.cell 2
      have g3 := BK.out.cell 3
      simp at g0 g1 g2 g3
      have hsz := BK.out.lt
      by_cases hhd : T ≤ hd ∧ hd < S
      · obtain ⟨hd1, hd2⟩ := hhd
        go_wp2
        go_loopg [76] bd.length (fun gg s76 w2 => ∃ m : Nat, m ≤ bd.length ∧ bd.length - m ≤ gg ∧ s76 = .int .i64 m ∧ Keep (Below wo.heap.size wo w2) ∧
          Keep (Blk w2 wo.heap.size 55 #[.int .i64 hd, .slice Ab bd.length cb, .bool rt]) ∧ Keep (∀ j (hj : j < bd.length), j < m → symB S bd[j] = true))
        case atStart =>
          exact ⟨0, Nat.zero_le _, by omega, rfl, ⟨(Below.refl _ _).alloc (Nat.le_refl _) _⟩, ⟨Blk.new _ _ _⟩, ⟨fun j _ hj => absurd hj (Nat.not_lt_zero _)⟩⟩
        case round =>
          obtain ⟨m, hm, hgm, rfl, BW2, BP, HS⟩ := hrel
          have BK2 := BK.out.below BW2.out BK.out.lt
          have BW3 : Keep (Below w.heap.size w _) := ⟨below_step BW.out BW2.out BW.out.size⟩
          by_cases hltm : m < bd.length
          · obtain ⟨a2, e2, hb2, hc2⟩ := hrb.int m hltm
            subst e2
            replace hc2 := cell_below hc2 BW3.out (by rw [add_block]; exact hb2)
            generalize hy : bd[m] = y at *
            have Hy := Lib.hid hy
            clear hy
            have j1 : (0:Int) ≤ m := by omega
            have j2 : (m : Int) < bd.length := by omega
            have q1 := BK2.cell 1
            simp at q1
            clear c0 c1 c2 g0 g1 g2 g3
            by_cases hsy : 0 ≤ y ∧ y < S
            · obtain ⟨y1, y2⟩ := hsy
              go_wp2
              go_roundg (bd.length - (m + 1))
              case measure => omega
              case rel =>
                refine ⟨m + 1, by omega, by omega, by go_num, BW2, BP, ⟨fun j hj hjm => ?_⟩⟩
                by_cases e : j = m
                · subst e; rw [Hy.out]; simp [symB, y1, y2]
                · exact HS.out j hj (by omega)
            · go_wp2
              all_goals
                go_ret
                refine ⟨?_, BW3.out⟩
                have hs : symB S y = false := by
                  simp only [symB]
                  rw [← Bool.decide_and]; simp only [decide_eq_false_iff_not]; exact hsy
                have hall : bd.all (symB S) = false := List.all_eq_false.2 ⟨y, by rw [← Hy.out]; exact List.getElem_mem _, by rw [hs]; simp⟩
                have : okAt G0 k = false := by
                  rw [HO.out]
                  simp only [prodB]
                  rw [hall]
                  simp
                rw [numbersB_at (by have := HL.out; omega) this]
                rfl
          · have hall : Keep (bd.all (symB S) = true) := ⟨List.all_eq_true.2 (fun y hy => by
              obtain ⟨j, hj, rfl⟩ := List.getElem_of_mem hy
              exact HS.out j hj (by omega))⟩
            have hany : Keep (okAt G0 k = !((ps.take k).any (sameP ⟨hd, bd, rt⟩))) := ⟨by
              rw [HO.out]
              simp only [prodB, hall.out]
              simp [hd1, hd2]⟩
            have hcall := containsFuncP (some ad) k c (ps.take k) 61 #[.pointer (some ⟨wo.heap.size, 0, none⟩)] (sameP ⟨hd, bd, rt⟩) wr (by rw [List.length_take]; omega) (by rw [List.length_take]; omega)
              (((R0.out.take k).below BW3.out).mono BW3.out.size) (enters_of Try.func61 rfl rfl)
              (fun p' hp' A' c' hr' W hW => (numbers1 ⟨hd, bd, rt⟩ p' A' Ab c' cb wo.heap.size W (B0.out p' (List.mem_of_mem_take hp')) (BP.out.below hW BP.out.lt)
                ((hr'.below hW).mono hW.size) (((hrb.below BW3.out).below (hW.mono BW3.out.size)).mono (Nat.le_trans BW3.out.size hW.size))).mono fun _ _ ⟨he, hb⟩ => ⟨he, below_step hW hb hW.size⟩)
            clear c0 c1 c2 g0 g1 g2 g3
            have q0 := BK2.cell 0
            have q1 := BK2.cell 1
            have q3 := BK2.cell 3
            simp at q0 q1 q3
            have hkc : k ≤ c := by omega
            cases hq : (ps.take k).any (sameP ⟨hd, bd, rt⟩) with
            | true =>
              rw [hq] at hcall
              have HO2 : Keep (okAt G0 k = false) := ⟨by rw [hany.out, hq]; rfl⟩
              clear hq
              go_wp2_with (go_at_call 49; refine hcall.mono ?_; rintro e w' ⟨rfl, hb'⟩)
              go_ret
              refine ⟨?_, below_step BW3.out hb' BW3.out.size⟩
              rw [numbersB_at (by have := HL.out; omega) HO2.out]
              rfl
            | false =>
              rw [hq] at hcall
              have HO2 : Keep (okAt G0 k = true) := ⟨by rw [hany.out, hq]; rfl⟩
              clear hq
              go_wp2_with (go_at_call 49; refine hcall.mono ?_; rintro e w' ⟨rfl, hb'⟩)
              go_roundg (ps.length - (k + 1))
              case measure => omega
              case rel =>
                refine ⟨k + 1, by omega, by omega, by go_num, ⟨below_step BW3.out hb' BW3.out.size⟩, ⟨BK2.below hb' BK2.lt⟩, ⟨fun j hj => ?_⟩⟩
                by_cases e : j = k
                · subst e; exact HO2.out
                · exact HA.out j (by omega)
      · go_wp2
        all_goals
          go_ret
          refine ⟨?_, below_step BW.out ((Below.refl _ _).alloc (Nat.le_refl _) _) BW.out.size⟩
          have : okAt G0 k = false := by
            rw [HO.out]
            simp only [prodB]
            rw [show (decide (T ≤ hd) && decide (hd < S)) = false from by rw [← Bool.decide_and]; simp only [decide_eq_false_iff_not]; exact hhd]
            rfl
          rw [numbersB_at (by have := HL.out; omega) this]
          rfl
    · go_wp2
      go_ret
      refine ⟨?_, BW.out⟩
      rw [numbersB_all Hh.out (fun i hi => HA.out i (by have := HL.out; omega))]
      rfl
end Go.Proofs.Ytadabkkkalgehaa.H
namespace Go.Proofs.Ytadabkkkalgehaa.H
open Go.RowKit
set_option linter.unusedVariables false
set_option linter.unusedSimpArgs false
def gb (xs : List Bool) (i : Int) : Bool := xs.getD i.toNat false
structure Us where
  come : List Bool
  good : List Bool
  more : Bool
def comeIn (h : Int) (u : Us) (s : Int) : Us := if gb u.come h && !(gb u.come s) then { u with come := u.come.set s.toNat true, more := true } else u
def goodIn (p : Pr) (u : Us) : Us := if !(gb u.good p.head) && !(p.body.any fun s => !(gb u.good s)) then { u with good := u.good.set p.head.toNat true, more := true } else u
def usedStep (u : Us) (p : Pr) : Us := p.body.foldl (comeIn p.head) (goodIn p u)
def usedRound (ps : List Pr) (u : Us) : Us := ps.foldl usedStep { u with more := false }
def usedLoop (ps : List Pr) : Nat → Us → Us
  | 0, u => u
  | k + 1, u => if u.more then usedLoop ps k (usedRound ps u) else u
def falses (u : Us) : Nat := u.come.count false + u.good.count false
def used0 (g : Gr) : Us := ⟨(List.replicate g.S.toNat false).set g.st.toNat true, List.replicate g.T.toNat true ++ List.replicate (g.S.toNat - g.T.toNat) false, true⟩
def usedEnd (g : Gr) : Us := usedLoop g.ps (2 * g.S.toNat + 1) (used0 g)
def usedB (g : Gr) : Bool := !((usedEnd g).come.drop g.T.toNat).any (fun x => false == x) && !(usedEnd g).good.any (fun x => false == x)
theorem count_set_lt (l : List Bool) : ∀ i, l.getD i true = false → (l.set i true).count false + 1 = l.count false := by
  induction l with
  | nil => intro i h; simp at h
  | cons b l ih =>
    intro i h
    cases i with
    | zero => simp at h; subst h; simp
    | succ i =>
      have := ih i (by simpa using h)
      simp only [List.set_cons_succ, List.count_cons]
      omega
theorem gb_false_in {l : List Bool} {s : Int} (h : s.toNat < l.length) (hf : gb l s = false) : l.getD s.toNat true = false := by
  unfold gb at hf
  rw [List.getD_eq_getElem?_getD, List.getElem?_eq_getElem h] at hf ⊢
  exact hf
structure UsLe (n : Nat) (u v : Us) : Prop where
  c : v.come.length = n
  g : v.good.length = n
  le : falses v ≤ falses u
  new : v.more = true → u.more = true ∨ falses v < falses u
theorem UsLe.trans {n : Nat} {a b c : Us} (h : UsLe n a b) (k : UsLe n b c) : UsLe n a c := by
  refine ⟨k.c, k.g, Nat.le_trans k.le h.le, fun hm => ?_⟩
  rcases k.new hm with h1 | h1
  · rcases h.new h1 with h2 | h2
    · exact .inl h2
    · exact .inr (Nat.lt_of_le_of_lt k.le h2)
  · exact .inr (Nat.lt_of_lt_of_le h1 h.le)
theorem comeIn_le {n : Nat} {h s : Int} {u : Us} (hc : u.come.length = n) (hg : u.good.length = n) (hs : s.toNat < n) : UsLe n u (comeIn h u s) := by
  unfold comeIn
  split
  · rename_i ht
    simp only [Bool.and_eq_true, Bool.not_eq_true'] at ht
    have := count_set_lt u.come s.toNat (gb_false_in (by omega) ht.2)
    exact ⟨by simp [hc], hg, by simp only [falses]; omega, fun _ => .inr (by simp only [falses]; omega)⟩
  · exact ⟨hc, hg, Nat.le_refl _, fun h => .inl h⟩
theorem goodIn_le {n : Nat} {p : Pr} {u : Us} (hc : u.come.length = n) (hg : u.good.length = n) (hs : p.head.toNat < n) : UsLe n u (goodIn p u) := by
  unfold goodIn
  split
  · rename_i ht
    simp only [Bool.and_eq_true, Bool.not_eq_true'] at ht
    have := count_set_lt u.good p.head.toNat (gb_false_in (by omega) ht.1)
    exact ⟨hc, by simp [hg], by simp only [falses]; omega, fun _ => .inr (by simp only [falses]; omega)⟩
  · exact ⟨hc, hg, Nat.le_refl _, fun h => .inl h⟩
theorem comeAll_le {n : Nat} {h : Int} (l : List Int) : ∀ {u : Us}, u.come.length = n → u.good.length = n → (∀ s ∈ l, s.toNat < n) → UsLe n u (l.foldl (comeIn h) u) := by
  induction l with
  | nil => intro u hc hg _; exact ⟨hc, hg, Nat.le_refl _, fun h => .inl h⟩
  | cons s l ih =>
    intro u hc hg hs
    have h1 := comeIn_le (h := h) hc hg (hs s (by simp))
    exact h1.trans (ih h1.c h1.g (fun s hs' => hs s (by simp [hs'])))
def PrIn (n : Nat) (p : Pr) : Prop := 0 ≤ p.head ∧ p.head.toNat < n ∧ ∀ s ∈ p.body, 0 ≤ s ∧ s.toNat < n
theorem usedStep_le {n : Nat} {p : Pr} {u : Us} (hc : u.come.length = n) (hg : u.good.length = n) (hp : PrIn n p) : UsLe n u (usedStep u p) := by
  have h1 := goodIn_le hc hg hp.2.1
  exact h1.trans (comeAll_le p.body h1.c h1.g (fun s hs => (hp.2.2 s hs).2))
theorem usedAll_le {n : Nat} (l : List Pr) : ∀ {u : Us}, u.come.length = n → u.good.length = n → (∀ p ∈ l, PrIn n p) → UsLe n u (l.foldl usedStep u) := by
  induction l with
  | nil => intro u hc hg _; exact ⟨hc, hg, Nat.le_refl _, fun h => .inl h⟩
  | cons p l ih =>
    intro u hc hg hs
    have h1 := usedStep_le hc hg (hs p (by simp))
    exact h1.trans (ih h1.c h1.g (fun s hs' => hs s (by simp [hs'])))
theorem usedRound_le {n : Nat} {ps : List Pr} {u : Us} (hc : u.come.length = n) (hg : u.good.length = n) (hp : ∀ p ∈ ps, PrIn n p) :
    (usedRound ps u).come.length = n ∧ (usedRound ps u).good.length = n ∧ ((usedRound ps u).more = true → falses (usedRound ps u) < falses u) := by
  have h := usedAll_le (n := n) ps (u := { u with more := false }) hc hg hp
  refine ⟨h.c, h.g, fun hm => ?_⟩
  rcases h.new hm with h1 | h1
  · cases h1
  · exact h1
structure UW (w wr : World) (gv : Array Value) (gC gX gG n : Nat) (come good : List Bool) : Prop where
  bw : Below w.heap.size w wr
  bg : Blk wr w.heap.size 24 gv
  bc : Blk wr gC 4 (bools come)
  bx : Blk wr gX 76 #[.slice (some ⟨gG, 0, none⟩) n n]
  bd : Blk wr gG 4 (bools good)
  ne : gC ≠ gG
  nx : gX ≠ gC ∧ gX ≠ gG
  gc : w.heap.size < gC
  gx : w.heap.size < gX
  gg : w.heap.size < gG
  lc : come.length = n
  lg : good.length = n
theorem UW.start {w wr : World} {gv : Array Value} {gC gX gG n : Nat} (bx : Blk wr gX 76 #[.slice (some ⟨gG, 0, none⟩) n n])
    (bc : Blk wr gC 4 (bools (List.replicate n false))) (bd : Blk wr gG 4 (bools (List.replicate n false))) (bg : Blk wr w.heap.size 24 gv) (bw : Below w.heap.size w wr)
    (ne : gC ≠ gG ∧ (gX ≠ gC ∧ gX ≠ gG) ∧ w.heap.size < gC ∧ w.heap.size < gX ∧ w.heap.size < gG) : UW w wr gv gC gX gG n (List.replicate n false) (List.replicate n false) :=
  ⟨bw, bg, bc, bx, bd, ne.1, ne.2.1, ne.2.2.1, ne.2.2.2.1, ne.2.2.2.2, by simp, by simp⟩
section
variable {w wr w' : World} {gv : Array Value} {gC gX gG n : Nat} {come good : List Bool}
theorem UW.below (h : UW w wr gv gC gX gG n come good) (hb : Below wr.heap.size wr w') : UW w w' gv gC gX gG n come good :=
  ⟨below_step h.bw hb h.bw.size, h.bg.below hb h.bg.lt, h.bc.below hb h.bc.lt, h.bx.below hb h.bx.lt, h.bd.below hb h.bd.lt, h.ne, h.nx, h.gc, h.gx, h.gg, h.lc, h.lg⟩
theorem UW.alloc (h : UW w wr gv gC gX gG n come good) (o : Obj) : UW w (wr.alloc o) gv gC gX gG n come good := h.below ((Below.refl _ _).alloc (Nat.le_refl _) o)
theorem UW.setC (h : UW w wr gv gC gX gG n come good) (i : Nat) (b : Bool) : UW w (wr.setCell ⟨gC, i, none⟩ (.bool b)) gv gC gX gG n (come.set i b) good := by
  refine ⟨h.bw.setCell (by show w.heap.size ≤ gC; have := h.gc; omega) _, h.bg.far (by show _ ≠ gC; have := h.gc; omega) _, ?_, h.bx.far h.nx.1 _, h.bd.far (fun e => h.ne e.symm) _, h.ne, h.nx, h.gc, h.gx, h.gg, by simp [h.lc], h.lg⟩
  have := h.bc.set_ i (.bool b)
  rwa [bools_set] at this
theorem UW.setG (h : UW w wr gv gC gX gG n come good) (i : Nat) (b : Bool) : UW w (wr.setCell ⟨gG, i, none⟩ (.bool b)) gv gC gX gG n come (good.set i b) := by
  refine ⟨h.bw.setCell (by show w.heap.size ≤ gG; have := h.gg; omega) _, h.bg.far (by show _ ≠ gG; have := h.gg; omega) _, h.bc.far h.ne _, h.bx.far h.nx.2 _, ?_, h.ne, h.nx, h.gc, h.gx, h.gg, h.lc, by simp [h.lg]⟩
  have := h.bd.set_ i (.bool b)
  rwa [bools_set] at this
end
theorem fill_set (k n : Nat) (h : k < n) : (List.replicate k true ++ List.replicate (n - k) false).set k true = List.replicate (k + 1) true ++ List.replicate (n - (k + 1)) false := by
  rw [List.set_append_right _ _ (by simp), List.length_replicate, Nat.sub_self, show n - k = (n - (k + 1)) + 1 from by omega, List.replicate_succ, List.set_cons_zero, List.replicate_succ']
  simp
theorem usedLoop_done (ps : List Pr) (k : Nat) (u : Us) (h : u.more = false) : usedLoop ps k u = u := by
  cases k with
  | zero => rfl
  | succ k => simp [usedLoop, h]
theorem usedLoop_go (ps : List Pr) (k : Nat) (u : Us) (h : u.more = true) : usedLoop ps (k + 1) u = usedLoop ps k (usedRound ps u) := by simp [usedLoop, h]
theorem bools_gb (xs : List Bool) (i : Nat) (h : i < xs.length) : (bools xs)[i]? = some (.bool (gb xs (i : Int))) := by rw [bools_at xs i h]; simp [gb, h]
theorem used1 (gX gG n : Nat) (xs : List Bool) (s : Int) (w : World)
    (hx : Blk w gX 76 #[.slice (some ⟨gG, 0, none⟩) n n]) (hd : Blk w gG 4 (bools xs)) (hn : xs.length = n) (h0 : 0 ≤ s) (h1 : s.toNat < n) :
    Calls Try.prog 65 #[.int .i64 s, .pointer (some ⟨gX, 0, none⟩)] w fun e w' => e = .returned (.bool (!(gb xs s))) ∧ w' = w := by
  obtain ⟨k, rfl⟩ := Int.eq_ofNat_of_zero_le h0
  have hk : k < xs.length := by omega
  have c0 := hx.cell 0
  simp at c0
  have c1 := hd.cell k
  rw [bools_at xs k hk] at c1
  have e : gb xs (k : Int) = xs[k] := by simp [gb, hk]
  rw [e]
  generalize xs[k] = b at *
  have i2 : (k : Int) < n := by omega
  clear e hn hd hx
  go_enter Try.func65, Try.ntmps65
  go_wp2
  go_ret
  exact ⟨rfl, rfl⟩
end Go.Proofs.Ytadabkkkalgehaa.H
namespace Go.Proofs.Ytadabkkkalgehaa.H
open Go.RowKit
set_option linter.unusedVariables false
set_option linter.unusedSimpArgs false
theorem info_bool : (Try.prog.info? 4).map (fun i => (i.zero, i.size, i.bytes)) = some (some (.bool false), 1, 1) := by kernel_rfl
structure GrOk (g : Gr) : Prop where
  t0 : 1 ≤ g.T
  t1 : g.T ≤ 32
  s0 : g.T < g.S
  s1 : g.S ≤ 64
  st0 : g.T ≤ g.st
  st1 : g.st < g.S
  n0 : 0 < g.ps.length
  n1 : g.ps.length ≤ 64
  pr : ∀ p ∈ g.ps, g.T ≤ p.head ∧ p.head < g.S ∧ ∀ s ∈ p.body, 0 ≤ s ∧ s < g.S
set_option maxRecDepth 100000 in
set_option maxHeartbeats 4000000 in
theorem used_any (g : Gr) (A : Option Addr) (c : Nat) (w : World) (hbl : ∀ p ∈ g.ps, p.body.length ≤ 9223372036854775807) (hr : RdP w w.heap.size A g.ps) (ok : GrOk g) :
    Calls Try.prog 52 #[grV g A c] w fun e w' => e = .returned (.bool (usedB g)) ∧ Below w.heap.size w w' := by
  obtain ⟨T, S, st, ps⟩ := g
  obtain ⟨t0, t1, s0, s1, st0, st1, n0, n1, pr⟩ := ok
  dsimp only at *
  obtain ⟨t, rfl⟩ := Int.eq_ofNat_of_zero_le (show 0 ≤ T by omega)
  obtain ⟨n, rfl⟩ := Int.eq_ofNat_of_zero_le (show 0 ≤ S by omega)
  obtain ⟨a, rfl⟩ := Int.eq_ofNat_of_zero_le (show 0 ≤ st by omega)
  have R0 : Keep (RdP w w.heap.size A ps) := ⟨hr⟩
  have B0 : Keep (∀ p ∈ ps, p.body.length ≤ 9223372036854775807) := ⟨hbl⟩
  have P0 : Keep (∀ p ∈ ps, PrIn n p) := ⟨fun p hp => ⟨by have := pr p hp; omega, by have := pr p hp; omega, fun s hs => by have := (pr p hp).2.2 s hs; omega⟩⟩
  clear hr hbl pr
  generalize hG : usedB ⟨t, n, a, ps⟩ = RES
  have HG : Keep (usedB ⟨t, n, a, ps⟩ = RES) := ⟨hG⟩
  clear hG
  unfold grV
  dsimp only
  have hmk := @run_make_row' Try.prog 76 4 (.bool false) 1 Try.underlying76 info_bool rfl .i64 .i64 n (by omega) (by omega)
  simp only [madeCells_bools] at hmk
  go_enter Try.func52, Try.ntmps52
  go_upto_region 1 with fail
  go_cut [3, 4] (fun s3 s4 wx => ∃ gC gX gG : Nat, s3 = .slice (some ⟨gC, 0, none⟩) n n ∧ s4 = .pointer (some ⟨gX, 0, none⟩) ∧
    Keep (UW w wx #[.int .i64 t, .int .i64 n, .int .i64 a, .slice A ps.length c] gC gX gG n (List.replicate n false) (List.replicate n false)))
  case first =>
    go_region
    all_goals (go_wp2_with fail; go_meet)
    all_goals first
      | (refine ⟨_, _, w.heap.size + 1, rfl, rfl, ⟨UW.start ?_ ?_ ?_ ?_ ?_ (by simp; try omega)⟩⟩
         · (repeat first | ((with_reducible refine Blk.newAt ?_); simp; done) | (with_reducible refine Blk.drew ?_) | (with_reducible refine Blk.alloc ?_ _)); done
         · (repeat first | ((with_reducible refine Blk.newAt ?_); simp; done) | (with_reducible refine Blk.drew ?_) | (with_reducible refine Blk.alloc ?_ _)); done
         · (repeat first | ((with_reducible refine Blk.newAt ?_); simp; done) | (with_reducible refine Blk.drew ?_) | (with_reducible refine Blk.alloc ?_ _)); done
         · (repeat first | ((with_reducible refine Blk.newAt ?_); simp; done) | (with_reducible refine Blk.drew ?_) | (with_reducible refine Blk.alloc ?_ _)); done
         · exact below_drew1 ((((Below.refl _ _).alloc (by simp) _).alloc (by simp; try omega) _).alloc (by simp; try omega) _ |>.alloc (by simp; try omega) _))
      | (refine ⟨_, _, w.heap.size + 1 + 1, rfl, rfl, ⟨UW.start ?_ ?_ ?_ ?_ ?_ (by simp; try omega)⟩⟩
         · (repeat first | ((with_reducible refine Blk.newAt ?_); simp; done) | (with_reducible refine Blk.drew ?_) | (with_reducible refine Blk.alloc ?_ _)); done
         · (repeat first | ((with_reducible refine Blk.newAt ?_); simp; done) | (with_reducible refine Blk.drew ?_) | (with_reducible refine Blk.alloc ?_ _)); done
         · (repeat first | ((with_reducible refine Blk.newAt ?_); simp; done) | (with_reducible refine Blk.drew ?_) | (with_reducible refine Blk.alloc ?_ _)); done
         · (repeat first | ((with_reducible refine Blk.newAt ?_); simp; done) | (with_reducible refine Blk.drew ?_) | (with_reducible refine Blk.alloc ?_ _)); done
         · exact below_drew1 ((((Below.refl _ _).alloc (by simp) _).alloc (by simp; try omega) _).alloc (by simp; try omega) _ |>.alloc (by simp; try omega) _))
      | (refine ⟨_, _, w.heap.size + 1 + 1 + 1, rfl, rfl, ⟨UW.start ?_ ?_ ?_ ?_ ?_ (by simp; try omega)⟩⟩
         · (repeat first | ((with_reducible refine Blk.newAt ?_); simp; done) | (with_reducible refine Blk.drew ?_) | (with_reducible refine Blk.alloc ?_ _)); done
         · (repeat first | ((with_reducible refine Blk.newAt ?_); simp; done) | (with_reducible refine Blk.drew ?_) | (with_reducible refine Blk.alloc ?_ _)); done
         · (repeat first | ((with_reducible refine Blk.newAt ?_); simp; done) | (with_reducible refine Blk.drew ?_) | (with_reducible refine Blk.alloc ?_ _)); done
         · (repeat first | ((with_reducible refine Blk.newAt ?_); simp; done) | (with_reducible refine Blk.drew ?_) | (with_reducible refine Blk.alloc ?_ _)); done
         · exact below_drew1 ((((Below.refl _ _).alloc (by simp) _).alloc (by simp; try omega) _).alloc (by simp; try omega) _ |>.alloc (by simp; try omega) _))
  case rest =>
    obtain ⟨gC, gX, gG, rfl, rfl, U⟩ := hcut
    have g2 := U.out.bg.cell 2
    have g0 := U.out.bg.cell 0
    simp at g0 g2
    have cc := U.out.bc.cell a
    rw [bools_at _ a (by simp; omega)] at cc
    have cf := U.out.bc.frozen a
    have i1 : (a : Int) < n := by omega
    go_wp2
    have U2 : Keep (UW w (wc.setCell ⟨gC, a, none⟩ (.bool true)) #[.int .i64 t, .int .i64 n, .int .i64 a, .slice A ps.length c] gC gX gG n ((List.replicate n false).set a true) (List.replicate 0 true ++ List.replicate (n - 0) false)) := ⟨U.out.setC a true⟩
    clear g0 g2 cc cf U
    go_loopg [23] t (fun gg s23 wr => ∃ k : Nat, k ≤ t ∧ t - k ≤ gg ∧ s23 = .int .i64 k ∧
      Keep (UW w wr #[.int .i64 t, .int .i64 n, .int .i64 a, .slice A ps.length c] gC gX gG n ((List.replicate n false).set a true) (List.replicate k true ++ List.replicate (n - k) false)))
    case atStart => exact ⟨0, Nat.zero_le _, by omega, rfl, U2⟩
    case round =>
      clear U2
      obtain ⟨k, hk, hg, rfl, U⟩ := hrel
      by_cases hlt : k < t
      · have cc := U.out.bd.cell k
        rw [bools_at _ k (by simp; omega)] at cc
        have cf := U.out.bd.frozen k
        have cx := U.out.bx.cell 0
        simp at cx
        have i2 : (k : Int) < n := by omega
        go_wp2
        go_roundg (t - (k + 1))
        case measure => omega
        case rel =>
          refine ⟨k + 1, by omega, by omega, by go_num, ⟨?_⟩⟩
          have := U.out.setG k true
          rwa [fill_set k n (by omega)] at this
      · have ek : k = t := by omega
        subst ek
        go_wp2
        have HS : Keep (usedLoop ps (2 * n + 1) ⟨(List.replicate n false).set a true, List.replicate k true ++ List.replicate (n - k) false, true⟩ = usedEnd ⟨k, n, a, ps⟩) := ⟨by simp [usedEnd, used0]⟩
        have HF0 : Keep (true = true → falses ⟨(List.replicate n false).set a true, List.replicate k true ++ List.replicate (n - k) false, true⟩ < 2 * n + 1) := ⟨fun _ => by
          have h1 := List.count_le_length (l := (List.replicate n false).set a true) (a := false)
          have h2 := List.count_le_length (l := List.replicate k true ++ List.replicate (n - k) false) (a := false)
          simp only [List.length_set, List.length_append, List.length_replicate] at h1 h2
          simp only [falses]; omega⟩
        clear i1 hg
        go_loopg [6] (2 * n + 1) (fun gg s6 wr => ∃ u : Us, s6 = .bool u.more ∧ Keep (u.more = true → falses u < gg) ∧
          Keep (UW w wr #[.int .i64 k, .int .i64 n, .int .i64 a, .slice A ps.length c] gC gX gG n u.come u.good) ∧ Keep (usedLoop ps gg u = usedEnd ⟨k, n, a, ps⟩))
        case atStart => exact ⟨_, rfl, HF0, U, HS⟩
        case round =>
          clear U HS HF0
          obtain ⟨⟨come, good, more⟩, rfl, HF, U, HL⟩ := hrel
          dsimp only at *
          cases more with
          | false =>
            replace HL := HL.out
            rw [usedLoop_done _ _ _ rfl] at HL
            have HE : Keep (RES = (!(come.drop k).any (fun x => false == x) && !good.any (fun x => false == x))) := ⟨by
              rw [← HG.out]; simp only [usedB, ← HL]; simp⟩
            clear HL
            have h0 := U.out.bg.cell 0
            have hx := U.out.bx.cell 0
            simp at h0 hx
            have k1 := containsB (some ⟨gC, k, none⟩) (n - k) (n - k) (come.drop k) false wr (by rw [List.length_drop, U.out.lc]) (by rw [List.length_drop, U.out.lc]; omega) (rd_bools_drop k U.out.bc U.out.bc.lt)
            have k2 := containsB (some ⟨gG, 0, none⟩) n n good false wr U.out.lg.symm (by rw [U.out.lg]; omega) (rd_bools U.out.bd U.out.bd.lt)
            cases hq : (come.drop k).any (fun x => false == x) with
            | true =>
              rw [hq] at k1 HE
              clear hq k2
              go_wp2_with (go_at_call 66; refine k1.mono ?_; rintro e w' ⟨rfl, rfl⟩)
              go_ret
              exact ⟨by rw [HE.out]; rfl, U.out.bw⟩
            | false =>
              rw [hq] at k1 HE
              clear hq
              generalize good.any (fun x => false == x) = gq at k2 HE
              go_wp2_with (first
                | (go_at_call_of 66 (Value.slice (some ⟨gC, k, none⟩) (n - k) (n - k)); refine k1.mono ?_; rintro e w' ⟨rfl, rfl⟩)
                | (go_at_call_of 66 (Value.slice (some ⟨gG, 0, none⟩) n n); refine k2.mono ?_; rintro e w' ⟨rfl, rfl⟩))
              go_ret
              exact ⟨by rw [HE.out]; rfl, U.out.bw⟩
          | true =>
            obtain ⟨fu, rfl⟩ : ∃ m, gk = m + 1 := ⟨gk - 1, by have := HF.out rfl; omega⟩
            replace HL := HL.out
            rw [usedLoop_go _ _ _ rfl] at HL
            have HL2 := Keep.mk HL
            have HR := Keep.mk (usedRound_le (n := n) (u := ⟨come, good, true⟩) U.out.lc U.out.lg P0.out)
            clear HL
            have h3 := U.out.bg.cell 3
            simp at h3
            obtain ⟨wo, rfl⟩ : ∃ wo : World, wo = wr := ⟨_, rfl⟩
            go_wp2
            go_loopg [6, 34] ps.length (fun gg s6 s34 wr => ∃ (m : Nat) (u : Us), m ≤ ps.length ∧ ps.length - m ≤ gg ∧ s6 = .bool u.more ∧ s34 = .int .i64 m ∧
              Keep (u = (ps.take m).foldl usedStep ⟨come, good, false⟩) ∧ Keep (UW w wr #[.int .i64 k, .int .i64 n, .int .i64 a, .slice A ps.length c] gC gX gG n u.come u.good))
            case atStart => exact ⟨0, ⟨come, good, false⟩, Nat.zero_le _, by omega, rfl, rfl, ⟨by simp⟩, U⟩
            case round =>
              clear U h3
              obtain ⟨m, u, hm, hgm, rfl, rfl, HU, U⟩ := hrel
              by_cases hltm : m < ps.length
              · obtain ⟨ad, Ab, cb, rfl, hb, c0, c1, c2, hlb, hrb⟩ := R0.out m hltm
                replace c0 := cell_below c0 U.out.bw (by rw [add_block]; exact hb)
                replace c1 := cell_below c1 U.out.bw (by show (ad.add _).block < _; rw [add_block]; exact hb)
                replace c2 := cell_below c2 U.out.bw (by show (ad.add _).block < _; rw [add_block]; exact hb)
                have hbl := B0.out _ (List.getElem_mem hltm)
                have hpi := Keep.mk (P0.out _ (List.getElem_mem hltm))
                have HU2 : Keep ((ps.take (m + 1)).foldl usedStep ⟨come, good, false⟩ = usedStep u ps[m]) := ⟨by rw [List.take_succ_eq_append_getElem hltm, List.foldl_append, ← HU.out]; rfl⟩
                clear HU
                generalize hx : ps[m] = p at *
                clear hx
                obtain ⟨hd, bd, rt⟩ := p
                dsimp only at *
                obtain ⟨d, rfl⟩ := Int.eq_ofNat_of_zero_le hpi.out.1
                have hdn : (d : Int) < n := by have := hpi.out.2.1; simp at this; omega
                have i1 : (0:Int) ≤ m := by omega
                have i2 : (m : Int) < ps.length := by omega
                obtain ⟨wo, rfl⟩ : ∃ wo : World, wo = wr := ⟨_, rfl⟩
                go_upto_region 14 with fail
                have UP : Keep (UW w (wo.alloc (.cells #[.int .i64 d, .slice Ab bd.length cb, .bool rt] 55)) #[.int .i64 k, .int .i64 n, .int .i64 a, .slice (some ad) ps.length c] gC gX gG n u.come u.good) := ⟨U.out.alloc _⟩
                have BP : Keep (Blk (wo.alloc (.cells #[.int .i64 d, .slice Ab bd.length cb, .bool rt] 55)) wo.heap.size 55 #[.int .i64 d, .slice Ab bd.length cb, .bool rt]) := ⟨Blk.new _ _ _⟩
                have sz : w.heap.size ≤ wo.heap.size := U.out.bw.size
                have np : gC < wo.heap.size ∧ gG < wo.heap.size := ⟨U.out.bc.lt, U.out.bd.lt⟩
                generalize hpb : wo.heap.size = pb at *
                generalize hwp : wo.alloc _ = wp at *
                clear hwp c0 c1 c2 U hpb
                clear wo
                go_cut [50] (fun s50 wx => s50 = .bool (!(gb u.good d) && !(bd.any fun s => !(gb u.good s))) ∧
                  Keep (UW w wx #[.int .i64 k, .int .i64 n, .int .i64 a, .slice (some ad) ps.length c] gC gX gG n u.come u.good) ∧ Keep (Blk wx pb 55 #[.int .i64 d, .slice Ab bd.length cb, .bool rt]))
                case first =>
                  have q0 := BP.out.cell 0
                  have q1 := BP.out.cell 1
                  simp at q0 q1
                  have hx := UP.out.bx.cell 0
                  simp at hx
                  have gd := UP.out.bd.cell d
                  rw [bools_gb _ d (by rw [UP.out.lg]; omega)] at gd
                  have hany := containsFuncI Ab bd.length cb bd 65 #[.pointer (some ⟨gX, 0, none⟩)] (fun s => !(gb u.good s)) wp rfl hbl ((hrb.below UP.out.bw).mono UP.out.bw.size)
                    (enters_of Try.func65 rfl rfl)
                    (fun x hx W hW => (used1 gX gG n u.good x W (UP.out.bx.below hW UP.out.bx.lt) (UP.out.bd.below hW UP.out.bd.lt) UP.out.lg (hpi.out.2.2 x hx).1 (hpi.out.2.2 x hx).2).mono fun _ _ ⟨he, hw⟩ => ⟨he, by rw [hw]; exact hW⟩)
                  generalize hv : gb u.good d = v at gd
                  generalize hv2 : (bd.any fun s => !(gb u.good s)) = v2 at hany
                  have HV := Keep.mk hv
                  have HV2 := Keep.mk hv2
                  clear hv hv2
                  cases v with
                  | true =>
                    go_wp2_with fail
                    go_meet
                    exact ⟨by rw [HV.out]; rfl, UP, BP⟩
                  | false =>
                    go_wp2_with (go_at_call 64; refine hany.mono ?_; rintro e w' ⟨rfl, hb'⟩)
                    go_meet
                    exact ⟨by rw [HV.out, HV2.out]; rfl, ⟨UP.out.below hb'⟩, ⟨BP.out.below hb' BP.out.lt⟩⟩
                case rest =>
                  obtain ⟨rfl, U1, BP1⟩ := hcut
                  clear UP BP
                  go_upto_if 50 with fail
                  go_cut [6] (fun s6 wx => s6 = .bool (goodIn ⟨d, bd, rt⟩ u).more ∧
                    Keep (UW w wx #[.int .i64 k, .int .i64 n, .int .i64 a, .slice (some ad) ps.length c] gC gX gG n (goodIn ⟨d, bd, rt⟩ u).come (goodIn ⟨d, bd, rt⟩ u).good) ∧ Keep (Blk wx pb 55 #[.int .i64 d, .slice Ab bd.length cb, .bool rt]))
                  case first =>
                    generalize hc : (!(gb u.good d) && !(bd.any fun s => !(gb u.good s))) = b
                    cases b with
                    | true =>
                      have e : Keep (goodIn ⟨d, bd, rt⟩ u = { u with good := u.good.set d true, more := true }) := ⟨by unfold goodIn; dsimp only; rw [hc]; simp⟩
                      clear hc
                      have q0 := BP1.out.cell 0
                      have hx := U1.out.bx.cell 0
                      simp at q0 hx
                      have gd := U1.out.bd.cell d
                      rw [bools_at _ d (by rw [U1.out.lg]; omega)] at gd
                      have gf := U1.out.bd.frozen d
                      go_wp2_with fail
                      go_meet
                      rw [e.out]
                      exact ⟨rfl, ⟨U1.out.setG d true⟩, ⟨BP1.out.far (by show pb ≠ gG; omega) _⟩⟩
                    | false =>
                      have e : Keep (goodIn ⟨d, bd, rt⟩ u = u) := ⟨by unfold goodIn; dsimp only; rw [hc]; rfl⟩
                      clear hc
                      go_wp2_with fail
                      go_meet
                      rw [e.out]
                      exact ⟨rfl, U1, BP1⟩
                  case rest =>
                    obtain ⟨rfl, U2, BP2⟩ := hcut
                    clear U1 BP1
                    have HU3 : Keep ((ps.take (m + 1)).foldl usedStep ⟨come, good, false⟩ = bd.foldl (comeIn d) (goodIn ⟨d, bd, rt⟩ u)) := ⟨by rw [HU2.out]; rfl⟩
                    clear HU2
                    generalize goodIn ⟨d, bd, rt⟩ u = u1 at *
                    have q1 := BP2.out.cell 1
                    simp at q1
                    go_wp2
                    go_loopg [6, 58] bd.length (fun gg s6 s58 wr => ∃ (j : Nat) (u : Us), j ≤ bd.length ∧ bd.length - j ≤ gg ∧ s6 = .bool u.more ∧ s58 = .int .i64 j ∧ Keep (u = (bd.take j).foldl (comeIn d) u1) ∧
                      Keep (UW w wr #[.int .i64 k, .int .i64 n, .int .i64 a, .slice (some ad) ps.length c] gC gX gG n u.come u.good) ∧ Keep (Blk wr pb 55 #[.int .i64 d, .slice Ab bd.length cb, .bool rt]))
                    case atStart => exact ⟨0, u1, Nat.zero_le _, by omega, rfl, rfl, ⟨by simp⟩, U2, BP2⟩
                    case round =>
                      clear U2 BP2 q1
                      obtain ⟨j, u2, hj, hgj, rfl, rfl, HV, U, BP⟩ := hrel
                      by_cases hltj : j < bd.length
                      · obtain ⟨a2, rfl, hb2, hc2⟩ := hrb.int j hltj
                        replace hc2 := cell_below hc2 U.out.bw (by rw [add_block]; exact hb2)
                        have hs := hpi.out.2.2 _ (List.getElem_mem hltj)
                        have HV2 : Keep ((bd.take (j + 1)).foldl (comeIn d) u1 = comeIn d u2 bd[j]) := ⟨by rw [List.take_succ_eq_append_getElem hltj, List.foldl_append, ← HV.out]; rfl⟩
                        clear HV
                        generalize hy : bd[j] = y at *
                        clear hy
                        obtain ⟨y, rfl⟩ := Int.eq_ofNat_of_zero_le hs.1
                        have hyn : (y : Int) < n := by have := hs.2; simp at this; omega
                        have j1 : (0:Int) ≤ j := by omega
                        have j2 : (j : Int) < bd.length := by omega
                        have q0 := BP.out.cell 0
                        simp at q0
                        have ca := U.out.bc.cell d
                        rw [bools_gb _ d (by rw [U.out.lc]; omega)] at ca
                        have cb' := U.out.bc.cell y
                        rw [bools_gb _ y (by rw [U.out.lc]; omega)] at cb'
                        have cf := U.out.bc.frozen y
                        have hci : Keep (comeIn d u2 y = if gb u2.come d && !(gb u2.come y) then { u2 with come := u2.come.set y true, more := true } else u2) := ⟨rfl⟩
                        clear hs
                        generalize gb u2.come d = v1 at *
                        generalize gb u2.come y = v2 at *
                        cases v1 with
                        | false =>
                          have e : Keep (comeIn d u2 y = u2) := ⟨by rw [hci.out]; rfl⟩
                          go_wp2
                          go_roundg (bd.length - (j + 1))
                          case measure => omega
                          case rel => exact ⟨j + 1, u2, by omega, by omega, rfl, by go_num, ⟨by rw [HV2.out, e.out]⟩, U, BP⟩
                        | true =>
                          cases v2 with
                          | true =>
                            have e : Keep (comeIn d u2 y = u2) := ⟨by rw [hci.out]; rfl⟩
                            go_wp2
                            go_roundg (bd.length - (j + 1))
                            case measure => omega
                            case rel => exact ⟨j + 1, u2, by omega, by omega, rfl, by go_num, ⟨by rw [HV2.out, e.out]⟩, U, BP⟩
                          | false =>
                            have e : Keep (comeIn d u2 y = { u2 with come := u2.come.set y true, more := true }) := ⟨by rw [hci.out]; rfl⟩
                            go_wp2
                            go_roundg (bd.length - (j + 1))
                            case measure => omega
                            case rel => exact ⟨j + 1, _, by omega, by omega, rfl, by go_num, ⟨by rw [HV2.out, e.out]⟩, ⟨U.out.setC y true⟩, ⟨BP.out.far (by show pb ≠ gC; omega) _⟩⟩
                      · have ej : j = bd.length := by omega
                        subst ej
                        go_wp2
                        go_roundg (ps.length - (m + 1))
                        case measure => omega
                        case rel => exact ⟨m + 1, u2, by omega, by omega, rfl, by go_num, ⟨by rw [HU3.out, HV.out, List.take_length]⟩, U⟩
              · have em : m = ps.length := by omega
                subst em
                go_wp2
                go_roundg fu
                case measure => omega
                case rel =>
                  have hu : u = usedRound ps ⟨come, good, true⟩ := by rw [HU.out, List.take_length]; rfl
                  refine ⟨u, rfl, ⟨fun h => ?_⟩, U, ⟨by rw [hu]; exact HL2.out⟩⟩
                  have h1 := HR.out.2.2
                  rw [← hu] at h1
                  have h2 := HF.out (by first | rfl | trivial)
                  have h3 := h1 h
                  omega
end Go.Proofs.Ytadabkkkalgehaa.H
namespace Go.Proofs.Ytadabkkkalgehaa.H
open Go.RowKit
set_option linter.unusedVariables false
set_option linter.unusedSimpArgs false
def leads (left : List Bool) (s : Int) (p : Pr) : Bool := decide (p.head = s) && decide (p.body.length = 1) && gb left (p.body.getD 0 0)
structure Ro where
  left : List Bool
  more : Bool
def roundIn (ps : List Pr) (u : Ro) (s : Nat) : Ro := if gb u.left s && !(ps.any (leads u.left s)) then ⟨u.left.set s false, true⟩ else u
def roundRound (ps : List Pr) (T n : Nat) (u : Ro) : Ro := (List.range' T (n - T)).foldl (roundIn ps) ⟨u.left, false⟩
def roundLoop (ps : List Pr) (T n : Nat) : Nat → Ro → Ro
  | 0, u => u
  | k + 1, u => if u.more then roundLoop ps T n k (roundRound ps T n u) else u
def round0 (T n : Nat) : Ro := ⟨List.replicate T false ++ List.replicate (n - T) true, true⟩
def roundEnd (g : Gr) : Ro := roundLoop g.ps g.T.toNat g.S.toNat (g.S.toNat + 1) (round0 g.T.toNat g.S.toNat)
def roundB (g : Gr) : Bool := (roundEnd g).left.any (fun x => true == x)
theorem count_set_true (l : List Bool) : ∀ i, l.getD i false = true → (l.set i false).count true + 1 = l.count true := by
  induction l with
  | nil => intro i h; simp at h
  | cons b l ih =>
    intro i h
    cases i with
    | zero => simp at h; subst h; simp
    | succ i =>
      have := ih i (by simpa using h)
      simp only [List.set_cons_succ, List.count_cons]
      omega
structure RoLe (n : Nat) (u v : Ro) : Prop where
  c : v.left.length = n
  le : v.left.count true ≤ u.left.count true
  new : v.more = true → u.more = true ∨ v.left.count true < u.left.count true
theorem RoLe.trans {n : Nat} {a b c : Ro} (h : RoLe n a b) (k : RoLe n b c) : RoLe n a c := by
  refine ⟨k.c, Nat.le_trans k.le h.le, fun hm => ?_⟩
  rcases k.new hm with h1 | h1
  · rcases h.new h1 with h2 | h2
    · exact .inl h2
    · exact .inr (Nat.lt_of_le_of_lt k.le h2)
  · exact .inr (Nat.lt_of_lt_of_le h1 h.le)
theorem roundIn_le {n : Nat} {ps : List Pr} {u : Ro} {s : Nat} (hc : u.left.length = n) : RoLe n u (roundIn ps u s) := by
  unfold roundIn
  split
  · rename_i ht
    simp only [Bool.and_eq_true] at ht
    have := count_set_true u.left s (by simpa [gb] using ht.1)
    exact ⟨by simp [hc], by dsimp only; omega, fun _ => .inr (by dsimp only; omega)⟩
  · exact ⟨hc, Nat.le_refl _, fun h => .inl h⟩
theorem roundAll_le {n : Nat} {ps : List Pr} (l : List Nat) : ∀ {u : Ro}, u.left.length = n → RoLe n u (l.foldl (roundIn ps) u) := by
  induction l with
  | nil => intro u hc; exact ⟨hc, Nat.le_refl _, fun h => .inl h⟩
  | cons p l ih =>
    intro u hc
    have h1 := roundIn_le (ps := ps) (s := p) hc
    exact h1.trans (ih h1.c)
theorem roundRound_le {n : Nat} {ps : List Pr} {T : Nat} {u : Ro} (hc : u.left.length = n) :
    (roundRound ps T n u).left.length = n ∧ ((roundRound ps T n u).more = true → (roundRound ps T n u).left.count true < u.left.count true) := by
  have h := roundAll_le (n := n) (ps := ps) (List.range' T (n - T)) (u := ⟨u.left, false⟩) hc
  refine ⟨h.c, fun hm => ?_⟩
  rcases h.new hm with h1 | h1
  · cases h1
  · exact h1
theorem roundLoop_done (ps : List Pr) (T n k : Nat) (u : Ro) (h : u.more = false) : roundLoop ps T n k u = u := by
  cases k with
  | zero => rfl
  | succ k => simp [roundLoop, h]
theorem roundLoop_go (ps : List Pr) (T n k : Nat) (u : Ro) (h : u.more = true) : roundLoop ps T n (k + 1) u = roundLoop ps T n k (roundRound ps T n u) := by simp [roundLoop, h]
theorem fill_true (T k n : Nat) (hT : T ≤ k) (h : k < n) : (List.replicate T false ++ List.replicate (k - T) true ++ List.replicate (n - k) false).set k true = List.replicate T false ++ List.replicate (k + 1 - T) true ++ List.replicate (n - (k + 1)) false := by
  rw [List.set_append_right _ _ (by simp; omega), show k - (List.replicate T false ++ List.replicate (k - T) true).length = 0 from by simp; omega, show n - k = (n - (k + 1)) + 1 from by omega, List.replicate_succ, List.set_cons_zero, show k + 1 - T = (k - T) + 1 from by omega, List.replicate_succ' (n := k - T)]
  simp
structure RW (w wr : World) (gv : Array Value) (gX gG n : Nat) (left : List Bool) : Prop where
  bw : Below w.heap.size w wr
  bg : Blk wr w.heap.size 24 gv
  bx : Blk wr gX 76 #[.slice (some ⟨gG, 0, none⟩) n n]
  bd : Blk wr gG 4 (bools left)
  nx : gX ≠ gG
  gx : w.heap.size < gX
  gg : w.heap.size < gG
  lg : left.length = n
section
variable {w wr w' : World} {gv : Array Value} {gX gG n : Nat} {left : List Bool}
theorem RW.below (h : RW w wr gv gX gG n left) (hb : Below wr.heap.size wr w') : RW w w' gv gX gG n left :=
  ⟨below_step h.bw hb h.bw.size, h.bg.below hb h.bg.lt, h.bx.below hb h.bx.lt, h.bd.below hb h.bd.lt, h.nx, h.gx, h.gg, h.lg⟩
theorem RW.alloc (h : RW w wr gv gX gG n left) (o : Obj) : RW w (wr.alloc o) gv gX gG n left := h.below ((Below.refl _ _).alloc (Nat.le_refl _) o)
theorem RW.setG (h : RW w wr gv gX gG n left) (i : Nat) (b : Bool) : RW w (wr.setCell ⟨gG, i, none⟩ (.bool b)) gv gX gG n (left.set i b) := by
  refine ⟨h.bw.setCell (by show w.heap.size ≤ gG; have := h.gg; omega) _, h.bg.far (by show _ ≠ gG; have := h.gg; omega) _, h.bx.far h.nx _, ?_, h.nx, h.gx, h.gg, by simp [h.lg]⟩
  have := h.bd.set_ i (.bool b)
  rwa [bools_set] at this
end
set_option maxHeartbeats 1000000 in
theorem round1 (p : Pr) (Ap : Option Addr) (cp : Nat) (gS gX gG n s : Nat) (left : List Bool) (w : World) (hl : p.body.length ≤ 9223372036854775807)
    (hs : Blk w gS 3 #[.int .i64 s]) (hx : Blk w gX 76 #[.slice (some ⟨gG, 0, none⟩) n n]) (hd : Blk w gG 4 (bools left)) (hn : left.length = n)
    (hp : ∀ y ∈ p.body, 0 ≤ y ∧ y.toNat < n) (hr : Rd eI 1 w w.heap.size Ap p.body) :
    Calls Try.prog 67 #[prV p Ap cp, .pointer (some ⟨gS, 0, none⟩), .pointer (some ⟨gX, 0, none⟩)] w fun e w' => e = .returned (.bool (leads left s p)) ∧ Below w.heap.size w w' := by
  unfold prV
  obtain ⟨hd', bd, rt⟩ := p
  dsimp only at *
  have s0 := hs.cell 0
  have x0 := hx.cell 0
  simp at s0 x0
  have hsl := hs.lt
  have hxl := hx.lt
  have hdl := hd.lt
  by_cases h1 : hd' = s
  · have t1 : ((hd' : Int) == (s : Int)) = true := by simp [h1]
    by_cases h2 : bd.length = 1
    · have t2 : ((bd.length : Int) == 1) = true := by simp [h2]
      have i1 : (0 : Int) < bd.length := by omega
      obtain ⟨ad, rfl, hb, hc⟩ := hr.int 0 (by omega)
      have hy := hp _ (List.getElem_mem (show 0 < bd.length by omega))
      have H : Keep (leads left s ⟨hd', bd, rt⟩ = gb left (bd[0]'(by omega))) := ⟨by simp [leads, h1, h2, show 0 < bd.length by omega]⟩
      generalize bd[0] = y at *
      clear h1 h2 hp
      obtain ⟨y, rfl⟩ := Int.eq_ofNat_of_zero_le hy.1
      have hyn : (y : Int) < n := by have := hy.2; simp at this; omega
      have cd := hd.cell y
      rw [bools_gb _ y (by rw [hn]; omega)] at cd
      clear hr hd hn
      generalize gb left y = v at *
      rw [H.out]
      clear hs hx
      rw [show ad.add 0 = ad from rfl] at hc
      go_enter Try.func67, Try.ntmps67
      go_wp2
      go_quiet (fail)
      go_wp2
      go_ret
      exact ⟨rfl, below_drewN ((Below.refl _ _).alloc (Nat.le_refl _) _) _⟩
    · have t2 : ((bd.length : Int) == 1) = false := by simp; omega
      have H : Keep (leads left s ⟨hd', bd, rt⟩ = false) := ⟨by simp [leads, h2]⟩
      clear h1 h2 hp
      rw [H.out]
      clear hs hx hd hr hn
      go_enter Try.func67, Try.ntmps67
      go_wp2
      go_quiet (fail)
      go_wp2
      go_ret
      exact ⟨rfl, below_drewN ((Below.refl _ _).alloc (Nat.le_refl _) _) _⟩
  · have t1 : ((hd' : Int) == (s : Int)) = false := by simp [h1]
    have H : Keep (leads left s ⟨hd', bd, rt⟩ = false) := ⟨by simp [leads, h1]⟩
    clear h1 hp
    rw [H.out]
    clear hs hx hd hr hn
    go_enter Try.func67, Try.ntmps67
    go_wp2
    go_quiet (fail)
    go_wp2
    go_ret
    exact ⟨rfl, below_drewN ((Below.refl _ _).alloc (Nat.le_refl _) _) _⟩
end Go.Proofs.Ytadabkkkalgehaa.H
namespace Go.Proofs.Ytadabkkkalgehaa.H
open Go.RowKit
set_option linter.unusedVariables false
set_option linter.unusedSimpArgs false
theorem foldl_range_succ {α : Type} (f : α → Nat → α) (T k : Nat) (hT : T ≤ k) (u : α) : (List.range' T (k + 1 - T)).foldl f u = f ((List.range' T (k - T)).foldl f u) k := by
  rw [show k + 1 - T = (k - T) + 1 from by omega, List.range'_concat, List.foldl_append]
  simp [show T + (k - T) = k from by omega]
set_option maxRecDepth 100000 in
set_option maxHeartbeats 4000000 in
theorem round_any (g : Gr) (A : Option Addr) (c : Nat) (w : World) (hbl : ∀ p ∈ g.ps, p.body.length ≤ 9223372036854775807) (hr : RdP w w.heap.size A g.ps) (ok : GrOk g) :
    Calls Try.prog 53 #[grV g A c] w fun e w' => e = .returned (.bool (roundB g)) ∧ Below w.heap.size w w' := by
  obtain ⟨T, S, st, ps⟩ := g
  obtain ⟨t0, t1, s0, s1, st0, st1, n0, n1, pr⟩ := ok
  dsimp only at *
  obtain ⟨t, rfl⟩ := Int.eq_ofNat_of_zero_le (show 0 ≤ T by omega)
  obtain ⟨n, rfl⟩ := Int.eq_ofNat_of_zero_le (show 0 ≤ S by omega)
  have R0 : Keep (RdP w w.heap.size A ps) := ⟨hr⟩
  have B0 : Keep (∀ p ∈ ps, p.body.length ≤ 9223372036854775807) := ⟨hbl⟩
  have P0 : Keep (∀ p ∈ ps, ∀ y ∈ p.body, 0 ≤ y ∧ y.toNat < n) := ⟨fun p hp s hs => by have := (pr p hp).2.2 s hs; omega⟩
  have LN : ps.length ≤ 9223372036854775807 := by omega
  clear hr hbl pr n0 n1 st0 st1
  generalize hG : roundB ⟨t, n, st, ps⟩ = RES
  have HG : Keep (roundB ⟨t, n, st, ps⟩ = RES) := ⟨hG⟩
  clear hG
  unfold grV
  dsimp only
  have hmk := @run_make_row' Try.prog 76 4 (.bool false) 1 Try.underlying76 info_bool rfl .i64 .i64 n (by omega) (by omega)
  simp only [madeCells_bools] at hmk
  go_enter Try.func53, Try.ntmps53
  go_upto_region 2 with fail
  go_cut [3, 4] (fun s3 s4 wx => ∃ gX gG : Nat, s3 = .pointer (some ⟨gX, 0, none⟩) ∧ s4 = .int .i64 t ∧ Keep (RW w wx #[.int .i64 t, .int .i64 n, .int .i64 st, .slice A ps.length c] gX gG n (List.replicate n false)))
  case first =>
    go_wp2_with fail
    go_meet
    refine ⟨_, w.heap.size + 1, rfl, rfl, ⟨(((Below.refl _ _).alloc (by simp) _).alloc (by simp) _).alloc (by simp; omega) _, ?_, Blk.newAt (by simp), ?_, by omega, by omega, by omega, by simp⟩⟩
    · exact ((Blk.new _ _ _).alloc _).alloc _
    · exact (Blk.newAt (by simp)).alloc _
  case rest =>
    obtain ⟨gX, gG, rfl, rfl, U⟩ := hcut
    have U2 : Keep (RW w wc #[.int .i64 t, .int .i64 n, .int .i64 st, .slice A ps.length c] gX gG n (List.replicate t false ++ List.replicate (t - t) true ++ List.replicate (n - t) false)) := ⟨by
      have e : List.replicate t false ++ List.replicate (t - t) true ++ List.replicate (n - t) false = List.replicate n false := by
        simp; omega
      rw [e]; exact U.out⟩
    clear U
    go_wp2
    go_loopg [4] (n - t) (fun gg s4 wr => ∃ k : Nat, t ≤ k ∧ k ≤ n ∧ n - k ≤ gg ∧ s4 = .int .i64 k ∧
      Keep (RW w wr #[.int .i64 t, .int .i64 n, .int .i64 st, .slice A ps.length c] gX gG n (List.replicate t false ++ List.replicate (k - t) true ++ List.replicate (n - k) false)))
    case atStart => exact ⟨t, Nat.le_refl _, by omega, by omega, rfl, U2⟩
    case round =>
      clear U2
      obtain ⟨k, hk1, hk2, hg, rfl, U⟩ := hrel
      have g0 := U.out.bg.cell 0
      have g1 := U.out.bg.cell 1
      simp at g0 g1
      by_cases hlt : k < n
      · have cc := U.out.bd.cell k
        rw [bools_gb _ k (by rw [U.out.lg]; omega)] at cc
        have cf := U.out.bd.frozen k
        have cx := U.out.bx.cell 0
        simp at cx
        go_wp2
        go_roundg (n - (k + 1))
        case measure => omega
        case rel =>
          refine ⟨k + 1, by omega, by omega, by omega, by go_num, ⟨?_⟩⟩
          have := U.out.setG k true
          rwa [fill_true t k n hk1 hlt] at this
      · have ek : k = n := by omega
        subst ek
        have U2 : Keep (RW w wr (#[.int .i64 t, .int .i64 k, .int .i64 st, .slice A ps.length c]) gX gG k (List.replicate t false ++ List.replicate (k - t) true)) := ⟨by
          have := U.out
          rw [Nat.sub_self, List.replicate_zero, List.append_nil] at this
          exact this⟩
        go_wp2
        have HS : Keep (roundLoop ps t k (k + 1) ⟨List.replicate t false ++ List.replicate (k - t) true, true⟩ = roundEnd ⟨t, k, st, ps⟩) := ⟨by simp [roundEnd, round0]⟩
        have HF0 : Keep (true = true → (List.replicate t false ++ List.replicate (k - t) true).count true < k + 1) := ⟨fun _ => by
          have h2 := List.count_le_length (l := List.replicate t false ++ List.replicate (k - t) true) (a := true)
          simp only [List.length_append, List.length_replicate] at h2
          omega⟩
        clear U g0 g1
        go_loopg [5] (k + 1) (fun gg s5 wr => ∃ u : Ro, s5 = .bool u.more ∧ Keep (u.more = true → u.left.count true < gg) ∧
          Keep (RW w wr #[.int .i64 t, .int .i64 k, .int .i64 st, .slice A ps.length c] gX gG k u.left) ∧ Keep (roundLoop ps t k gg u = roundEnd ⟨t, k, st, ps⟩))
        case atStart => exact ⟨_, rfl, HF0, U2, HS⟩
        case round =>
          clear U2 HS HF0
          obtain ⟨⟨left, more⟩, rfl, HF, U, HL⟩ := hrel
          dsimp only at *
          cases more with
          | false =>
            replace HL := HL.out
            rw [roundLoop_done _ _ _ _ _ rfl] at HL
            have HE : Keep (RES = left.any (fun x => true == x)) := ⟨by rw [← HG.out]; simp only [roundB, ← HL]⟩
            clear HL
            have hx := U.out.bx.cell 0
            simp at hx
            have k2 := containsB (some ⟨gG, 0, none⟩) k k left true wr U.out.lg.symm (by rw [U.out.lg]; omega) (rd_bools U.out.bd U.out.bd.lt)
            generalize left.any (fun x => true == x) = gq at k2 HE
            go_wp2_with (go_at_call 66; refine k2.mono ?_; rintro e w' ⟨rfl, rfl⟩)
            go_ret
            exact ⟨by rw [HE.out]; rfl, U.out.bw⟩
          | true =>
            obtain ⟨fu, rfl⟩ : ∃ m, gk = m + 1 := ⟨gk - 1, by have := HF.out rfl; omega⟩
            replace HL := HL.out
            rw [roundLoop_go _ _ _ _ _ rfl] at HL
            have HL2 := Keep.mk HL
            have HR := Keep.mk (roundRound_le (n := k) (T := t) (ps := ps) (u := ⟨left, true⟩) U.out.lg)
            clear HL
            have h0 := U.out.bg.cell 0
            simp at h0
            obtain ⟨wo, rfl⟩ : ∃ wo : World, wo = wr := ⟨_, rfl⟩
            go_wp2
            have nw : gX < wo.heap.size ∧ gG < wo.heap.size ∧ w.heap.size < wo.heap.size := ⟨U.out.bx.lt, U.out.bd.lt, U.out.bg.lt⟩
            go_loopg [5, 6] (k - t) (fun gg s5 s6 wr => ∃ (m gS : Nat) (u : Ro), t ≤ m ∧ m ≤ k ∧ k - m ≤ gg ∧ s5 = .bool u.more ∧ s6 = .pointer (some ⟨gS, 0, none⟩) ∧ (gS ≠ gX ∧ gS ≠ gG ∧ w.heap.size < gS) ∧
              Keep (Blk wr gS 3 #[.int .i64 m]) ∧ Keep (u = (List.range' t (m - t)).foldl (roundIn ps) ⟨left, false⟩) ∧ Keep (RW w wr #[.int .i64 t, .int .i64 k, .int .i64 st, .slice A ps.length c] gX gG k u.left))
            case atStart =>
              exact ⟨t, wo.heap.size, ⟨left, false⟩, Nat.le_refl _, by omega, by omega, rfl, rfl, ⟨by omega, by omega, by omega⟩, ⟨Blk.new _ _ _⟩, ⟨by simp⟩, ⟨U.out.alloc _⟩⟩
            case round =>
              clear U h0 nw
              obtain ⟨m, gS, u, hm1, hm2, hgm, rfl, rfl, ⟨hn1, hn2, hn3⟩, BS, HU, U⟩ := hrel
              have bs := BS.out.cell 0
              simp at bs
              have g1 := U.out.bg.cell 1
              simp at g1
              by_cases hltm : m < k
              · have hx := U.out.bx.cell 0
                have g3 := U.out.bg.cell 3
                simp at hx g3
                have gd := U.out.bd.cell m
                rw [bools_gb _ m (by rw [U.out.lg]; omega)] at gd
                have gf := U.out.bd.frozen m
                have HU2 : Keep ((List.range' t (m + 1 - t)).foldl (roundIn ps) ⟨left, false⟩ = roundIn ps u m) := ⟨by rw [foldl_range_succ _ t m hm1, ← HU.out]⟩
                clear HU
                have hcall := containsFuncP A ps.length c ps 67 #[.pointer (some ⟨gS, 0, none⟩), .pointer (some ⟨gX, 0, none⟩)] (leads u.left m) wr rfl LN ((R0.out.below U.out.bw).mono U.out.bw.size)
                  (enters_of Try.func67 rfl rfl)
                  (fun p hp A' c' hr' W hW => (round1 p A' c' gS gX gG k m u.left W (B0.out p hp) (BS.out.below hW BS.out.lt) (U.out.bx.below hW U.out.bx.lt) (U.out.bd.below hW U.out.bd.lt) U.out.lg (P0.out p hp)
                    ((hr'.below hW).mono hW.size)).mono fun _ _ ⟨he, hb⟩ => ⟨he, below_step hW hb hW.size⟩)
                have hci : Keep (roundIn ps u m = if gb u.left m && !(ps.any (leads u.left m)) then ⟨u.left.set m false, true⟩ else u) := ⟨rfl⟩
                generalize gb u.left m = v1 at *
                generalize ps.any (leads u.left m) = v2 at *
                have nw : gX < wr.heap.size ∧ gG < wr.heap.size ∧ w.heap.size < wr.heap.size ∧ gS < wr.heap.size := ⟨U.out.bx.lt, U.out.bd.lt, U.out.bg.lt, BS.out.lt⟩
                cases v1 with
                | false =>
                  have e : Keep (roundIn ps u m = u) := ⟨by rw [hci.out]; rfl⟩
                  go_wp2
                  go_roundg (k - (m + 1))
                  case measure => omega
                  case rel =>
                    refine ⟨m + 1, wr.heap.size, u, by omega, by omega, by omega, rfl, rfl, ⟨by omega, by omega, by omega⟩, ⟨?_⟩, ⟨by rw [HU2.out, e.out]⟩, ⟨?_⟩⟩
                    · simp only [Int.natCast_add, Int.natCast_one]; exact Blk.newAt rfl
                    · exact U.out.alloc _
                | true =>
                  cases v2 with
                  | true =>
                    have e : Keep (roundIn ps u m = u) := ⟨by rw [hci.out]; rfl⟩
                    go_wp2_with (go_at_call 49; refine hcall.mono ?_; rintro e w' ⟨rfl, hb'⟩; have UU := Keep.mk (U.out.below hb'); have bs2 := cell_below bs hb' nw.2.2.2; have nw2 : gX < w'.heap.size ∧ gG < w'.heap.size ∧ w.heap.size < w'.heap.size ∧ gS < w'.heap.size := ⟨UU.out.bx.lt, UU.out.bd.lt, UU.out.bg.lt, cell_lt bs2⟩)
                    go_roundg (k - (m + 1))
                    case measure => omega
                    case rel =>
                      refine ⟨m + 1, w'.heap.size, u, by omega, by omega, by omega, rfl, rfl, ⟨by omega, by omega, by omega⟩, ⟨?_⟩, ⟨by rw [HU2.out, e.out]⟩, ⟨?_⟩⟩
                      · simp only [Int.natCast_add, Int.natCast_one]; exact Blk.newAt rfl
                      · exact UU.out.alloc _
                  | false =>
                    have e : Keep (roundIn ps u m = ⟨u.left.set m false, true⟩) := ⟨by rw [hci.out]; rfl⟩
                    go_wp2_with (go_at_call 49; refine hcall.mono ?_; rintro e w' ⟨rfl, hb'⟩; have UU := Keep.mk (U.out.below hb'); have bs2 := cell_below bs hb' nw.2.2.2; have hx2 := cell_below hx hb' nw.1; have gd2 := cell_below gd hb' nw.2.1; have gf2 := UU.out.bd.frozen m; have nw2 : gX < w'.heap.size ∧ gG < w'.heap.size ∧ w.heap.size < w'.heap.size ∧ gS < w'.heap.size := ⟨UU.out.bx.lt, UU.out.bd.lt, UU.out.bg.lt, cell_lt bs2⟩)
                    go_roundg (k - (m + 1))
                    case measure => omega
                    case rel =>
                      refine ⟨m + 1, w'.heap.size, ⟨u.left.set m false, true⟩, by omega, by omega, by omega, rfl, by simp [World.setCell], ⟨by omega, by omega, by omega⟩, ⟨?_⟩, ⟨by rw [HU2.out, e.out]⟩, ⟨?_⟩⟩
                      · simp only [Int.natCast_add, Int.natCast_one]; exact Blk.newAt (by simp [World.setCell])
                      · exact (UU.out.setG m false).alloc _
              · have em : m = k := by omega
                subst em
                go_wp2
                go_roundg fu
                case measure => omega
                case rel =>
                  have hu : u = roundRound ps t m ⟨left, true⟩ := by rw [HU.out]; rfl
                  refine ⟨u, rfl, ⟨fun h => ?_⟩, U, ⟨by rw [hu]; exact HL2.out⟩⟩
                  have h1 := HR.out.2
                  rw [← hu] at h1
                  have h2 := HF.out (by first | rfl | trivial)
                  have h3 := h1 h
                  omega
end Go.Proofs.Ytadabkkkalgehaa.H
namespace Go.Proofs.Ytadabkkkalgehaa.H
open Go.RowKit
set_option linter.unusedVariables false
set_option linter.unusedSimpArgs false
theorem numbersB_ok {g : Gr} (h : numbersB g = true) : GrOk g ∧ headB g = true := by
  unfold numbersB at h
  simp only [Bool.and_eq_true] at h
  obtain ⟨h1, h2⟩ := h
  have hh := h1
  simp only [headB, decide_eq_true_eq] at h1
  refine ⟨⟨h1.1, h1.2.1, h1.2.2.1, h1.2.2.2.1, h1.2.2.2.2.1, h1.2.2.2.2.2.1, h1.2.2.2.2.2.2.1, h1.2.2.2.2.2.2.2, fun p hp => ?_⟩, hh⟩
  obtain ⟨i, hi, rfl⟩ := List.getElem_of_mem hp
  have h3 := List.all_eq_true.1 h2 i (List.mem_range.2 hi)
  unfold okAt at h3
  rw [List.getElem?_eq_getElem hi] at h3
  simp only [prodB, Bool.and_eq_true, decide_eq_true_eq, List.all_eq_true, symB] at h3
  exact ⟨h3.1.1.1, h3.1.1.2, fun s hs => h3.1.2 s hs⟩
def checkI (g : Gr) : Int :=
  if numbersB g = false then 2 else if g.ps.any (fun p => decide (8 < p.body.length)) = true then 3 else if g.ps.any (fun p => decide (p.body.length = 0)) = true then 130
  else if usedB g = false then 131 else if roundB g = true then 132 else 0
structure GrIn (w : World) (g : Gr) (A : Option Addr) (c : Nat) : Prop where
  l : g.ps.length ≤ c
  l2 : g.ps.length ≤ 9223372036854775807
  b : ∀ p ∈ g.ps, p.body.length ≤ 9223372036854775807
  r : RdP w w.heap.size A g.ps
theorem GrIn.below {w w' : World} {g : Gr} {A : Option Addr} {c : Nat} (h : GrIn w g A c) (hb : Below w.heap.size w w') : GrIn w' g A c :=
  ⟨h.l, h.l2, h.b, (h.r.below hb).mono hb.size⟩
theorem numbers_any (g : Gr) (A : Option Addr) (c : Nat) (w : World) (h : GrIn w g A c) :
    Calls Try.prog 48 #[grV g A c] w fun e w' => e = .returned (.bool (numbersB g)) ∧ Below w.heap.size w w' := by
  cases hh : headB g with
  | false => exact numbers_no g A c w h.l2 hh
  | true => exact numbers_yes g A c w h.l h.b h.r hh
theorem pred1 (ps : List Pr) (w : World) (hb : ∀ p ∈ ps, p.body.length ≤ 9223372036854775807) : PredP 50 #[] (fun p => decide (8 < p.body.length)) ps w :=
  fun p hp A c hr W hW => (check1 p A c W (hb p hp)).mono fun _ _ ⟨he, hb⟩ => ⟨he, below_step hW hb hW.size⟩
theorem pred2 (ps : List Pr) (w : World) (hb : ∀ p ∈ ps, p.body.length ≤ 9223372036854775807) : PredP 51 #[] (fun p => decide (p.body.length = 0)) ps w :=
  fun p hp A c hr W hW => (check2 p A c W (hb p hp)).mono fun _ _ ⟨he, hb⟩ => ⟨he, below_step hW hb hW.size⟩
set_option maxRecDepth 100000 in
set_option maxHeartbeats 2000000 in
theorem check_any (g : Gr) (A : Option Addr) (c : Nat) (w : World) (h : GrIn w g A c) :
    Calls Try.prog 38 #[grV g A c] w fun e w' => e = .returned (.int .i64 (checkI g)) ∧ Below w.heap.size w w' := by
  have H0 := Keep.mk h
  have HL : g.ps.length ≤ 9223372036854775807 := by have := h.l; have := h.l2; omega
  have HB := Keep.mk h.b
  clear h
  have Hn : ∀ W, Below w.heap.size w W → Calls Try.prog 48 #[grV g A c] W _ := fun W hW => numbers_any g A c W (H0.out.below hW)
  have H1 : ∀ W, Below w.heap.size w W → Calls Try.prog 49 #[.slice A g.ps.length c, .func (.func 50) #[] #[]] W _ :=
    fun W hW => containsFuncP A _ c g.ps 50 #[] _ W rfl HL (H0.out.below hW).r (enters_of Try.func50 rfl rfl) (pred1 g.ps W HB.out)
  have H2 : ∀ W, Below w.heap.size w W → Calls Try.prog 49 #[.slice A g.ps.length c, .func (.func 51) #[] #[]] W _ :=
    fun W hW => containsFuncP A _ c g.ps 51 #[] _ W rfl HL (H0.out.below hW).r (enters_of Try.func51 rfl rfl) (pred2 g.ps W HB.out)
  have H3 : numbersB g = true → ∀ W, Below w.heap.size w W → Calls Try.prog 52 #[grV g A c] W _ := fun hn W hW => used_any g A c W HB.out (H0.out.below hW).r (numbersB_ok hn).1
  have H4 : numbersB g = true → ∀ W, Below w.heap.size w W → Calls Try.prog 53 #[grV g A c] W _ := fun hn W hW => round_any g A c W HB.out (H0.out.below hW).r (numbersB_ok hn).1
  have HC : Keep (checkI g = if numbersB g = false then 2 else if g.ps.any (fun p => decide (8 < p.body.length)) = true then 3 else if g.ps.any (fun p => decide (p.body.length = 0)) = true then 130
    else if usedB g = false then 131 else if roundB g = true then 132 else 0) := ⟨rfl⟩
  generalize checkI g = RES at *
  generalize numbersB g = n1 at *
  generalize g.ps.any (fun p => decide (8 < p.body.length)) = n2 at *
  generalize g.ps.any (fun p => decide (p.body.length = 0)) = n3 at *
  generalize usedB g = n4 at *
  generalize roundB g = n5 at *
  obtain ⟨T, S, st, ps⟩ := g
  unfold grV at *
  dsimp only at *
  have K1 := Keep.mk Hn
  have K2 := Keep.mk H1
  have K3 := Keep.mk H2
  have K4 := Keep.mk H3
  have K5 := Keep.mk H4
  clear Hn H1 H2 H3 H4
  have B0 : Keep (Below w.heap.size w (w.alloc (.cells #[.int .i64 T, .int .i64 S, .int .i64 st, .slice A ps.length c] 24))) := ⟨(Below.refl _ _).alloc (Nat.le_refl _) _⟩
  have BG : Keep (Blk (w.alloc (.cells #[.int .i64 T, .int .i64 S, .int .i64 st, .slice A ps.length c] 24)) w.heap.size 24 #[.int .i64 T, .int .i64 S, .int .i64 st, .slice A ps.length c]) := ⟨Blk.new _ _ _⟩
  go_enter Try.func38, Try.ntmps38
  have BG0 := BG
  clear BG
  go_wp2_with fail
  refine (K1.out _ B0.out).mono ?_
  rintro e w1 ⟨rfl, hb⟩
  have B1 : Keep (Below w.heap.size w w1) := ⟨below_step B0.out hb B0.out.size⟩
  have BG1 := Keep.mk (BG0.out.below hb BG0.out.lt)
  have q0 := BG1.out.cell 0
  have q1 := BG1.out.cell 1
  have q2 := BG1.out.cell 2
  have q3 := BG1.out.cell 3
  simp at q0 q1 q2 q3
  clear hb
  cases n1 with
  | false =>
    go_wp2
    go_ret
    exact ⟨by rw [HC.out]; rfl, B1.out⟩
  | true =>
    go_wp2_with fail
    refine (K2.out _ B1.out).mono ?_
    rintro e w2 ⟨rfl, hb⟩
    have B2 : Keep (Below w.heap.size w w2) := ⟨below_step B1.out hb B1.out.size⟩
    have BG2 := Keep.mk (BG1.out.below hb BG1.out.lt)
    have q0 := BG2.out.cell 0
    have q1 := BG2.out.cell 1
    have q2 := BG2.out.cell 2
    have q3 := BG2.out.cell 3
    simp at q0 q1 q2 q3
    clear hb
    cases n2 with
    | true =>
      go_wp2
      go_ret
      exact ⟨by rw [HC.out]; rfl, B2.out⟩
    | false =>
      go_wp2_with fail
      refine (K3.out _ B2.out).mono ?_
      rintro e w3 ⟨rfl, hb⟩
      have B3 : Keep (Below w.heap.size w w3) := ⟨below_step B2.out hb B2.out.size⟩
      have BG3 := Keep.mk (BG2.out.below hb BG2.out.lt)
      have q0 := BG3.out.cell 0
      have q1 := BG3.out.cell 1
      have q2 := BG3.out.cell 2
      have q3 := BG3.out.cell 3
      simp at q0 q1 q2 q3
      clear hb
      cases n3 with
      | true =>
        go_wp2
        go_ret
        exact ⟨by rw [HC.out]; rfl, B3.out⟩
      | false =>
        go_wp2_with fail
        refine (K4.out (by first | rfl | trivial) _ B3.out).mono ?_
        rintro e w4 ⟨rfl, hb⟩
        have B4 : Keep (Below w.heap.size w w4) := ⟨below_step B3.out hb B3.out.size⟩
        have BG4 := Keep.mk (BG3.out.below hb BG3.out.lt)
        have q0 := BG4.out.cell 0
        have q1 := BG4.out.cell 1
        have q2 := BG4.out.cell 2
        have q3 := BG4.out.cell 3
        simp at q0 q1 q2 q3
        clear hb
        cases n4 with
        | false =>
          go_wp2
          go_ret
          exact ⟨by rw [HC.out]; rfl, B4.out⟩
        | true =>
          go_wp2_with fail
          refine (K5.out (by first | rfl | trivial) _ B4.out).mono ?_
          rintro e w5 ⟨rfl, hb⟩
          have B5 : Keep (Below w.heap.size w w5) := ⟨below_step B4.out hb B4.out.size⟩
          have BG5 := Keep.mk (BG4.out.below hb BG4.out.lt)
          have q0 := BG5.out.cell 0
          have q1 := BG5.out.cell 1
          have q2 := BG5.out.cell 2
          have q3 := BG5.out.cell 3
          simp at q0 q1 q2 q3
          clear hb
          cases n5 with
          | true =>
            go_wp2
            go_ret
            exact ⟨by rw [HC.out]; rfl, B5.out⟩
          | false =>
            go_wp2
            go_ret
            exact ⟨by rw [HC.out]; rfl, B5.out⟩
end Go.Proofs.Ytadabkkkalgehaa.H
namespace Go.Proofs.Ytadabkkkalgehaa.H
open Go.RowKit
set_option linter.unusedVariables false
set_option linter.unusedSimpArgs false
theorem info_int : (Try.prog.info? 3).map (fun i => (i.zero, i.size, i.bytes)) = some (some (.int .i64 0), 1, 8) := by kernel_rfl
theorem OwnI.blk {w : World} {B : Nat} {v : Value} {xs : List Int} (h : OwnI w B v xs) (g : Nat) (hg : v.ownBlock = some g) : B ≤ g := by
  rcases h.2 with ⟨rfl, _⟩ | ⟨g', cap, cur, rfl, hB, _⟩
  · simp [Value.ownBlock] at hg
  · simp [Value.ownBlock] at hg
    omega
theorem OwnI.blk_ne {w : World} {B : Nat} {v : Value} {xs : List Int} (h : OwnI w B v xs) {g : Nat} {t : TypeId} {cs : Array Value} (hg : Blk w g t cs) (ht : t ≠ 3) : some g ≠ v.ownBlock := by
  rcases h.2 with ⟨rfl, _⟩ | ⟨g', cap, cur, rfl, hB, hh, _⟩
  · simp [Value.ownBlock]
  · intro e
    have e' : g = g' := by simpa [Value.ownBlock] using e
    subst e'
    unfold Blk at hg
    rw [hg] at hh
    injection hh with hh
    injection hh with _ h2
    exact ht h2
structure Grew (w w' : World) (B : Nat) (v v' : Value) (xs ys : List Int) : Prop where
  own : OwnI w' B v' ys
  low : Below B w w'
  blk : ∀ g t cs, Blk w g t cs → t ≠ 3 → Blk w' g t cs
theorem wpl_append_int {ops : Array Oper} {rest : List Oper} {o : Oper} {a : Act} {Q : Exit → Act → World → Prop} (w : World) (hgd : o.guard = none) (s x : Operand)
    (ho : o.op = .call { callee := .builtin .append, args := #[s, x], argTypes := #[25, 25] })
    (B : Nat) (v : Value) (xs : List Int) (hs : a.eval s = v) (hown : OwnI w B v xs) (g : Nat) (y : Int) (hx : a.eval x = .slice (some ⟨g, 0, none⟩) 1 1) (hc : w.cell? ⟨g, 0, none⟩ = some (.int .i64 y))
    (hl : xs.length < 8796093022208) (hbase : B ≤ w.heap.size)
    (h : ∀ v' w', Grew w w' B v v' xs (xs ++ [y]) → wpList Try.prog ops Q rest (a.put o.dst v') w') : wpList Try.prog ops Q (o :: rest) a w := by
  obtain ⟨i0, hi0, hz0, hz1, hz2⟩ := info_parts info_int
  refine wpList_append_own w hgd s x 25 ho B 3 i0 (.int .i64 0) 1 8 Try.underlying25 hi0 hz0 hz1 hz2 rfl (by decide) v xs.length (xs.map (Value.int .i64)) hs hown ⟨g, 0, none⟩ 1 1 [.int .i64 y] hx rfl
    (fun j u hu => ?_) (by simp [Value.oneCell']) (by simp only [maxLen]; omega) (by omega) hbase (fun v' w' h1 h2 _ => h v' w' ⟨?_, ?_, ?_⟩)
  · rcases j with _ | j
    · simp at hu
      subst hu
      exact hc
    · simp at hu
  · unfold OwnI
    rw [List.map_append, List.length_append]
    exact h1
  · exact (Below.refl _ _).grown h2 hbase (fun b hb => hown.blk b hb)
  · intro b t cs hb ht
    exact hb.grown h2 (hown.blk_ne hb ht)
end Go.Proofs.Ytadabkkkalgehaa.H
namespace Go.Proofs.Ytadabkkkalgehaa.H
open Go.RowKit
set_option linter.unusedVariables false
set_option linter.unusedSimpArgs false
theorem run_append_none_c {P : Program} {w : World} (base : Nat) (t ty e : TypeId) (i : TypeInfo) (size : Nat) (ht : P.underlying t = some (.slice e)) (hi : P.info? e = some i)
    (v : Value) (n : Nat) (xs : List Value) (c : Nat) (hown : w.ownsRow base e size v n xs) :
    (Builtin.append_ #[t, t] ty #[v, .slice none 0 c]).run P w = .ok v w := by
  rcases hown.2 with ⟨rfl, rfl⟩ | ⟨g, cap, cur, rfl, _, _, hnc, _⟩
  · simp [Builtin.append_, run_underlying ht, sizeOf, typeInfo, hi, Builtin.lenOf, Builtin.firstCells]
  · simp [Builtin.append_, run_underlying ht, sizeOf, typeInfo, hi, Builtin.lenOf, Builtin.firstCells, hnc, storeCells]
theorem wpl_own_none_c {P : Program} {w : World} {ops : Array Oper} {rest : List Oper} {o : Oper} {a : Act} {Q : Exit → Act → World → Prop} (hgd : o.guard = none) (s x : Operand) (t : TypeId)
    (ho : o.op = .call { callee := .builtin .append, args := #[s, x], argTypes := #[t, t] })
    (base : Nat) (e : TypeId) (i : TypeInfo) (size : Nat) (ht : P.underlying t = some (.slice e)) (hi : P.info? e = some i)
    (v : Value) (n : Nat) (xs : List Value) (c : Nat) (hs : a.eval s = v) (hown : w.ownsRow base e size v n xs) (hx : a.eval x = .slice none 0 c)
    (h : wpList P ops Q rest (a.put o.dst v) w) : wpList P ops Q (o :: rest) a w := by
  refine wpList_plain hgd fun K hK => ?_
  have hrun := run_append_none_c (P := P) (w := w) base t o.type e i size ht hi v n xs c hown
  unfold Oper.wp
  simp [execOp, ho, resolve, invoke, builtin, hs, hx, hrun, Result.andThen]
  exact hK _ _ h
theorem wpl_append_rd2 {ops : Array Oper} {rest : List Oper} {o : Oper} {a : Act} {Q : Exit → Act → World → Prop} (w : World) (hgd : o.guard = none) (s x : Operand)
    (ho : o.op = .call { callee := .builtin .append, args := #[s, x], argTypes := #[25, 25] })
    (B : Nat) (v : Value) (xs : List Int) (hs : a.eval s = v) (hown : OwnI w B v xs) (A : Option Addr) (c : Nat) (ys : List Int) (hx : a.eval x = .slice A ys.length c)
    (hr : Rd eI 1 w w.heap.size A ys)
    (hl : xs.length + ys.length < 8796093022208) (hbase : B ≤ w.heap.size)
    (h : ∀ v' w', Grew w w' B v v' xs (xs ++ ys) → wpList Try.prog ops Q rest (a.put o.dst v') w') : wpList Try.prog ops Q (o :: rest) a w := by
  obtain ⟨i0, hi0, hz0, hz1, hz2⟩ := info_parts info_int
  cases A with
  | none =>
    have hy : ys = [] := by
      cases ys with
      | nil => rfl
      | cons y ys => obtain ⟨ad, e, _⟩ := hr 0 (by simp); cases e
    subst hy
    refine wpl_own_none_c hgd s x 25 ho B 3 i0 1 Try.underlying25 hi0 v xs.length _ c hs hown hx (h v w ⟨by simpa using hown, Below.refl _ _, fun _ _ _ hb _ => hb⟩)
  | some ad =>
    refine wpList_append_own w hgd s x 25 ho B 3 i0 (.int .i64 0) 1 8 Try.underlying25 hi0 hz0 hz1 hz2 rfl (by decide) v xs.length (xs.map (Value.int .i64)) hs hown ad ys.length c (ys.map (Value.int .i64)) hx (by simp)
      (fun j u hu => ?_) (fun u hu => by obtain ⟨z, _, rfl⟩ := List.mem_map.1 hu; rfl) (by simp only [maxLen]; omega) (by omega) hbase (fun v' w' h1 h2 _ => h v' w' ⟨?_, ?_, ?_⟩)
    · have hj : j < ys.length := by have := (List.getElem?_eq_some_iff.1 hu).1; simpa using this
      obtain ⟨ad', e, _, hc⟩ := hr.int j hj
      injection e with e
      subst e
      rw [hc, ← hu]
      simp [hj]
    · unfold OwnI
      rw [List.map_append, List.length_append]
      exact h1
    · exact (Below.refl _ _).grown h2 hbase (fun b hb => hown.blk b hb)
    · intro b t cs hb ht
      exact hb.grown h2 (hown.blk_ne hb ht)
end Go.Proofs.Ytadabkkkalgehaa.H
namespace Go.Proofs.Ytadabkkkalgehaa.H
open Go.RowKit
set_option linter.unusedVariables false
set_option linter.unusedSimpArgs false
set_option maxRecDepth 100000 in
set_option maxHeartbeats 4000000 in
theorem copyInts_any (A : Option Addr) (c : Nat) (l : List Int) (w : World) (hr : Rd eI 1 w w.heap.size A l) (hl : l.length < 8796093022208) :
    Calls Try.prog 13 #[.slice A l.length c] w fun e w' => ∃ v, e = .returned v ∧ OwnI w' w.heap.size v l ∧ Below w.heap.size w w' := by
  go_enter Try.func13, Try.ntmps13
  go_wp2_with (at_builtin; refine wpl_append_rd2 _ rfl (.const (.slice none 0 0)) (.tmp 3) rfl w.heap.size (.slice none 0 0) [] rfl (OwnI.nil _ _) A c l rfl hr (by simpa using hl) (Nat.le_refl _) ?_)
  intro v' w1 hG
  have O1 := Keep.mk hG.own
  have B1 := Keep.mk hG.low
  obtain ⟨A8, c8, e8, _⟩ := hG.own.open_
  subst e8
  clear hG
  go_wp2
  go_ret
  exact ⟨_, rfl, O1.out, B1.out⟩
end Go.Proofs.Ytadabkkkalgehaa.H
namespace Go.Proofs.Ytadabkkkalgehaa.H
open Go.RowKit
set_option linter.unusedVariables false
set_option linter.unusedSimpArgs false
theorem checkI_zero {g : Gr} (h : checkI g = 0) : numbersB g = true ∧ (∀ p ∈ g.ps, 0 < p.body.length ∧ p.body.length ≤ 8) ∧ usedB g = true ∧ roundB g = false := by
  unfold checkI at h
  by_cases h1 : numbersB g = false
  · rw [if_pos h1] at h; cases h
  rw [if_neg h1] at h
  by_cases h2 : g.ps.any (fun p => decide (8 < p.body.length)) = true
  · rw [if_pos h2] at h; cases h
  rw [if_neg h2] at h
  by_cases h3 : g.ps.any (fun p => decide (p.body.length = 0)) = true
  · rw [if_pos h3] at h; cases h
  rw [if_neg h3] at h
  by_cases h4 : usedB g = false
  · rw [if_pos h4] at h; cases h
  rw [if_neg h4] at h
  by_cases h5 : roundB g = true
  · rw [if_pos h5] at h; cases h
  refine ⟨by simpa using h1, fun p hp => ?_, by simpa using h4, by simpa using h5⟩
  simp only [List.any_eq_true, decide_eq_true_eq, not_exists, not_and] at h2 h3
  have := h2 p hp
  have := h3 p hp
  omega
theorem GrIn.ok {g : Gr} (h : checkI g = 0) : GrOk g := (numbersB_ok (checkI_zero h).1).1
def goes {α : Type} (more : α → Bool) (round : α → α) : Nat → α → α
  | 0, u => u
  | k + 1, u => if more u then goes more round k (round u) else u
theorem goes_end {α : Type} (more : α → Bool) (round : α → α) (μ : α → Nat) (I : α → Prop) (hI : ∀ u, I u → I (round u)) (hμ : ∀ u, I u → more (round u) = true → μ (round u) < μ u) :
    ∀ k u, I u → μ u < k → more u = true → ∃ v, I v ∧ goes more round k u = round v ∧ more (round v) = false := by
  intro k
  induction k with
  | zero => intro u _ h _; omega
  | succ k ih =>
    intro u hu hk hm
    unfold goes
    rw [if_pos hm]
    cases h : more (round u) with
    | false =>
      refine ⟨u, hu, ?_, h⟩
      cases k with
      | zero => rfl
      | succ k => unfold goes; rw [if_neg (by simp [h])]
    | true => exact ih (round u) (hI u hu) (by have := hμ u hu h; omega) h
inductive Cm (st : Int) (ps : List Pr) : Int → Prop where
  | start : Cm st ps st
  | step {p : Pr} {y : Int} (hp : p ∈ ps) (h : Cm st ps p.head) (hy : y ∈ p.body) : Cm st ps y
inductive Gd (T : Int) (ps : List Pr) : Int → Prop where
  | term {s : Int} (h0 : 0 ≤ s) (h : s < T) : Gd T ps s
  | head {p : Pr} (hp : p ∈ ps) (h : ∀ y ∈ p.body, Gd T ps y) : Gd T ps p.head
theorem usedLoop_goes (ps : List Pr) (k : Nat) : ∀ u, usedLoop ps k u = goes Us.more (usedRound ps) k u := by
  induction k with
  | zero => intro u; rfl
  | succ k ih => intro u; simp only [usedLoop, goes]; split <;> simp [ih]
theorem gb_set {m : List Bool} {i : Int} {b : Bool} (hi : 0 ≤ i) (h : i.toNat < m.length) (s : Int) (hs : 0 ≤ s) : gb (m.set i.toNat b) s = if s = i then b else gb m s := by
  unfold gb
  rw [List.getD_eq_getElem?_getD, List.getD_eq_getElem?_getD, List.getElem?_set]
  by_cases e : s = i
  · subst e; simp [h]
  · have : ¬ i.toNat = s.toNat := by omega
    simp [this, e]
theorem gb_rep (a b : Nat) (x y : Bool) (s : Int) (hs : s.toNat < a + b) : gb (List.replicate a x ++ List.replicate b y) s = if s.toNat < a then x else y := by
  unfold gb
  rw [List.getD_eq_getElem?_getD]
  by_cases h : s.toNat < a
  · rw [List.getElem?_append_left (by simpa using h)]
    simp [h]
  · rw [List.getElem?_append_right (by simpa using h)]
    have : s.toNat - a < b := by omega
    simp [h, this]
structure UsI (T : Int) (n : Nat) (st : Int) (ps : List Pr) (u : Us) : Prop where
  lc : u.come.length = n
  lg : u.good.length = n
  sv : gb u.come st = true
  tm : ∀ s : Int, 0 ≤ s → s < T → gb u.good s = true
  c : ∀ s : Int, 0 ≤ s → s.toNat < n → gb u.come s = true → Cm st ps s
  g : ∀ s : Int, 0 ≤ s → s.toNat < n → gb u.good s = true → Gd T ps s
theorem comeIn_I {T : Int} {n : Nat} {st : Int} {ps : List Pr} {u : Us} {p : Pr} {y : Int} (hst : 0 ≤ st) (hp : p ∈ ps) (hin : PrIn n p) (hy : y ∈ p.body) (h : UsI T n st ps u) : UsI T n st ps (comeIn p.head u y) := by
  have hyn := hin.2.2 y hy
  unfold comeIn
  split
  · rename_i ht
    simp only [Bool.and_eq_true, Bool.not_eq_true'] at ht
    refine ⟨by simp [h.lc], h.lg, ?_, h.tm, fun s hs hsn hc => ?_, h.g⟩
    · dsimp only
      rw [gb_set hyn.1 (by rw [h.lc]; exact hyn.2) _ hst]
      split
      · rfl
      · exact h.sv
    · dsimp only at hc
      rw [gb_set hyn.1 (by rw [h.lc]; exact hyn.2) _ hs] at hc
      split at hc
      · rename_i e
        rw [e]
        exact .step hp (h.c p.head hin.1 hin.2.1 ht.1) hy
      · exact h.c s hs hsn hc
  · exact h
theorem goodIn_I {T : Int} {n : Nat} {st : Int} {ps : List Pr} {u : Us} {p : Pr} (hp : p ∈ ps) (hin : PrIn n p) (h : UsI T n st ps u) : UsI T n st ps (goodIn p u) := by
  unfold goodIn
  split
  · rename_i ht
    simp only [Bool.and_eq_true, Bool.not_eq_true'] at ht
    have hall : ∀ y ∈ p.body, gb u.good y = true := by
      intro y hy
      have h2 := List.any_eq_false.1 ht.2 y hy
      simpa using h2
    refine ⟨h.lc, by simp [h.lg], h.sv, fun s hs hsT => ?_, h.c, fun s hs hsn hc => ?_⟩
    · dsimp only
      rw [gb_set hin.1 (by rw [h.lg]; exact hin.2.1) _ hs]
      split
      · rfl
      · exact h.tm s hs hsT
    · dsimp only at hc
      rw [gb_set hin.1 (by rw [h.lg]; exact hin.2.1) _ hs] at hc
      split at hc
      · rename_i e
        rw [e]
        exact .head hp (fun y hy => h.g y (hin.2.2 y hy).1 (hin.2.2 y hy).2 (hall y hy))
      · exact h.g s hs hsn hc
  · exact h
theorem comeAll_I {T : Int} {n : Nat} {st : Int} {ps : List Pr} {p : Pr} (hst : 0 ≤ st) (hp : p ∈ ps) (hin : PrIn n p) (l : List Int) (hl : ∀ y ∈ l, y ∈ p.body) : ∀ u : Us, UsI T n st ps u → UsI T n st ps (l.foldl (comeIn p.head) u) := by
  induction l with
  | nil => intro u h; exact h
  | cons y l ih => intro u h; exact ih (fun q hq => hl q (by simp [hq])) _ (comeIn_I hst hp hin (hl y (by simp)) h)
theorem usedAll_I {T : Int} {n : Nat} {st : Int} {ps : List Pr} (hst : 0 ≤ st) (hin : ∀ p ∈ ps, PrIn n p) (l : List Pr) (hl : ∀ p ∈ l, p ∈ ps) : ∀ u : Us, UsI T n st ps u → UsI T n st ps (l.foldl usedStep u) := by
  induction l with
  | nil => intro u h; exact h
  | cons p l ih =>
    intro u h
    have hp := hl p (by simp)
    exact ih (fun q hq => hl q (by simp [hq])) _ (comeAll_I hst hp (hin p hp) p.body (fun _ h => h) _ (goodIn_I hp (hin p hp) h))
theorem comeAll_still {h : Int} (l : List Int) : ∀ u : Us, (l.foldl (comeIn h) u).more = false → l.foldl (comeIn h) u = u ∧ u.more = false ∧ ∀ y ∈ l, gb u.come h = true → gb u.come y = true := by
  induction l with
  | nil => intro u h; exact ⟨rfl, h, by simp⟩
  | cons y l ih =>
    intro u hm
    obtain ⟨h1, h2, h3⟩ := ih (comeIn h u y) hm
    have e : comeIn h u y = u := by
      unfold comeIn at h2 ⊢
      split at h2
      · cases h2
      · rename_i hc; rw [if_neg hc]
    have e2 : gb u.come h = true → gb u.come y = true := by
      intro hh
      unfold comeIn at h2
      split at h2
      · cases h2
      · rename_i hc
        simp only [Bool.and_eq_true, Bool.not_eq_true', not_and, Bool.not_eq_false] at hc
        exact hc hh
    rw [e] at h1 h2 h3
    refine ⟨by rw [List.foldl_cons, e, h1], h2, fun z hz => ?_⟩
    rcases List.mem_cons.1 hz with rfl | hz
    · exact e2
    · exact h3 z hz
theorem usedAll_still (l : List Pr) : ∀ u : Us, (l.foldl usedStep u).more = false → l.foldl usedStep u = u ∧ u.more = false ∧ ∀ p ∈ l, (gb u.come p.head = true → ∀ y ∈ p.body, gb u.come y = true) ∧ ((∀ y ∈ p.body, gb u.good y = true) → gb u.good p.head = true) := by
  induction l with
  | nil => intro u h; exact ⟨rfl, h, by simp⟩
  | cons p l ih =>
    intro u hm
    obtain ⟨h1, h2, h3⟩ := ih (usedStep u p) hm
    obtain ⟨k1, k2, k3⟩ := comeAll_still p.body (goodIn p u) h2
    have e : goodIn p u = u ∧ ((∀ y ∈ p.body, gb u.good y = true) → gb u.good p.head = true) := by
      unfold goodIn at k2
      unfold goodIn
      split at k2
      · cases k2
      · rename_i hc
        refine ⟨by rw [if_neg hc], fun hall => ?_⟩
        simp only [Bool.and_eq_true, Bool.not_eq_true', not_and] at hc
        apply Classical.byContradiction
        intro hng
        refine hc (by simpa using hng) ?_
        rw [List.any_eq_false]
        intro y hy
        rw [hall y hy]; simp
    have e1 : usedStep u p = u := by
      unfold usedStep
      rw [e.1] at k1 ⊢
      exact k1
    rw [e.1] at k3
    rw [e1] at h1 h2 h3
    refine ⟨by rw [List.foldl_cons, e1, h1], h2, fun q hq => ?_⟩
    rcases List.mem_cons.1 hq with rfl | hq
    · exact ⟨fun hh y hy => k3 y hy hh, e.2⟩
    · exact h3 q hq
theorem any_false_iff (l : List Bool) : l.any (fun x => false == x) = false ↔ ∀ i (h : i < l.length), l[i] = true := by
  rw [List.any_eq_false]
  constructor
  · intro h i hi
    have := h _ (List.getElem_mem hi)
    simpa using this
  · intro h x hx
    obtain ⟨i, hi, rfl⟩ := List.getElem_of_mem hx
    simp [h i hi]
theorem used_spec {g : Gr} (ok : GrOk g) : usedB g = true ↔ (∀ s, g.T ≤ s → s < g.S → Cm g.st g.ps s) ∧ (∀ s, 0 ≤ s → s < g.S → Gd g.T g.ps s) := by
  have h1 := ok.t0; have h2 := ok.s0; have h3 := ok.st0; have h4 := ok.st1
  have hpin : ∀ p ∈ g.ps, PrIn g.S.toNat p := by
    intro p hp
    have h1 := ok.pr p hp
    exact ⟨by omega, by omega, fun s hs => by have := h1.2.2 s hs; omega⟩
  have hst : 0 ≤ g.st := by omega
  have I0 : UsI g.T g.S.toNat g.st g.ps (used0 g) := by
    refine ⟨by simp [used0], by simp [used0]; omega, ?_, fun s hs hsT => ?_, fun s hs hsn hc => ?_, fun s hs hsn hc => ?_⟩
    · simp only [used0]
      rw [gb_set hst (by simp; omega) _ hst, if_pos rfl]
    · simp only [used0]
      rw [gb_rep _ _ _ _ _ (by omega), if_pos (by omega)]
    · simp only [used0] at hc
      rw [gb_set hst (by simp; omega) _ hs] at hc
      split at hc
      · rename_i e; rw [e]; exact .start
      · exfalso
        have : gb (List.replicate g.S.toNat false) s = false := by
          unfold gb; rw [List.getD_eq_getElem?_getD, List.getElem?_replicate]; split <;> rfl
        rw [this] at hc; cases hc
    · simp only [used0] at hc
      rw [gb_rep _ _ _ _ _ (by omega)] at hc
      split at hc
      · exact .term hs (by omega)
      · cases hc
  have hround : ∀ u, UsI g.T g.S.toNat g.st g.ps u → UsI g.T g.S.toNat g.st g.ps (usedRound g.ps u) :=
    fun u hu => usedAll_I hst hpin g.ps (fun _ h => h) _ ⟨hu.lc, hu.lg, hu.sv, hu.tm, hu.c, hu.g⟩
  have hle : falses (used0 g) < 2 * g.S.toNat + 1 := by
    have a1 := List.count_le_length (l := (used0 g).come) (a := false)
    have a2 := List.count_le_length (l := (used0 g).good) (a := false)
    rw [I0.lc] at a1
    rw [I0.lg] at a2
    unfold falses
    omega
  obtain ⟨v, hv, e, hm⟩ := goes_end Us.more (usedRound g.ps) falses (UsI g.T g.S.toNat g.st g.ps) hround
    (fun u hu hm => (usedRound_le (n := g.S.toNat) hu.lc hu.lg hpin).2.2 hm) (2 * g.S.toNat + 1) (used0 g) I0 hle rfl
  have hend : usedEnd g = usedRound g.ps v := by unfold usedEnd; rw [usedLoop_goes, e]
  obtain ⟨k1, _, k3⟩ := usedAll_still g.ps { v with more := false } hm
  have hfin := hround v hv
  have ec : (usedEnd g).come = v.come := by rw [hend]; show (g.ps.foldl usedStep { v with more := false }).come = _; rw [k1]
  have eg : (usedEnd g).good = v.good := by rw [hend]; show (g.ps.foldl usedStep { v with more := false }).good = _; rw [k1]
  have hC : ∀ s, 0 ≤ s → s < g.S → (gb v.come s = true ↔ Cm g.st g.ps s) := by
    intro s hs hsS
    refine ⟨fun h => hv.c s hs (by omega) h, fun h => ?_⟩
    clear hs hsS
    induction h with
    | start => exact hv.sv
    | step hp _ hy ih => exact (k3 _ hp).1 ih _ hy
  have hG : ∀ s, 0 ≤ s → s < g.S → (gb v.good s = true ↔ Gd g.T g.ps s) := by
    intro s hs hsS
    refine ⟨fun h => hv.g s hs (by omega) h, fun h => ?_⟩
    clear hs hsS
    induction h with
    | term h0 h => exact hv.tm _ h0 h
    | head hp _ ih => exact (k3 _ hp).2 ih
  have getb : ∀ (l : List Bool) (i : Nat) (h : i < l.length), gb l (i : Int) = l[i] := by
    intro l i h; unfold gb; simp [h]
  unfold usedB
  rw [Bool.and_eq_true, Bool.not_eq_true', Bool.not_eq_true', any_false_iff, any_false_iff, ec, eg]
  constructor
  · rintro ⟨a1, a2⟩
    refine ⟨fun s hsT hsS => ?_, fun s hs hsS => ?_⟩
    · refine (hC s (by omega) hsS).1 ?_
      have := a1 (s.toNat - g.T.toNat) (by rw [List.length_drop, hv.lc]; omega)
      rw [List.getElem_drop] at this
      have e : (s : Int) = ((g.T.toNat + (s.toNat - g.T.toNat) : Nat) : Int) := by omega
      rw [e, getb _ _ (by rw [hv.lc]; omega)]
      exact this
    · refine (hG s hs hsS).1 ?_
      have := a2 s.toNat (by rw [hv.lg]; omega)
      have e : (s : Int) = ((s.toNat : Nat) : Int) := by omega
      rw [e, getb _ _ (by rw [hv.lg]; omega)]
      exact this
  · rintro ⟨a1, a2⟩
    refine ⟨fun i hi => ?_, fun i hi => ?_⟩
    · rw [List.length_drop, hv.lc] at hi
      rw [List.getElem_drop, ← getb _ _ (by rw [hv.lc]; omega)]
      exact (hC _ (by omega) (by omega)).2 (a1 _ (by omega) (by omega))
    · rw [hv.lg] at hi
      rw [← getb _ _ (by rw [hv.lg]; omega)]
      exact (hG _ (by omega) (by omega)).2 (a2 _ (by omega) (by omega))
def Cyc (ps : List Pr) (X : Int → Prop) : Prop := ∀ s, X s → ∃ p ∈ ps, p.head = s ∧ p.body.length = 1 ∧ X (p.body.getD 0 0)
theorem roundLoop_goes (ps : List Pr) (T n k : Nat) : ∀ u, roundLoop ps T n k u = goes Ro.more (roundRound ps T n) k u := by
  induction k with
  | zero => intro u; rfl
  | succ k ih => intro u; simp only [roundLoop, goes]; split <;> simp [ih]
structure RoI (g : Gr) (u : Ro) : Prop where
  l : u.left.length = g.S.toNat
  t : ∀ s : Int, 0 ≤ s → gb u.left s = true → g.T ≤ s
  x : ∀ X : Int → Prop, (∀ s, X s → g.T ≤ s ∧ s < g.S) → Cyc g.ps X → ∀ s, X s → gb u.left s = true
theorem roundIn_I {g : Gr} {u : Ro} {s : Nat} (hT : 0 ≤ g.T) (hs : s < g.S.toNat) (h : RoI g u) : RoI g (roundIn g.ps u s) := by
  unfold roundIn
  split
  · rename_i hc
    simp only [Bool.and_eq_true, Bool.not_eq_true'] at hc
    refine ⟨by simp [h.l], fun y hy hg => ?_, fun X hX hC y hy => ?_⟩
    · dsimp only at hg
      have := gb_set (m := u.left) (i := (s : Int)) (b := false) (by omega) (by rw [h.l]; simpa using hs) y hy
      simp only [Int.toNat_natCast] at this
      rw [this] at hg
      split at hg
      · cases hg
      · exact h.t y hy hg
    · dsimp only
      have h0 : 0 ≤ y := by have := (hX y hy).1; omega
      have := gb_set (m := u.left) (i := (s : Int)) (b := false) (by omega) (by rw [h.l]; simpa using hs) y h0
      simp only [Int.toNat_natCast] at this
      rw [this]
      by_cases e : y = s
      · exfalso
        subst e
        obtain ⟨p, hp, e1, e2, e3⟩ := hC _ hy
        have h1 := h.x X hX hC _ e3
        have h2 := List.any_eq_false.1 hc.2 p hp
        simp only [leads, e1, e2, h1] at h2
        simp at h2
      · rw [if_neg e]
        exact h.x X hX hC y hy
  · exact h
theorem roundAll_I {g : Gr} (hT : 0 ≤ g.T) (l : List Nat) (hl : ∀ s ∈ l, s < g.S.toNat) : ∀ u, RoI g u → RoI g (l.foldl (roundIn g.ps) u) := by
  induction l with
  | nil => intro u h; exact h
  | cons s l ih => intro u h; exact ih (fun y hy => hl y (List.mem_cons_of_mem _ hy)) _ (roundIn_I hT (hl s List.mem_cons_self) h)
theorem roundAll_still {ps : List Pr} (l : List Nat) : ∀ u : Ro, (l.foldl (roundIn ps) u).more = false → l.foldl (roundIn ps) u = u ∧ u.more = false ∧ ∀ s ∈ l, gb u.left s = true → ps.any (leads u.left s) = true := by
  induction l with
  | nil => intro u h; exact ⟨rfl, h, by simp⟩
  | cons s l ih =>
    intro u h
    rw [List.foldl_cons] at h ⊢
    obtain ⟨h1, h2, h3⟩ := ih _ h
    have hn : ¬ ((gb u.left s && !(ps.any (leads u.left s))) = true) := by
      intro hc
      unfold roundIn at h2
      rw [if_pos hc] at h2
      cases h2
    have he : roundIn ps u s = u := by unfold roundIn; rw [if_neg hn]
    rw [he] at h1 h2 h3 ⊢
    refine ⟨h1, h2, fun y hy hg => ?_⟩
    rcases List.mem_cons.1 hy with rfl | hy
    · simp only [Bool.and_eq_true, Bool.not_eq_true', not_and, Bool.not_eq_false] at hn
      exact hn hg
    · exact h3 y hy hg
theorem round_spec {g : Gr} (ok : GrOk g) : roundB g = true ↔ ∃ X : Int → Prop, (∃ s, X s) ∧ (∀ s, X s → g.T ≤ s ∧ s < g.S) ∧ Cyc g.ps X := by
  have hT0 := ok.t0
  have hS := ok.s0
  have I0 : RoI g (round0 g.T.toNat g.S.toNat) := by
    refine ⟨by simp [round0]; omega, fun s hs hg => ?_, fun X hX hC s hs => ?_⟩
    · unfold round0 at hg
      dsimp only at hg
      by_cases hlt : s.toNat < g.T.toNat + (g.S.toNat - g.T.toNat)
      · rw [gb_rep _ _ _ _ _ hlt] at hg
        split at hg
        · cases hg
        · omega
      · omega
    · unfold round0
      dsimp only
      have := hX s hs
      rw [gb_rep _ _ _ _ _ (by omega), if_neg (by omega)]
  have hround : ∀ u, RoI g u → RoI g (roundRound g.ps g.T.toNat g.S.toNat u) :=
    fun u hu => roundAll_I (by omega) _ (fun s hs => by have := List.mem_range'_1.1 hs; omega) _ ⟨hu.l, hu.t, hu.x⟩
  obtain ⟨v, hv, e, hm⟩ := goes_end Ro.more (roundRound g.ps g.T.toNat g.S.toNat) (fun u => u.left.count true) (RoI g) hround
    (fun u hu hm => (roundRound_le (n := g.S.toNat) hu.l).2 hm) (g.S.toNat + 1) (round0 g.T.toNat g.S.toNat) I0
    (by have := List.count_le_length (a := true) (l := (round0 g.T.toNat g.S.toNat).left); have h1 := I0.l; omega) rfl
  have hend : roundEnd g = roundRound g.ps g.T.toNat g.S.toNat v := by unfold roundEnd; rw [roundLoop_goes, e]
  obtain ⟨h1, _, h3⟩ := roundAll_still _ ⟨v.left, false⟩ hm
  have hsame : (roundEnd g).left = v.left := by rw [hend]; unfold roundRound; rw [h1]
  unfold roundB
  rw [hsame]
  constructor
  · intro ha
    obtain ⟨b, hb, hb2⟩ := List.any_eq_true.1 ha
    have hb3 : b = true := by simpa using hb2
    subst hb3
    obtain ⟨i, hi, hib⟩ := List.getElem_of_mem hb
    refine ⟨fun s => 0 ≤ s ∧ gb v.left s = true, ⟨(i : Int), by omega, by unfold gb; rw [List.getD_eq_getElem?_getD]; simp [hi, hib]⟩, fun s hs => ⟨hv.t s hs.1 hs.2, ?_⟩, fun s hs => ?_⟩
    · apply Classical.byContradiction
      intro hlt
      have := hs.2
      unfold gb at this
      rw [List.getD_eq_getElem?_getD, List.getElem?_eq_none (by rw [hv.l]; omega)] at this
      cases this
    · have hsT := hv.t s hs.1 hs.2
      have hsS : s.toNat < g.S.toNat := by
        apply Classical.byContradiction
        intro hlt
        have := hs.2
        unfold gb at this
        rw [List.getD_eq_getElem?_getD, List.getElem?_eq_none (by rw [hv.l]; omega)] at this
        cases this
      have hss : ((s.toNat : Nat) : Int) = s := Int.toNat_of_nonneg hs.1
      have := h3 s.toNat (List.mem_range'_1.2 ⟨by omega, by omega⟩) (by rw [hss]; exact hs.2)
      rw [hss] at this
      obtain ⟨p, hp, hl⟩ := List.any_eq_true.1 this
      simp only [leads, Bool.and_eq_true, decide_eq_true_eq] at hl
      refine ⟨p, hp, hl.1.1, hl.1.2, ?_, hl.2⟩
      have hb0 : p.body.getD 0 0 ∈ p.body := by
        rw [List.getD_eq_getElem?_getD, List.getElem?_eq_getElem (by omega)]
        exact List.getElem_mem _
      exact ((ok.pr p hp).2.2 _ hb0).1
  · rintro ⟨X, ⟨s, hs⟩, hX, hC⟩
    have hg := hv.x X hX hC s hs
    have := hX s hs
    have hlt : s.toNat < v.left.length := by rw [hv.l]; omega
    refine List.any_eq_true.2 ⟨v.left[s.toNat], List.getElem_mem hlt, ?_⟩
    unfold gb at hg
    rw [List.getD_eq_getElem?_getD, List.getElem?_eq_getElem hlt] at hg
    simpa using hg
end Go.Proofs.Ytadabkkkalgehaa.H
namespace Go.Proofs.Ytadabkkkalgehaa.H
set_option linter.unusedVariables false
set_option linter.unusedSimpArgs false
def bodyAt (g : Gr) (p : Nat) : List Int := (g.ps.getD p ⟨0, [], false⟩).body
def headAt (g : Gr) (p : Nat) : Int := (g.ps.getD p ⟨0, [], false⟩).head
theorem bodyAt_get {g : Gr} {p : Nat} (h : p < g.ps.length) : bodyAt g p = g.ps[p].body := by simp [bodyAt, h]
theorem headAt_get {g : Gr} {p : Nat} (h : p < g.ps.length) : headAt g p = g.ps[p].head := by simp [headAt, h]
def symEq (g : Gr) (row : List Int) (B : Nat → Nat → Nat → Nat → Nat) (s : Int) (f t : Nat) : Nat :=
  if s < g.T then (if t = f + 1 ∧ row[f]? = some s then 1 else 0)
  else ((List.range g.ps.length).map fun p => if headAt g p = s then B p 0 f t else 0).sum
def bodyEq (g : Gr) (S : Int → Nat → Nat → Nat) (B : Nat → Nat → Nat → Nat → Nat) (p d f t : Nat) : Nat :=
  if t - f < (bodyAt g p).length - d then 0
  else if (bodyAt g p).length - d = 0 then (if f = t then 1 else 0)
  else if (bodyAt g p).length - d = 1 then S ((bodyAt g p).getD d 0) f t
  else ((List.range (t + 1 - ((bodyAt g p).length - d) - f)).map fun i => S ((bodyAt g p).getD d 0) f (f + 1 + i) * B p (d + 1) (f + 1 + i) t).sum
def cnt (g : Gr) (row : List Int) : Nat → (Int → Nat → Nat → Nat) × (Nat → Nat → Nat → Nat → Nat)
  | 0 => (fun _ _ _ => 0, fun _ _ _ _ => 0)
  | n + 1 => (symEq g row (cnt g row n).2, bodyEq g (cnt g row n).1 (cnt g row n).2)
def Rk (g : Gr) : Nat → Int → Prop
  | 0, s => s < g.T
  | n + 1, s => ∀ p ∈ g.ps, p.head = s → p.body.length = 1 → Rk g n (p.body.getD 0 0)
theorem Rk.up {g : Gr} (ok : GrOk g) : ∀ (n : Nat) (s : Int), Rk g n s → Rk g (n + 1) s := by
  intro n
  induction n with
  | zero =>
    intro s h p hp hh hl
    have := (ok.pr p hp).1
    have h' : s < g.T := h
    omega
  | succ n ih => intro s h p hp hh hl; exact ih _ (h p hp hh hl)
theorem Rk.le {g : Gr} (ok : GrOk g) {n m : Nat} {s : Int} (h : Rk g n s) (hm : n ≤ m) : Rk g m s := by
  obtain ⟨k, rfl⟩ := Nat.le.dest hm
  clear hm
  induction k with
  | zero => exact h
  | succ k ih => exact Rk.up ok _ _ ih
theorem all_le {n : Nat} {P : Nat → Nat → Prop} (hP : ∀ i a b, a ≤ b → P i a → P i b) (h : ∀ i, i < n → ∃ a, P i a) : ∃ a, ∀ i, i < n → P i a := by
  induction n with
  | zero => exact ⟨0, fun i hi => absurd hi (Nat.not_lt_zero _)⟩
  | succ n ih =>
    obtain ⟨a, ha⟩ := ih (fun i hi => h i (by omega))
    obtain ⟨b, hb⟩ := h n (by omega)
    refine ⟨max a b, fun i hi => ?_⟩
    by_cases e : i = n
    · subst e; exact hP _ _ _ (Nat.le_max_right _ _) hb
    · exact hP _ _ _ (Nat.le_max_left _ _) (ha i (by omega))
theorem ranked {g : Gr} (ok : GrOk g) (hr : roundB g = false) (hp : ∀ p ∈ g.ps, 0 < p.body.length) : ∃ R, ∀ s, 0 ≤ s → s < g.S → Rk g R s := by
  have each : ∀ s, g.T ≤ s → s < g.S → ∃ n, Rk g n s := by
    intro s h0 h1
    apply Classical.byContradiction
    intro hne
    have : roundB g = true := by
      rw [round_spec ok]
      refine ⟨fun s => g.T ≤ s ∧ s < g.S ∧ ¬ ∃ n, Rk g n s, ⟨s, h0, h1, hne⟩, fun s hs => ⟨hs.1, hs.2.1⟩, fun s hs => ?_⟩
      apply Classical.byContradiction
      intro hno
      refine hs.2.2 ?_
      have hall : ∀ i, i < g.ps.length → ∃ n, g.ps[i]?.all (fun p => decide (p.head = s ∧ p.body.length = 1)) = true → ∀ p, g.ps[i]? = some p → Rk g n (p.body.getD 0 0) := by
        intro i hi
        by_cases hc : g.ps[i].head = s ∧ g.ps[i].body.length = 1
        · have hb : ∃ n, Rk g n (g.ps[i].body.getD 0 0) := by
            apply Classical.byContradiction
            intro hb
            refine hno ⟨g.ps[i], List.getElem_mem hi, hc.1, hc.2, ?_⟩
            have hm : g.ps[i].body.getD 0 0 ∈ g.ps[i].body := by
              rw [List.getD_eq_getElem?_getD, List.getElem?_eq_getElem (by omega)]
              exact List.getElem_mem _
            have hr := (ok.pr _ (List.getElem_mem hi)).2.2 _ hm
            refine ⟨?_, hr.2, hb⟩
            apply Classical.byContradiction
            intro hT
            exact hb ⟨0, by show g.ps[i].body.getD 0 0 < g.T; omega⟩
          obtain ⟨n, hn⟩ := hb
          exact ⟨n, fun _ p hp => by rw [List.getElem?_eq_getElem hi] at hp; injection hp with hp; subst hp; exact hn⟩
        · refine ⟨0, fun h => ?_⟩
          rw [List.getElem?_eq_getElem hi] at h
          simp [hc] at h
      obtain ⟨N, hN⟩ := all_le (P := fun i n => g.ps[i]?.all (fun p => decide (p.head = s ∧ p.body.length = 1)) = true → ∀ p, g.ps[i]? = some p → Rk g n (p.body.getD 0 0))
        (fun i a b hab h hc p hp => (h hc p hp).le ok hab) hall
      refine ⟨N + 1, fun p hp hh hl => ?_⟩
      obtain ⟨i, hi, rfl⟩ := List.getElem_of_mem hp
      exact hN i hi (by rw [List.getElem?_eq_getElem hi]; simp [hh, hl]) _ (List.getElem?_eq_getElem hi)
    rw [hr] at this
    cases this
  obtain ⟨R, hR⟩ := all_le (n := g.S.toNat) (P := fun i a => Rk g a (i : Int)) (fun i a b hab h => h.le ok hab) (fun i hi => by
    by_cases hT : (i : Int) < g.T
    · exact ⟨0, hT⟩
    · exact each i (by omega) (by omega))
  refine ⟨R, fun s h0 h1 => ?_⟩
  have := hR s.toNat (by omega)
  rwa [show ((s.toNat : Nat) : Int) = s from by omega] at this
structure GrD (g : Gr) (R : Nat) : Prop where
  ok : GrOk g
  ne : ∀ p ∈ g.ps, 0 < p.body.length
  rk : ∀ s, 0 ≤ s → s < g.S → Rk g R s
theorem GrD.body {g : Gr} {R : Nat} (h : GrD g R) {p d : Nat} (hp : p < g.ps.length) (hd : d < (bodyAt g p).length) : 0 ≤ (bodyAt g p).getD d 0 ∧ (bodyAt g p).getD d 0 < g.S := by
  rw [bodyAt_get hp] at *
  have hm : g.ps[p].body.getD d 0 ∈ g.ps[p].body := by rw [List.getD_eq_getElem?_getD, List.getElem?_eq_getElem hd]; exact List.getElem_mem _
  exact (h.ok.pr _ (List.getElem_mem hp)).2.2 _ hm
theorem GrD.head {g : Gr} {R : Nat} (h : GrD g R) {p : Nat} (hp : p < g.ps.length) : g.T ≤ headAt g p ∧ headAt g p < g.S := by
  rw [headAt_get hp]
  exact ⟨(h.ok.pr _ (List.getElem_mem hp)).1, (h.ok.pr _ (List.getElem_mem hp)).2.1⟩
theorem GrD.unit {g : Gr} {R : Nat} (h : GrD g R) {r p : Nat} (hp : p < g.ps.length) (hr : Rk g r (headAt g p)) (hl : (bodyAt g p).length = 1) : ∃ r', r = r' + 1 ∧ Rk g r' ((bodyAt g p).getD 0 0) := by
  cases r with
  | zero => have h1 : headAt g p < g.T := hr; have := (h.head hp).1; omega
  | succ r =>
    refine ⟨r, rfl, ?_⟩
    rw [headAt_get hp] at hr
    rw [bodyAt_get hp] at *
    exact hr _ (List.getElem_mem hp) rfl hl
def depS (R r f t : Nat) : Nat := (t - f) * (2 * R + 4) + 2 * r + 1
def depB (R r d f t : Nat) : Nat := (t - f) * (2 * R + 4) + (if d = 0 then 2 * r else 2 * R + 2)
theorem dep_short {R r d f t f' t' : Nat} (h : t' - f' < t - f) (hr : r ≤ R) : depS R r f' t' < depB R 0 d f t ∧ depB R r d f' t' < depB R 0 d f t := by
  have h1 : (t' - f') * (2 * R + 4) + (2 * R + 4) ≤ (t - f) * (2 * R + 4) := by
    have := Nat.mul_le_mul_right (2 * R + 4) (show t' - f' + 1 ≤ t - f by omega)
    rw [Nat.add_mul] at this
    omega
  unfold depS depB
  constructor
  · split <;> omega
  · split <;> omega
theorem map_sum_congr {α : Type} {l : List α} {f h : α → Nat} (e : ∀ x ∈ l, f x = h x) : (l.map f).sum = (l.map h).sum := by rw [List.map_congr_left e]
theorem cnt_stable {g : Gr} {R : Nat} {row : List Int} (hg : GrD g R) : ∀ (D : Nat),
    (∀ r s f t n m, Rk g r s → r ≤ R → 0 ≤ s → s < g.S → f ≤ t → t ≤ row.length → depS R r f t ≤ D → D < n → D < m → (cnt g row n).1 s f t = (cnt g row m).1 s f t) ∧
    (∀ r p d f t n m, (d = 0 → Rk g r (headAt g p)) → r ≤ R → p < g.ps.length → d ≤ (bodyAt g p).length → f ≤ t → t ≤ row.length → depB R r d f t ≤ D → D < n → D < m → (cnt g row n).2 p d f t = (cnt g row m).2 p d f t) := by
  intro D
  induction D using Nat.strongRecOn with
  | _ D ih =>
    constructor
    · intro r s f t n m hr hrR h0 h1 hft ht hD hn hm
      obtain ⟨n, rfl⟩ : ∃ k, n = k + 1 := ⟨n - 1, by omega⟩
      obtain ⟨m, rfl⟩ : ∃ k, m = k + 1 := ⟨m - 1, by omega⟩
      show symEq g row (cnt g row n).2 s f t = symEq g row (cnt g row m).2 s f t
      unfold symEq
      split
      · rfl
      · refine map_sum_congr fun p hp => ?_
        have hp' := List.mem_range.1 hp
        split
        · rename_i hh
          have hlt : depB R r 0 f t < D := by unfold depS at hD; unfold depB; simp only [if_true]; omega
          exact (ih (depB R r 0 f t) hlt).2 r p 0 f t n m (fun _ => by rw [hh]; exact hr) hrR hp' (by omega) hft ht (Nat.le_refl _) (by omega) (by omega)
        · rfl
    · intro r p d f t n m hr hrR hp hd hft ht hD hn hm
      obtain ⟨n, rfl⟩ : ∃ k, n = k + 1 := ⟨n - 1, by omega⟩
      obtain ⟨m, rfl⟩ : ∃ k, m = k + 1 := ⟨m - 1, by omega⟩
      show bodyEq g (cnt g row n).1 (cnt g row n).2 p d f t = bodyEq g (cnt g row m).1 (cnt g row m).2 p d f t
      unfold bodyEq
      split
      · rfl
      split
      · rfl
      split
      · rename_i h1 h2 h3
        have hb := hg.body hp (show d < (bodyAt g p).length by omega)
        by_cases hd0 : d = 0
        · subst hd0
          obtain ⟨r', rfl, hr'⟩ := hg.unit hp (hr rfl) (by omega)
          have hlt : depS R r' f t < D := by unfold depB at hD; simp only [if_true] at hD; unfold depS; omega
          exact (ih _ hlt).1 r' _ f t n m hr' (by omega) hb.1 hb.2 hft ht (Nat.le_refl _) (by omega) (by omega)
        · have hlt : depS R R f t < D := by unfold depB at hD; rw [if_neg hd0] at hD; unfold depS; omega
          exact (ih _ hlt).1 R _ f t n m (hg.rk _ hb.1 hb.2) (Nat.le_refl _) hb.1 hb.2 hft ht (Nat.le_refl _) (by omega) (by omega)
      · rename_i h1 h2 h3
        refine map_sum_congr fun i hi => ?_
        have hi' := List.mem_range.1 hi
        have hb := hg.body hp (show d < (bodyAt g p).length by omega)
        have hbase : depB R 0 d f t ≤ D := by unfold depB at hD ⊢; split at hD <;> rename_i hd0 <;> simp only [hd0, if_true, if_false] <;> omega
        have hbase1 : ∀ q, q < depB R 0 d f t → q < D := fun q hq => by omega
        have e1 := hbase1 _ (dep_short (R := R) (r := R) (d := d) (f := f) (t := t) (f' := f) (t' := f + 1 + i) (by omega) (Nat.le_refl _)).1
        have e2 : depB R 0 (d + 1) (f + 1 + i) t < D := by
          have h5 := (dep_short (R := R) (r := R) (d := d) (f := f) (t := t) (f' := f + 1 + i) (t' := t) (by omega) (Nat.le_refl _)).1
          have h6 : depB R 0 (d + 1) (f + 1 + i) t ≤ depS R R (f + 1 + i) t + 1 := by unfold depB depS; rw [if_neg (by omega)]; omega
          have h7 : depS R R (f + 1 + i) t + 1 < depB R 0 d f t := by
            have h1 : (t - (f + 1 + i)) * (2 * R + 4) + (2 * R + 4) ≤ (t - f) * (2 * R + 4) := by
              have := Nat.mul_le_mul_right (2 * R + 4) (show t - (f + 1 + i) + 1 ≤ t - f by omega)
              rw [Nat.add_mul] at this
              omega
            unfold depS depB
            split <;> omega
          omega
        rw [(ih _ e1).1 R _ f (f + 1 + i) n m (hg.rk _ hb.1 hb.2) (Nat.le_refl _) hb.1 hb.2 (by omega) (by omega) (Nat.le_refl _) (by omega) (by omega),
          (ih _ e2).2 0 p (d + 1) (f + 1 + i) t n m (fun h => by omega) (Nat.zero_le _) hp (by omega) (by omega) ht (Nat.le_refl _) (by omega) (by omega)]
def depN (R len : Nat) : Nat := len * (2 * R + 4) + 2 * R + 3
theorem depS_le {R r f t len : Nat} (hr : r ≤ R) (ht : t ≤ len) : depS R r f t < depN R len := by
  unfold depS depN
  have := Nat.mul_le_mul_right (2 * R + 4) (show t - f ≤ len by omega)
  omega
theorem depB_le {R r d f t len : Nat} (hr : r ≤ R) (ht : t ≤ len) : depB R r d f t < depN R len := by
  unfold depB depN
  have := Nat.mul_le_mul_right (2 * R + 4) (show t - f ≤ len by omega)
  split <;> omega
noncomputable def rankOf (g : Gr) : Nat := @dite _ (∃ R, ∀ s, 0 ≤ s → s < g.S → Rk g R s) (Classical.propDecidable _) (fun h => Classical.choose h) (fun _ => 0)
theorem rankOf_spec {g : Gr} (h : ∃ R, ∀ s, 0 ≤ s → s < g.S → Rk g R s) : ∀ s, 0 ≤ s → s < g.S → Rk g (rankOf g) s := by
  unfold rankOf
  rw [dif_pos h]
  exact Classical.choose_spec h
noncomputable def numS (g : Gr) (row : List Int) : Int → Nat → Nat → Nat := (cnt g row (depN (rankOf g) row.length)).1
noncomputable def numB (g : Gr) (row : List Int) : Nat → Nat → Nat → Nat → Nat := (cnt g row (depN (rankOf g) row.length)).2
theorem GrD.of_check {g : Gr} (h : checkI g = 0) : GrD g (rankOf g) := by
  obtain ⟨h1, h2, h3, h4⟩ := checkI_zero h
  exact ⟨GrIn.ok h, fun p hp => (h2 p hp).1, rankOf_spec (ranked (GrIn.ok h) h4 (fun p hp => (h2 p hp).1))⟩
theorem num_eval {g : Gr} {row : List Int} {R n : Nat} (hg : GrD g R) (hn : depN R row.length ≤ n) {s : Int} {f t : Nat} (h0 : 0 ≤ s) (h1 : s < g.S) (hft : f ≤ t) (ht : t ≤ row.length) : numS g row s f t = (cnt g row n).1 s f t := by
  have hg' : GrD g (rankOf g) := ⟨hg.ok, hg.ne, rankOf_spec ⟨R, hg.rk⟩⟩
  have a := (cnt_stable (row := row) hg (depS R R f t)).1 R s f t n (max n (depN (rankOf g) row.length)) (hg.rk s h0 h1) (Nat.le_refl _) h0 h1 hft ht (Nat.le_refl _) (Nat.lt_of_lt_of_le (depS_le (Nat.le_refl _) ht) hn)
    (Nat.lt_of_lt_of_le (Nat.lt_of_lt_of_le (depS_le (Nat.le_refl _) ht) hn) (Nat.le_max_left _ _))
  have b := (cnt_stable (row := row) hg' (depS (rankOf g) (rankOf g) f t)).1 (rankOf g) s f t (depN (rankOf g) row.length) (max n (depN (rankOf g) row.length)) (hg'.rk s h0 h1) (Nat.le_refl _) h0 h1 hft ht (Nat.le_refl _) (depS_le (Nat.le_refl _) ht)
    (Nat.lt_of_lt_of_le (depS_le (Nat.le_refl _) ht) (Nat.le_max_right _ _))
  unfold numS
  rw [b, ← a]
theorem numS_eq {g : Gr} {row : List Int} (hg : GrD g (rankOf g)) {s : Int} {f t : Nat} (h0 : 0 ≤ s) (h1 : s < g.S) (hft : f ≤ t) (ht : t ≤ row.length) : numS g row s f t = symEq g row (numB g row) s f t := by
  rw [num_eval (n := depN (rankOf g) row.length + 1) hg (Nat.le_succ _) h0 h1 hft ht]
  rfl
theorem numB_eq {g : Gr} {row : List Int} (hg : GrD g (rankOf g)) {p d f t : Nat} (hp : p < g.ps.length) (hd : d ≤ (bodyAt g p).length) (hft : f ≤ t) (ht : t ≤ row.length) : numB g row p d f t = bodyEq g (numS g row) (numB g row) p d f t := by
  have hh := hg.head hp
  have hT := hg.ok.t0
  have b := (cnt_stable (row := row) hg (depB (rankOf g) (rankOf g) d f t)).2 (rankOf g) p d f t (depN (rankOf g) row.length) (depN (rankOf g) row.length + 1) (fun _ => hg.rk _ (by omega) hh.2) (Nat.le_refl _) hp hd hft ht (Nat.le_refl _) (depB_le (Nat.le_refl _) ht)
    (Nat.lt_succ_of_lt (depB_le (Nat.le_refl _) ht))
  unfold numB numS
  rw [b]
  rfl
def cap (n : Nat) : Int := ((min n 1073741825 : Nat) : Int)
theorem cap_range (n : Nat) : 0 ≤ cap n ∧ cap n ≤ 1073741825 := by unfold cap; omega
theorem cap_pos (n : Nat) : 0 < cap n ↔ 0 < n := by unfold cap; omega
theorem cap_add (a b : Nat) : (if cap a + cap b < 1073741825 then cap a + cap b else 1073741825) = cap (a + b) := by unfold cap; split <;> omega
theorem cap_zero : cap 0 = 0 := rfl
theorem cap_one : cap 1 = 1 := rfl
theorem cap_mul (a b : Nat) : cap (a * b) = ((min (min a 1073741825 * min b 1073741825) 1073741825 : Nat) : Int) := by
  unfold cap
  congr 1
  by_cases ha : a ≤ 1073741825
  · rw [Nat.min_eq_left ha]
    by_cases hb : b ≤ 1073741825
    · rw [Nat.min_eq_left hb]
    · rw [Nat.min_eq_right (show 1073741825 ≤ b by omega)]
      rcases Nat.eq_zero_or_pos a with h | h
      · subst h; simp
      · have h1 := Nat.mul_le_mul h (show 1073741825 ≤ b by omega)
        have h2 := Nat.mul_le_mul h (Nat.le_refl 1073741825)
        omega
  · rw [Nat.min_eq_right (show 1073741825 ≤ a by omega)]
    rcases Nat.eq_zero_or_pos b with h | h
    · subst h; simp
    · have h1 := Nat.mul_le_mul (show 1073741825 ≤ a by omega) h
      have h2 := Nat.mul_le_mul (Nat.le_refl 1073741825) (show 1 ≤ min b 1073741825 by omega)
      omega
end Go.Proofs.Ytadabkkkalgehaa.H
namespace Go.Proofs.Ytadabkkkalgehaa.H
open Go.RowKit
set_option linter.unusedVariables false
set_option linter.unusedSimpArgs false
theorem laidOutH : laidOutB Try.prog = true := by kernel_rfl
structure KeyEnc (P : Program) (K : TypeId) (κ : Type) where
  kv : κ → Value
  ok : κ → Prop
  lit : κ → Lit
  key : ∀ k, ok k → keyOf P K (kv k) = some (lit k)
  inj : ∀ a b, ok a → ok b → kv a = kv b → a = b
section
variable {P : Program} {K t e : TypeId} {κ : Type}
theorem KeyEnc.lit_inj (E : KeyEnc P K κ) (L : Maps.Keyed P K) {a b : κ} (ha : E.ok a) (hb : E.ok b) (h : E.lit a = E.lit b) : a = b :=
  E.inj a b ha hb (L.inj (E.key a ha) (by rw [h]; exact E.key b hb))
def MapI (E : KeyEnc P K κ) (e : TypeId) (box : List κ) (w : World) (b : Nat) (m : κ → Option Int) : Prop :=
  ∃ D : DataW Unit, w.ownsMap P K (plainElem P e) b (Maps.size D) D ∧ (∀ l, Maps.has D l = true → ∃ k ∈ box, E.ok k ∧ E.lit k = l) ∧
    ∀ k, E.ok k → (∀ z, D.atKey (E.lit k) z = match m k with | some v => .lit (.int .i64 v) | none => z) ∧ Maps.has D (E.lit k) = (m k).isSome
theorem nodup_sub {α : Type} : ∀ (l L : List α), l.Pairwise (· ≠ ·) → (∀ x ∈ l, x ∈ L) → l.length ≤ L.length := by
  intro l
  induction l with
  | nil => intro L _ _; simp
  | cons x l ih =>
    intro L hp hs
    classical
    have hx : x ∈ L := hs x (by simp)
    obtain ⟨s, t, rfl⟩ := List.append_of_mem hx
    have := ih (s ++ t) (List.pairwise_cons.1 hp).2 (fun y hy => by
      have hne := (List.pairwise_cons.1 hp).1 y hy
      have := hs y (List.mem_cons_of_mem _ hy)
      simp only [List.mem_append, List.mem_cons] at this ⊢
      rcases this with h | h | h
      · exact .inl h
      · exact absurd h.symm hne
      · exact .inr h)
    simp only [List.length_append, List.length_cons] at this ⊢
    omega
theorem own_size_le {E : KeyEnc P K κ} {box : List κ} {w : World} {b n : Nat} {D : DataW Unit} (L : Maps.Keyed P K) (h : w.ownsMap P K (plainElem P e) b n D) (hs : ∀ l, Maps.has D l = true → ∃ k ∈ box, E.ok k ∧ E.lit k = l) : Maps.size D ≤ box.length := by
  obtain ⟨es, rfl, hp, hk⟩ := h.canon L
  rw [Maps.size_eq]
  have := nodup_sub (es.map (·.1)) (box.map E.lit) (List.pairwise_map.2 (Maps.apart_of_rising hp)) (fun x hx => by
    obtain ⟨p, hpm, rfl⟩ := List.mem_map.1 hx
    have hh : Maps.has (.map es) p.1 = true := by
      rw [Maps.has_eq, List.any_eq_true]
      exact ⟨p, hpm, WideAt.sameKey_self (hk p hpm)⟩
    obtain ⟨k, hkb, _, hl⟩ := hs _ hh
    exact List.mem_map.2 ⟨k, hkb, hl⟩)
  simpa using this
theorem own_tight {w : World} {b n : Nat} {D : DataW Unit} {R : Value → Option (DataW Unit × List MemPlace)} (h : w.ownsMap P K R b n D) : w.ownsMap P K R b (Maps.size D) D := by
  obtain ⟨es, clock, hb, F, hs, rfl⟩ := h
  exact ⟨es, clock, hb, F, by rw [Maps.size_eq, length_sorted]; simp, rfl⟩
variable {E : KeyEnc P K κ} {box : List κ} {w w' : World} {b : Nat} {m : κ → Option Int}
theorem MapI.made (E : KeyEnc P K κ) (e : TypeId) (box : List κ) (w : World) : MapI E e box (w.alloc (.map #[] 0)) w.heap.size (fun _ => none) :=
  ⟨.map [], own_tight (World.ownsMap_made w P K _), fun l h => by simp [Maps.has] at h, fun k _ => ⟨fun z => rfl, rfl⟩⟩
theorem MapI.lt (h : MapI E e box w b m) : b < w.heap.size := by obtain ⟨D, h1, _⟩ := h; exact h1.lt
theorem MapI.move (h : MapI E e box w b m) (hb : w'.heap[b]? = w.heap[b]?) : MapI E e box w' b m := by
  obtain ⟨D, ⟨es, clock, h1, h2⟩, h3⟩ := h
  exact ⟨D, ⟨es, clock, hb.trans h1, h2⟩, h3⟩
theorem MapI.grown {row : Option Nat} (h : MapI E e box w b m) (hg : w.grownBy w' row) (hne : some b ≠ row) : MapI E e box w' b m := h.move (hg.block b h.lt hne)
theorem MapI.below {B : Nat} (h : MapI E e box w b m) (hb : Below B w w') (hB : b < B) : MapI E e box w' b m := h.move (hb.block b hB)
theorem MapI.alloc (h : MapI E e box w b m) (o : Obj) : MapI E e box (w.alloc o) b m := h.grown (World.grownBy_alloc w o none) (by simp)
theorem MapI.look_ok (h : MapI E e box w b m) (L : Maps.Keyed P K) (ht : P.underlying t = some (.map K e)) (he : P.underlying e = some (.int .i64)) (hz : (zeroValue e).run P w = .ok (.int .i64 0) w) (k : κ) (hk : E.ok k) :
    (Instr.lookup t (.map (some b)) (E.kv k) true).run P w = .ok (.tuple #[.int .i64 ((m k).getD 0), .bool (m k).isSome]) w := by
  obtain ⟨D, h1, _, h3⟩ := h
  have hw0 : (Lit.int .i64 0).wf = true := by decide
  obtain ⟨v, ps, hrun, hv⟩ := h1.look_ok L ht hz (plainElem_int he hw0) (E.key k hk)
  obtain ⟨c, rfl, hc, _⟩ := plainElem_int_inv he hv
  simp only [Prod.mk.injEq] at hc
  have hat := hc.1
  rw [(h3 k hk).1] at hat
  rw [hrun, (h3 k hk).2]
  cases hm : m k with
  | none => rw [hm] at hat; simp only [DataW.lit.injEq, Lit.int.injEq, true_and] at hat; rw [← hat]; rfl
  | some v => rw [hm] at hat; simp only [DataW.lit.injEq, Lit.int.injEq, true_and] at hat; rw [← hat]; rfl
noncomputable def put {κ : Type} (m : κ → Option Int) (k : κ) (v : Option Int) : κ → Option Int := fun x => @ite _ (x = k) (Classical.propDecidable _) v (m x)
theorem put_same {κ : Type} (m : κ → Option Int) (k : κ) (v : Option Int) : put m k v k = v := by simp [put]
theorem put_other {κ : Type} (m : κ → Option Int) {k x : κ} (v : Option Int) (h : x ≠ k) : put m k v x = m x := by simp [put, h]
theorem MapI.store (h : MapI E e box w b m) (L : Maps.Keyed P K) (ht : P.underlying t = some (.map K e)) (he : P.underlying e = some (.int .i64)) (hbox : box.length < maxLen) (k : κ) (hk : E.ok k) (hkb : k ∈ box) (v : Int) (hv : (Lit.int .i64 v).wf = true) :
    ∃ w', (Instr.mapUpdate t (.map (some b)) (E.kv k) (.int .i64 v)).run P w = .ok () w' ∧ MapI E e box w' b (put m k (some v)) ∧ w.grownBy w' (some b) := by
  obtain ⟨D, h1, h2, h3⟩ := h
  have hn := own_size_le L h1 h2
  obtain ⟨w', hrun, ho, hg⟩ := h1.update L ht (Nat.lt_of_le_of_lt hn hbox) (E.key k hk) (plainElem_int he hv)
  have hkl : WideAt.IsKeyLit (E.lit k) := L.key (E.key k hk)
  have hD := h1.isMap
  refine ⟨w', hrun, ⟨_, own_tight ho, fun l hl => ?_, fun x hx => ?_⟩, hg⟩
  · by_cases hlk : l = E.lit k
    · exact ⟨k, hkb, hk, hlk.symm⟩
    · rw [Maps.has_put_other hlk] at hl
      exact h2 l hl
  · by_cases hxk : x = k
    · subst hxk
      rw [put_same]
      exact ⟨fun z => Maps.atKey_put_same hD hkl _ z, Maps.has_put_same hD hkl _⟩
    · rw [put_other _ _ hxk]
      have hne : E.lit x ≠ E.lit k := fun e => hxk (E.lit_inj L hx hk e)
      exact ⟨fun z => by rw [Maps.atKey_put_other hne]; exact (h3 x hx).1 z, by rw [Maps.has_put_other hne]; exact (h3 x hx).2⟩
theorem MapI.drop (h : MapI E e box w b m) (L : Maps.Keyed P K) (ht : P.underlying t = some (.map K e)) (k : κ) (hk : E.ok k) (ty : TypeId) :
    ∃ w', (Builtin.delete_ #[t, K] ty #[.map (some b), E.kv k]).run P w = .ok (.tuple #[]) w' ∧ MapI E e box w' b (put m k none) ∧ w.grownBy w' (some b) := by
  obtain ⟨D, h1, h2, h3⟩ := h
  obtain ⟨w', hrun, ho, hg⟩ := h1.drop L ht (E.key k hk) ty
  refine ⟨w', hrun, ⟨_, own_tight ho, fun l hl => ?_, fun x hx => ?_⟩, hg.grown⟩
  · by_cases hlk : l = E.lit k
    · rw [hlk, Maps.has_del_same] at hl; cases hl
    · rw [Maps.has_del_other hlk] at hl
      exact h2 l hl
  · by_cases hxk : x = k
    · subst hxk
      rw [put_same]
      exact ⟨fun z => Maps.atKey_del_same z, Maps.has_del_same⟩
    · rw [put_other _ _ hxk]
      have hne : E.lit x ≠ E.lit k := fun e => hxk (E.lit_inj L hx hk e)
      exact ⟨fun z => by rw [Maps.atKey_del_other hne]; exact (h3 x hx).1 z, by rw [Maps.has_del_other hne]; exact (h3 x hx).2⟩
end
structure K4 where
  a : Int
  b : Int
  c : Int
  d : Int
def K4.v (k : K4) : Value := .agg #[.int .i64 k.a, .int .i64 k.b, .int .i64 k.c, .int .i64 k.d]
def I64 (x : Int) : Prop := (Lit.int .i64 x).wf = true
def K4.ok (k : K4) : Prop := I64 k.a ∧ I64 k.b ∧ I64 k.c ∧ I64 k.d
def K4.lit (k : K4) : Lit := .string (keyBytes [.int .i64 k.a, .int .i64 k.b, .int .i64 k.c, .int .i64 k.d])
theorem stretch_wide : (match Try.prog.underlying 74 with | some (.array _ _) | some (.struct _) => true | _ => false) = true := by kernel_rfl
theorem stretch_row : (74 : TypeId) < Try.prog.types.size := of_decide_eq_true (by kernel_rfl)
theorem stretch_law : Maps.Keyed Try.prog 74 := Maps.Keyed.of_law (deep_law_laid laidOutH (m := 2) (by omega) stretch_row (by kernel_rfl) stretch_wide)
theorem stretch_cells : Try.prog.cellsOf 74 = 4 := by kernel_rfl
theorem stretch_type : Try.prog.keyType 74 = true := by kernel_rfl
theorem int_cells : Try.prog.cellsOf 3 = 1 := by kernel_rfl
theorem stretch_key (k : K4) (h : k.ok) : keyOf Try.prog 74 k.v = some k.lit := by
  obtain ⟨h1, h2, h3, h4⟩ := h
  obtain ⟨a, b, c, d⟩ := k
  unfold I64 at *
  dsimp only at *
  obtain ⟨n, hn⟩ : ∃ n, Try.prog.types.size = n + 1 := Nat.exists_eq_succ_of_ne_zero (fun h => by have := stretch_row; rw [h] at this; exact absurd this (Nat.not_lt_zero _))
  unfold keyOf
  simp only [Try.underlying74]
  rw [hn]
  simp [stretch_type, Value.formed, Try.underlying74, stretch_cells, K4.v, K4.lit, Value.cells, Program.keyLits, Try.underlying3, int_cells, h1, h2, h3, h4]
def stretchE : KeyEnc Try.prog 74 K4 where
  kv := K4.v
  ok := K4.ok
  lit := K4.lit
  key := stretch_key
  inj := fun a b _ _ h => by
    obtain ⟨a1, a2, a3, a4⟩ := a
    obtain ⟨b1, b2, b3, b4⟩ := b
    simpa [K4.v] using h
end Go.Proofs.Ytadabkkkalgehaa.H
namespace Go.Proofs.Ytadabkkkalgehaa.H
open Go.RowKit
set_option linter.unusedVariables false
set_option linter.unusedSimpArgs false
theorem min_ints (k k' : IntKind) (x y : Int) : Builtin.min2 (.int k x) (.int k' y) = pure (.int k (if y < x then y else x)) := by simp only [Builtin.min2]
theorem min_pair (ats : Array TypeId) (ty : TypeId) (a b : Value) : Builtin.min_ ats ty #[a, b] = (Builtin.min2 a b >>= fun s => pure s) := by simp only [Builtin.min_, List.foldlM_cons, List.foldlM_nil]
def boxK : List K4 := (List.range 65).flatMap fun (a : Nat) => (List.range 64).flatMap fun (b : Nat) => (List.range 65).flatMap fun (c : Nat) => (List.range 65).map fun (d : Nat) => (⟨(a : Int) - 1, (b : Int), (c : Int), (d : Int)⟩ : K4)
theorem flatMap_len {α β : Type} {n : Nat} (l : List α) (f : α → List β) (h : ∀ x, (f x).length = n) : (l.flatMap f).length = l.length * n := by
  induction l with
  | nil => simp
  | cons x l ih => rw [List.flatMap_cons, List.length_append, h, ih, List.length_cons, Nat.add_mul]; omega
theorem boxK_len : boxK.length < maxLen := by
  unfold boxK
  rw [flatMap_len (n := 64 * (65 * 65)) _ _ (fun a => by rw [flatMap_len (n := 65 * 65) _ _ (fun b => by rw [flatMap_len (n := 65) _ _ (fun c => by rw [List.length_map, List.length_range]), List.length_range]), List.length_range])]
  rw [List.length_range]
  decide
theorem mem_boxK {a b c d : Int} (ha : -1 ≤ a ∧ a < 64) (hb : 0 ≤ b ∧ b < 64) (hc : 0 ≤ c ∧ c ≤ 64) (hd : 0 ≤ d ∧ d ≤ 64) : (⟨a, b, c, d⟩ : K4) ∈ boxK := by
  unfold boxK
  refine List.mem_flatMap.2 ⟨(a + 1).toNat, List.mem_range.2 (show (a + 1).toNat < 65 by omega), List.mem_flatMap.2 ⟨b.toNat, List.mem_range.2 (show b.toNat < 64 by omega), List.mem_flatMap.2 ⟨c.toNat, List.mem_range.2 (show c.toNat < 65 by omega), List.mem_map.2 ⟨d.toNat, List.mem_range.2 (show d.toNat < 65 by omega), ?_⟩⟩⟩⟩
  congr 1 <;> omega
theorem i64_small {x : Int} (h0 : -1 ≤ x) (h1 : x ≤ 1073741825) : I64 x := by
  unfold I64 Lit.wf
  simp [IntKind.min, IntKind.max, IntKind.bits, IntKind.signed] <;> omega
structure Cx where
  g : Gr
  row : List Int
  A : Option Addr
  c : Nat
  Ar : Option Addr
  cr : Nat
  cB : Nat
  kB : Nat
  aB : Nat
  B0 : Nat
def Cx.cells (x : Cx) : Array Value := #[.int .i64 x.g.T, .int .i64 x.g.S, .int .i64 x.g.st, .slice x.A x.g.ps.length x.c, .slice x.Ar x.row.length x.cr, .map (some x.kB), .map (some x.aB)]
structure Ch (x : Cx) (w : World) (k a : K4 → Option Int) : Prop where
  blk : Blk w x.cB 71 x.cells
  rp : RdP w x.B0 x.A x.g.ps
  rr : Rd eI 1 w x.B0 x.Ar x.row
  mpk : MapI stretchE 3 boxK w x.kB k
  mpa : MapI stretchE 3 boxK w x.aB a
  nk : x.B0 ≤ x.kB
  na : x.B0 ≤ x.aB
  nc : x.B0 ≤ x.cB
  ck : x.cB ≠ x.kB
  ca : x.cB ≠ x.aB
  ka : x.kB ≠ x.aB
section
variable {x : Cx} {w w' : World} {k a : K4 → Option Int}
theorem Rd.grown {α : Type} {enc : α → List Value} {n : Nat} {B : Nat} {A : Option Addr} {xs : List α} {row : Option Nat} (h : Rd enc n w B A xs) (hg : w.grownBy w' row) (hr : ∀ b, row = some b → B ≤ b) (hB : B ≤ w.heap.size) : Rd enc n w' B A xs :=
  h.below ⟨hg.os, hg.tape, hg.output, by have := hg.size; omega, fun i hi => hg.block i (by omega) (fun e => by have := hr i e.symm; omega)⟩
theorem RdP.grown {B : Nat} {A : Option Addr} {ps : List Pr} {row : Option Nat} (h : RdP w B A ps) (hg : w.grownBy w' row) (hr : ∀ b, row = some b → B ≤ b) (hB : B ≤ w.heap.size) : RdP w' B A ps :=
  h.below ⟨hg.os, hg.tape, hg.output, by have := hg.size; omega, fun i hi => hg.block i (by omega) (fun e => by have := hr i e.symm; omega)⟩
theorem Ch.still (h : Ch x w k a) (hb : Below w.heap.size w w') : Ch x w' k a :=
  ⟨h.blk.below hb h.blk.lt, h.rp.below (hb.mono (Nat.le_trans h.nc (Nat.le_of_lt h.blk.lt))), h.rr.below (hb.mono (Nat.le_trans h.nc (Nat.le_of_lt h.blk.lt))), h.mpk.below hb h.mpk.lt, h.mpa.below hb h.mpa.lt, h.nk, h.na, h.nc, h.ck, h.ca, h.ka⟩
theorem Ch.alloc (h : Ch x w k a) (o : Obj) : Ch x (w.alloc o) k a := h.still ((Below.refl _ _).alloc (Nat.le_refl _) o)
theorem Ch.drew (h : Ch x w k a) : Ch x w.drew k a := h.still (below_drew1 (Below.refl _ _))
theorem Ch.setK {k' : K4 → Option Int} (h : Ch x w k a) (hm : MapI stretchE 3 boxK w' x.kB k') (hg : w.grownBy w' (some x.kB)) : Ch x w' k' a :=
  have hB : x.B0 ≤ w.heap.size := Nat.le_trans h.nc (Nat.le_of_lt h.blk.lt)
  ⟨h.blk.grown hg (by simp [h.ck]), h.rp.grown hg (fun b e => by injection e with e; subst e; exact h.nk) hB, h.rr.grown hg (fun b e => by injection e with e; subst e; exact h.nk) hB, hm, h.mpa.grown hg (by simpa using fun e => h.ka e.symm), h.nk, h.na, h.nc, h.ck, h.ca, h.ka⟩
theorem Ch.setA {a' : K4 → Option Int} (h : Ch x w k a) (hm : MapI stretchE 3 boxK w' x.aB a') (hg : w.grownBy w' (some x.aB)) : Ch x w' k a' :=
  have hB : x.B0 ≤ w.heap.size := Nat.le_trans h.nc (Nat.le_of_lt h.blk.lt)
  ⟨h.blk.grown hg (by simp [h.ca]), h.rp.grown hg (fun b e => by injection e with e; subst e; exact h.na) hB, h.rr.grown hg (fun b e => by injection e with e; subst e; exact h.na) hB, h.mpk.grown hg (by simp [h.ka]), hm, h.nk, h.na, h.nc, h.ck, h.ca, h.ka⟩
theorem Ch.cell (h : Ch x w k a) (i : Nat) : w.cell? ⟨x.cB, i, none⟩ = x.cells[i]? := h.blk.cell i
theorem Ch.size (h : Ch x w k a) : x.B0 ≤ w.heap.size := Nat.le_trans h.nc (Nat.le_of_lt h.blk.lt)
end
theorem zero_int (w : World) : (zeroValue 3).run Try.prog w = .ok (.int .i64 0) w := by kernel_rfl
def Gk (x : Cx) (w w' : World) : Prop := w.grownBy w' (some x.kB)
theorem Gk.refl (x : Cx) (w : World) : Gk x w w := World.grownBy.refl w _
theorem Gk.trans {x : Cx} {a b c : World} (h : Gk x a b) (k : Gk x b c) : Gk x a c := World.grownBy.trans h k
theorem Gk.below {x : Cx} {w w' : World} (h : Below w.heap.size w w') : Gk x w w' := ⟨h.os, h.tape, h.output, h.size, fun i hi _ => h.block i hi⟩
theorem Gk.low {x : Cx} {w w' : World} (h : Gk x w w') (hk : x.B0 ≤ x.kB) (hB : x.B0 ≤ w.heap.size) : Below x.B0 w w' := ⟨h.os, h.tape, h.output, by have := h.size; omega, fun i hi => h.block i (by omega) (fun e => by injection e with e; omega)⟩
theorem Gk.blk {x : Cx} {w w' : World} {b : Nat} {t : TypeId} {cs : Array Value} (h : Gk x w w') (hb : Blk w b t cs) (hne : b ≠ x.kB) : Blk w' b t cs := hb.grown h (by simp [hne])
end Go.Proofs.Ytadabkkkalgehaa.H
namespace Go.Proofs.Ytadabkkkalgehaa.H
open Go.RowKit
set_option linter.unusedVariables false
set_option linter.unusedSimpArgs false
attribute [local go_sem] min_ints min_pair
def Kn (x : Cx) (k : K4 → Option Int) : Prop := ∀ q v, k q = some v → ∃ p d f t : Nat, q = ⟨p, d, f, t⟩ ∧ p < x.g.ps.length ∧ d ≤ (bodyAt x.g p).length ∧ f ≤ t ∧ t ≤ x.row.length ∧ v = cap (numB x.g x.row p d f t)
def RetN (x : Cx) (n : Nat) (a : K4 → Option Int) (w : World) (e : Ending) (w' : World) : Prop :=
  e = .returned (.int .i64 (cap n)) ∧ ∃ k', Ch x w' k' a ∧ Kn x k' ∧ Gk x w w'
def SymC (x : Cx) (D : Nat) : Prop := ∀ (r : Nat) (s : Int) (f t : Nat) (w : World) (k a : K4 → Option Int), Rk x.g r s → r ≤ rankOf x.g → 0 ≤ s → s < x.g.S → f ≤ t → t ≤ x.row.length → depS (rankOf x.g) r f t ≤ D → Ch x w k a → Kn x k →
  Calls Try.prog 32 #[.pointer (some ⟨x.cB, 0, none⟩), .int .i64 s, .int .i64 f, .int .i64 t] w (RetN x (numS x.g x.row s f t) a w)
def BodyC (x : Cx) (D : Nat) : Prop := ∀ (r p d f t : Nat) (w : World) (k a : K4 → Option Int), (d = 0 → Rk x.g r (headAt x.g p)) → r ≤ rankOf x.g → p < x.g.ps.length → d ≤ (bodyAt x.g p).length → f ≤ t → t ≤ x.row.length → depB (rankOf x.g) r d f t ≤ D → Ch x w k a → Kn x k →
  Calls Try.prog 43 #[.pointer (some ⟨x.cB, 0, none⟩), .int .i64 p, .int .i64 d, .int .i64 f, .int .i64 t] w (RetN x (numB x.g x.row p d f t) a w)
theorem times_any (m n : Nat) (w : World) : Calls Try.prog 58 #[.int .i64 (cap m), .int .i64 (cap n)] w fun e w' => e = .returned (.int .i64 (cap (m * n))) ∧ w = w' := by
  have hm := cap_range m
  have hn := cap_range n
  have hmul : cap (m * n) = if cap m * cap n < 1073741825 then cap m * cap n else 1073741825 := by
    rw [cap_mul]
    have e : cap m * cap n = ((min m 1073741825 * min n 1073741825 : Nat) : Int) := by unfold cap; rw [Int.natCast_mul]
    rw [e]
    split <;> omega
  generalize cap (m * n) = z at *
  generalize cap m = a at *
  generalize cap n = b at *
  by_cases hb : 0 < b
  · by_cases h : 1073741825 / b < a
    · have hz : z = 1073741825 := by
        rw [hmul, if_neg]
        intro hlt
        have h1 : 1073741825 / b * b + 1073741825 % b = 1073741825 := by rw [Int.mul_comm]; exact Int.mul_ediv_add_emod 1073741825 b
        have h2 := Int.emod_lt_of_pos 1073741825 hb
        have h3 : (1073741825 / b + 1) * b ≤ a * b := Int.mul_le_mul_of_nonneg_right (by omega) (by omega)
        rw [Int.add_mul] at h3
        omega
      subst hz
      clear hmul
      have hq0 : 0 ≤ 1073741825 / b := Int.ediv_nonneg (by omega) (by omega)
      have hq1 : 1073741825 / b ≤ 1073741825 := Int.ediv_le_self _ (by omega)
      go_enter Try.func58, Try.ntmps58
      go_wp2
      go_ret
      exact ⟨rfl, rfl⟩
    · have hz : z = a * b := by
        rw [hmul]
        have h3 : a * b ≤ 1073741825 / b * b := Int.mul_le_mul_of_nonneg_right (by omega) (by omega)
        have h4 := Int.ediv_mul_le 1073741825 (show b ≠ 0 by omega)
        split <;> omega
      have hz2 : 0 ≤ a * b ∧ a * b ≤ 1073741825 := by
        have h3 : a * b ≤ 1073741825 / b * b := Int.mul_le_mul_of_nonneg_right (by omega) (by omega)
        have h4 := Int.ediv_mul_le 1073741825 (show b ≠ 0 by omega)
        have := Int.mul_nonneg (show 0 ≤ a by omega) (show 0 ≤ b by omega)
        omega
      subst hz
      clear hmul
      have hq0 : 0 ≤ 1073741825 / b := Int.ediv_nonneg (by omega) (by omega)
      have hq1 : 1073741825 / b ≤ 1073741825 := Int.ediv_le_self _ (by omega)
      obtain ⟨hz3, hz4⟩ := hz2
      go_enter Try.func58, Try.ntmps58
      go_wp2
      go_ret
      exact ⟨rfl, rfl⟩
  · obtain rfl : b = 0 := by omega
    have hz : z = 0 := by rw [hmul, Int.mul_zero]; rfl
    subst hz
    clear hmul
    go_enter Try.func58, Try.ntmps58
    go_wp2
    go_ret
    exact ⟨by simp, rfl⟩
set_option maxRecDepth 100000 in
set_option maxHeartbeats 4000000 in
theorem symbol_term (x : Cx) (hg : GrD x.g (rankOf x.g)) (hrow : x.row.length ≤ 64) (s : Int) (f t : Nat) (w : World) (k a : K4 → Option Int) (h0 : 0 ≤ s) (h1 : s < x.g.S) (hft : f ≤ t) (ht : t ≤ x.row.length) (HC : Ch x w k a) (HK : Kn x k) (hT : s < x.g.T) :
    Calls Try.prog 32 #[.pointer (some ⟨x.cB, 0, none⟩), .int .i64 s, .int .i64 f, .int .i64 t] w (RetN x (numS x.g x.row s f t) a w) := by
  have e := numS_eq (row := x.row) hg h0 h1 hft ht
  unfold symEq at e
  rw [if_pos hT] at e
  have q0 := HC.cell 0
  have q4 := HC.cell 4
  simp [Cx.cells] at q0 q4
  have HC' := Keep.mk HC
  have HK' := Keep.mk HK
  clear HK
  by_cases h2 : t = f + 1
  · subst h2
    obtain ⟨ad, ea, hb, hc⟩ := HC.rr.int f (by omega)
    rw [ea] at q4
    have hrf : x.row[f]? = some x.row[f] := List.getElem?_eq_getElem _
    rw [hrf] at e
    generalize x.row[f] = y at *
    have t1 : (((f + 1 : Nat) : Int) - (f : Int) == 1) = true := by simp; omega
    have i1 : (0 : Int) ≤ f := by omega
    have i2 : (f : Int) < x.row.length := by omega
    clear HC hrf
    by_cases h3 : y = s
    · subst h3
      have HE : Keep (numS x.g x.row y f (f + 1) = 1) := ⟨by rw [e]; simp⟩
      clear e
      go_enter Try.func32, Try.ntmps32
      go_wp2
      go_ret
      refine ⟨?_, k, HC'.out, HK'.out, Gk.refl _ _⟩
      rw [HE.out, cap_one]; rfl
    · have t2 : (y == s) = false := by simpa using h3
      have HE : Keep (numS x.g x.row s f (f + 1) = 0) := ⟨by rw [e, if_neg]; rintro ⟨_, h⟩; injection h with h; exact h3 h⟩
      clear e h3
      go_enter Try.func32, Try.ntmps32
      go_wp2
      go_ret
      refine ⟨?_, k, HC'.out, HK'.out, Gk.refl _ _⟩
      rw [HE.out, cap_zero]; rfl
  · have t1 : ((t : Int) - (f : Int) == 1) = false := by simp; omega
    have HE : Keep (numS x.g x.row s f t = 0) := ⟨by rw [e, if_neg]; rintro ⟨h, _⟩; exact h2 h⟩
    clear e h2 HC
    go_enter Try.func32, Try.ntmps32
    go_wp2
    go_ret
    refine ⟨?_, k, HC'.out, HK'.out, Gk.refl _ _⟩
    rw [HE.out, cap_zero]; rfl
noncomputable def sumTo (g : Gr) (row : List Int) (s : Int) (f t m : Nat) : Nat := ((List.range m).map fun p => if headAt g p = s then numB g row p 0 f t else 0).sum
theorem sumTo_succ (g : Gr) (row : List Int) (s : Int) (f t m : Nat) : sumTo g row s f t (m + 1) = sumTo g row s f t m + (if headAt g m = s then numB g row m 0 f t else 0) := by
  unfold sumTo
  rw [List.range_succ, List.map_append, List.sum_append]
  simp
set_option maxRecDepth 100000 in
set_option maxHeartbeats 4000000 in
theorem symbol_head (x : Cx) (hg : GrD x.g (rankOf x.g)) (hrow : x.row.length ≤ 64) (D : Nat) (ih : ∀ D', D' < D → BodyC x D') (r : Nat) (s : Int) (f t : Nat) (w : World) (k a : K4 → Option Int) (hr : Rk x.g r s) (hrR : r ≤ rankOf x.g) (h0 : 0 ≤ s) (h1 : s < x.g.S) (hft : f ≤ t) (ht : t ≤ x.row.length) (hD : depS (rankOf x.g) r f t ≤ D) (HC : Ch x w k a) (HK : Kn x k) (hT : ¬ s < x.g.T) :
    Calls Try.prog 32 #[.pointer (some ⟨x.cB, 0, none⟩), .int .i64 s, .int .i64 f, .int .i64 t] w (RetN x (numS x.g x.row s f t) a w) := by
  have e : numS x.g x.row s f t = sumTo x.g x.row s f t x.g.ps.length := by rw [numS_eq (row := x.row) hg h0 h1 hft ht]; unfold symEq; rw [if_neg hT]; rfl
  have HE := Keep.mk e
  clear e
  have IH : Keep (∀ m, m < x.g.ps.length → headAt x.g m = s → ∀ W k', Ch x W k' a → Kn x k' → Calls Try.prog 43 #[.pointer (some ⟨x.cB, 0, none⟩), .int .i64 m, .int .i64 0, .int .i64 f, .int .i64 t] W (RetN x (numB x.g x.row m 0 f t) a W)) :=
    ⟨fun m hm hh W k' hC hK => (ih (depB (rankOf x.g) r 0 f t) (by unfold depS at hD; unfold depB; simp only [if_true]; omega)) r m 0 f t W k' a (fun _ => by rw [hh]; exact hr) hrR hm (Nat.zero_le _) hft ht (Nat.le_refl _) hC hK⟩
  have hTd : decide (s < x.g.T) = false := decide_eq_false hT
  have q0 := HC.cell 0
  have q3 := HC.cell 3
  simp [Cx.cells] at q0 q3
  obtain ⟨ad, eA0⟩ : ∃ ad, x.A = some ad := by obtain ⟨ad, _, _, e, _⟩ := HC.rp 0 hg.ok.n0; exact ⟨ad, e⟩
  rw [eA0] at q3
  have HA := Keep.mk eA0
  clear eA0
  have R0 := Keep.mk HC
  have hn64 : x.g.ps.length ≤ 64 := hg.ok.n1
  have HK' := Keep.mk HK
  have HNU := Keep.mk hg
  clear HK HC hr hD hg ih
  go_enter Try.func32, Try.ntmps32
  go_wp2
  go_loopg [9, 40] x.g.ps.length (fun gg s9 s40 wr => ∃ (m : Nat) (k' : K4 → Option Int), m ≤ x.g.ps.length ∧ x.g.ps.length - m ≤ gg ∧ s9 = .int .i64 (cap (sumTo x.g x.row s f t m)) ∧ s40 = .int .i64 (m : Int) ∧ Keep (Ch x wr k' a) ∧ Keep (Kn x k') ∧ Keep (Gk x w wr))
  case atStart => exact ⟨0, k, Nat.zero_le _, by omega, rfl, rfl, R0, HK', ⟨Gk.refl _ _⟩⟩
  case round =>
    clear R0 HK' q0 q3
    obtain ⟨m, k', hm, hgm, rfl, rfl, HC, HK, HG⟩ := hrel
    by_cases hlt : m < x.g.ps.length
    · obtain ⟨ad', Ab, cb, eA, hb, c0, c1, c2, hlb, hrb⟩ := HC.out.rp m hlt
      rw [HA.out] at eA
      injection eA with eA
      subst eA
      have hs := Keep.mk (sumTo_succ x.g x.row s f t m)
      have IHm := Keep.mk (IH.out m hlt)
      have hhd : headAt x.g m = x.g.ps[m].head := headAt_get hlt
      rw [hhd] at hs IHm
      generalize x.g.ps[m] = p at *
      obtain ⟨hd, bd, rt⟩ := p
      dsimp only at *
      have i1 : (0 : Int) ≤ m := by omega
      have i2 : (m : Int) < x.g.ps.length := by omega
      have hc1 := cap_range (sumTo x.g x.row s f t m)
      obtain ⟨wo, rfl⟩ : ∃ wo : World, wo = wr := ⟨_, rfl⟩
      have CA := Keep.mk (HC.out.alloc (.cells #[.int .i64 hd, .slice Ab bd.length cb, .bool rt] 55))
      have GA : Keep (Gk x wo (wo.alloc (.cells #[.int .i64 hd, .slice Ab bd.length cb, .bool rt] 55))) := ⟨Gk.below ((Below.refl _ _).alloc (Nat.le_refl _) _)⟩
      clear hhd
      by_cases hh : hd = s
      · subst hh
        have K1 := Keep.mk (IHm.out rfl _ k' CA.out HK.out)
        have hcb := cap_range (numB x.g x.row m 0 f t)
        have HS : Keep ((if cap (sumTo x.g x.row hd f t m) + cap (numB x.g x.row m 0 f t) < 1073741825 then cap (sumTo x.g x.row hd f t m) + cap (numB x.g x.row m 0 f t) else 1073741825) = cap (sumTo x.g x.row hd f t (m + 1))) := ⟨by rw [cap_add, hs.out, if_pos rfl]⟩
        unfold RetN at K1
        generalize cap (numB x.g x.row m 0 f t) = cb' at *
        generalize cap (sumTo x.g x.row hd f t m) = ca' at *
        go_wp2_with fail
        refine K1.out.mono ?_
        rintro e w' ⟨rfl, k2, C2, K2, G2⟩
        have CC2 := Keep.mk C2
        have KK2 := Keep.mk K2
        have GG2 : Keep (Gk x w w') := ⟨(HG.out.trans GA.out).trans G2⟩
        clear C2 K2 G2
        go_wp2
        all_goals
          go_roundg (x.g.ps.length - (m + 1))
          case measure => omega
          case rel => exact ⟨m + 1, k2, by omega, by omega, by rw [← HS.out]; first | rw [if_pos ‹_›] | rw [if_neg (by omega)], by go_num, CC2, KK2, GG2⟩
      · have tf : (hd == s) = false := by simpa using hh
        have HS : Keep (cap (sumTo x.g x.row s f t m) = cap (sumTo x.g x.row s f t (m + 1))) := ⟨by rw [hs.out, if_neg hh, Nat.add_zero]⟩
        go_wp2
        go_roundg (x.g.ps.length - (m + 1))
        case measure => omega
        case rel => exact ⟨m + 1, k', by omega, by omega, by rw [← HS.out], by go_num, CA, HK, ⟨HG.out.trans GA.out⟩⟩
    · obtain rfl : m = x.g.ps.length := by omega
      go_wp2
      go_ret
      exact ⟨by rw [HE.out]; rfl, k', HC.out, HK.out, HG.out⟩
theorem symbol_walk (x : Cx) (hg : GrD x.g (rankOf x.g)) (hrow : x.row.length ≤ 64) (D : Nat) (ih : ∀ D', D' < D → BodyC x D') : SymC x D := by
  intro r s f t w k a hr hrR h0 h1 hft ht hD HC HK
  by_cases hT : s < x.g.T
  · exact symbol_term x hg hrow s f t w k a h0 h1 hft ht HC HK hT
  · exact symbol_head x hg hrow D ih r s f t w k a hr hrR h0 h1 hft ht hD HC HK hT
end Go.Proofs.Ytadabkkkalgehaa.H
namespace Go.Proofs.Ytadabkkkalgehaa.H
open Go.RowKit
set_option linter.unusedVariables false
set_option linter.unusedSimpArgs false
attribute [local go_sem] min_ints min_pair
theorem bodyEq_short {g : Gr} {S : Int → Nat → Nat → Nat} {B : Nat → Nat → Nat → Nat → Nat} {p d f t : Nat} (h : t - f < (bodyAt g p).length - d) : bodyEq g S B p d f t = 0 := by unfold bodyEq; rw [if_pos h]
theorem bodyEq_end {g : Gr} {S : Int → Nat → Nat → Nat} {B : Nat → Nat → Nat → Nat → Nat} {p d f t : Nat} (h : ¬ t - f < (bodyAt g p).length - d) (h0 : (bodyAt g p).length - d = 0) : bodyEq g S B p d f t = if f = t then 1 else 0 := by unfold bodyEq; rw [if_neg h, if_pos h0]
theorem bodyEq_one {g : Gr} {S : Int → Nat → Nat → Nat} {B : Nat → Nat → Nat → Nat → Nat} {p d f t : Nat} (h : ¬ t - f < (bodyAt g p).length - d) (h1 : (bodyAt g p).length - d = 1) : bodyEq g S B p d f t = S ((bodyAt g p).getD d 0) f t := by unfold bodyEq; rw [if_neg h, if_neg (by omega), if_pos h1]
def cutTo (S : Int → Nat → Nat → Nat) (B : Nat → Nat → Nat → Nat → Nat) (y : Int) (p d f t m : Nat) : Nat := ((List.range m).map fun i => S y f (f + 1 + i) * B p (d + 1) (f + 1 + i) t).sum
theorem cutTo_succ (S : Int → Nat → Nat → Nat) (B : Nat → Nat → Nat → Nat → Nat) (y : Int) (p d f t m : Nat) : cutTo S B y p d f t (m + 1) = cutTo S B y p d f t m + S y f (f + 1 + m) * B p (d + 1) (f + 1 + m) t := by
  unfold cutTo
  rw [List.range_succ, List.map_append, List.sum_append]
  simp
theorem bodyEq_cut {g : Gr} {S : Int → Nat → Nat → Nat} {B : Nat → Nat → Nat → Nat → Nat} {p d f t : Nat} (h : ¬ t - f < (bodyAt g p).length - d) (h1 : 2 ≤ (bodyAt g p).length - d) : bodyEq g S B p d f t = cutTo S B ((bodyAt g p).getD d 0) p d f t (t + 1 - ((bodyAt g p).length - d) - f) := by
  unfold bodyEq cutTo; rw [if_neg h, if_neg (by omega), if_neg (by omega)]
theorem Ch.prod {x : Cx} {w : World} {k a : K4 → Option Int} (h : Ch x w k a) {p : Nat} (hp : p < x.g.ps.length) : ∃ ad Ab cb, x.A = some ad ∧ w.cell? ⟨(ad.add (p * 3)).block, (ad.add (p * 3)).off + 1, none⟩ = some (.slice Ab (bodyAt x.g p).length cb) ∧ (bodyAt x.g p).length ≤ cb ∧ Rd eI 1 w x.B0 Ab (bodyAt x.g p) := by
  obtain ⟨ad, Ab, cb, e, _, _, c1, _, hl, hr⟩ := h.rp p hp
  rw [bodyAt_get hp]
  exact ⟨ad, Ab, cb, e, c1, hl, hr⟩
set_option maxRecDepth 100000 in
set_option maxHeartbeats 4000000 in
theorem body_easy (x : Cx) (hg : GrD x.g (rankOf x.g)) (hrow : x.row.length ≤ 64) (hb8 : ∀ q ∈ x.g.ps, q.body.length ≤ 8) (p d f t : Nat) (w : World) (k a : K4 → Option Int) (hp : p < x.g.ps.length) (hd : d ≤ (bodyAt x.g p).length) (hft : f ≤ t) (ht : t ≤ x.row.length) (HC : Ch x w k a) (HK : Kn x k) (he : t - f < (bodyAt x.g p).length - d ∨ (bodyAt x.g p).length - d = 0) :
    Calls Try.prog 43 #[.pointer (some ⟨x.cB, 0, none⟩), .int .i64 p, .int .i64 d, .int .i64 f, .int .i64 t] w (RetN x (numB x.g x.row p d f t) a w) := by
  have e := numB_eq (row := x.row) hg hp hd hft ht
  have q3 := HC.cell 3
  simp [Cx.cells] at q3
  obtain ⟨ad, Ab, cb, eA, c1, hlb, hrb⟩ := HC.prod hp
  have hl8 : (bodyAt x.g p).length ≤ 8 := by rw [bodyAt_get hp]; exact hb8 _ (List.getElem_mem hp)
  rw [eA] at q3
  have HC' := Keep.mk HC
  have HK' := Keep.mk HK
  have i1 : (0 : Int) ≤ p := by omega
  have i2 : (p : Int) < x.g.ps.length := by omega
  by_cases h1 : t - f < (bodyAt x.g p).length - d
  · rw [bodyEq_short h1] at e
    have HE := Keep.mk e
    generalize bodyAt x.g p = b at *
    have t1 : decide ((t : Int) - (f : Int) < (b.length : Int) - (d : Int)) = true := decide_eq_true (by omega)
    have t2 : (t : Int) - (f : Int) < (b.length : Int) - (d : Int) := by omega
    clear e HC HK hrb he h1 hlb
    go_enter Try.func43, Try.ntmps43
    go_wp2
    go_ret
    refine ⟨?_, k, HC'.out, HK'.out, Gk.refl _ _⟩
    rw [HE.out, cap_zero]; rfl
  · have h0 : (bodyAt x.g p).length - d = 0 := by omega
    rw [bodyEq_end h1 h0] at e
    generalize bodyAt x.g p = b at *
    have t1 : decide ((t : Int) - (f : Int) < (b.length : Int) - (d : Int)) = false := decide_eq_false (by omega)
    have t2 : ¬ (t : Int) - (f : Int) < (b.length : Int) - (d : Int) := by omega
    have t3 : ((b.length : Int) - (d : Int) == 0) = true := by simp; omega
    by_cases h2 : f = t
    · rw [if_pos h2] at e
      have HE := Keep.mk e
      have t4 : ((f : Int) == (t : Int)) = true := by simp [h2]
      clear e HC HK hrb he h1 hlb h0 h2
      go_enter Try.func43, Try.ntmps43
      go_wp2
      go_ret
      refine ⟨?_, k, HC'.out, HK'.out, Gk.refl _ _⟩
      rw [HE.out, cap_one]; rfl
    · rw [if_neg h2] at e
      have HE := Keep.mk e
      have t4 : ((f : Int) == (t : Int)) = false := by simp; omega
      clear e HC HK hrb he h1 hlb h0 h2
      go_enter Try.func43, Try.ntmps43
      go_wp2
      go_ret
      refine ⟨?_, k, HC'.out, HK'.out, Gk.refl _ _⟩
      rw [HE.out, cap_zero]; rfl
theorem key_ok {x : Cx} (hg : GrD x.g (rankOf x.g)) (hrow : x.row.length ≤ 64) {p d f t : Nat} (hp : p < x.g.ps.length) (hd : d ≤ 8) (hf : f ≤ 64) (ht : t ≤ 64) : stretchE.ok ⟨(p : Int), (d : Int), (f : Int), (t : Int)⟩ ∧ (⟨(p : Int), (d : Int), (f : Int), (t : Int)⟩ : K4) ∈ boxK := by
  have := hg.ok.n1
  have z : I64 (p : Int) ∧ I64 (d : Int) ∧ I64 (f : Int) ∧ I64 (t : Int) := ⟨i64_small (by omega) (by omega), i64_small (by omega) (by omega), i64_small (by omega) (by omega), i64_small (by omega) (by omega)⟩
  exact ⟨z, mem_boxK (by omega) (by omega) (by omega) (by omega)⟩
theorem Kn.get {x : Cx} {k : K4 → Option Int} (h : Kn x k) {p d f t : Nat} {v : Int} (hv : k ⟨p, d, f, t⟩ = some v) : v = cap (numB x.g x.row p d f t) := by
  obtain ⟨p', d', f', t', e, _, _, _, _, e2⟩ := h _ _ hv
  simp only [K4.mk.injEq, Int.natCast_inj] at e
  obtain ⟨rfl, rfl, rfl, rfl⟩ := e
  exact e2
theorem Kn.put {x : Cx} {k : K4 → Option Int} (h : Kn x k) {p d f t : Nat} (hp : p < x.g.ps.length) (hd : d ≤ (bodyAt x.g p).length) (hft : f ≤ t) (ht : t ≤ x.row.length) : Kn x (put k ⟨p, d, f, t⟩ (some (cap (numB x.g x.row p d f t)))) := by
  intro q v hv
  by_cases e : q = ⟨p, d, f, t⟩
  · subst e
    rw [put_same] at hv
    injection hv with hv
    exact ⟨p, d, f, t, rfl, hp, hd, hft, ht, hv.symm⟩
  · rw [put_other _ _ e] at hv
    exact h q v hv
set_option maxRecDepth 100000 in
set_option maxHeartbeats 8000000 in
theorem body_hard (x : Cx) (hg : GrD x.g (rankOf x.g)) (hrow : x.row.length ≤ 64) (hb8 : ∀ q ∈ x.g.ps, q.body.length ≤ 8) (D : Nat) (ih : ∀ D', D' < D → SymC x D' ∧ BodyC x D') (r p d f t : Nat) (w : World) (k a : K4 → Option Int) (hr : d = 0 → Rk x.g r (headAt x.g p)) (hrR : r ≤ rankOf x.g) (hp : p < x.g.ps.length) (hd : d ≤ (bodyAt x.g p).length) (hft : f ≤ t) (ht : t ≤ x.row.length) (hD : depB (rankOf x.g) r d f t ≤ D) (HC : Ch x w k a) (HK : Kn x k) (h1 : ¬ t - f < (bodyAt x.g p).length - d) (h2 : 1 ≤ (bodyAt x.g p).length - d) :
    Calls Try.prog 43 #[.pointer (some ⟨x.cB, 0, none⟩), .int .i64 p, .int .i64 d, .int .i64 f, .int .i64 t] w (RetN x (numB x.g x.row p d f t) a w) := by
  have hl8 : (bodyAt x.g p).length ≤ 8 := by rw [bodyAt_get hp]; exact hb8 _ (List.getElem_mem hp)
  obtain ⟨hkey, hbox⟩ := key_ok hg hrow hp (show d ≤ 8 by omega) (show f ≤ 64 by omega) (show t ≤ 64 by omega)
  have q3 := HC.cell 3
  have q2 := HC.cell 5
  simp [Cx.cells] at q3 q2
  obtain ⟨ad, Ab, cb, eA, c1, hlb, hrb⟩ := HC.prod hp
  rw [eA] at q3
  obtain ⟨ad2, e2, hb2, hc2⟩ := hrb.int d (by omega)
  have hy : (bodyAt x.g p).getD d 0 = (bodyAt x.g p)[d]'(by omega) := by rw [List.getD_eq_getElem?_getD, List.getElem?_eq_getElem (by omega)]; rfl
  have hyr := hg.body hp (show d < (bodyAt x.g p).length by omega)
  rw [← hy] at hc2
  clear hy
  subst e2
  have i1 : (0 : Int) ≤ p := by omega
  have i2 : (p : Int) < x.g.ps.length := by omega
  have i3 : (0 : Int) ≤ d := by omega
  have i4 : (d : Int) < (bodyAt x.g p).length := by omega
  have t1 : decide ((t : Int) - (f : Int) < ((bodyAt x.g p).length : Int) - (d : Int)) = false := decide_eq_false (by omega)
  have t2 : ¬ (t : Int) - (f : Int) < ((bodyAt x.g p).length : Int) - (d : Int) := by omega
  have t3 : (((bodyAt x.g p).length : Int) - (d : Int) == 0) = false := by simp; omega
  have CA := Keep.mk (HC.alloc (.cells #[.int .i64 p, .int .i64 d, .int .i64 f, .int .i64 t] 74))
  have HK' := Keep.mk HK
  have LK := CA.out.drew.mpk.look_ok stretch_law Try.underlying69 Try.underlying3 (zero_int _) ⟨p, d, f, t⟩ hkey
  simp only [stretchE, K4.v] at LK
  have nB : x.cB < w.heap.size := HC.blk.lt
  cases hm : k ⟨p, d, f, t⟩ with
  | some v =>
    have hv := Keep.mk (HK.get hm)
    rw [hm] at LK
    simp only [Option.getD_some, Option.isSome_some] at LK
    generalize bodyAt x.g p = b at *
    clear HC HK ih hg hb8 hrb hm h1 h2 hD
    go_enter Try.func43, Try.ntmps43
    go_wp2
    go_region_held3 (fun w' => w'.cell? ⟨x.cB, 5, none⟩ = some (.map (some x.kB)) ∧ w'.cell? ⟨w.heap.size, 0, none⟩ = some (.int .i64 p) ∧ w'.cell? ⟨w.heap.size, 1, none⟩ = some (.int .i64 d) ∧ w'.cell? ⟨w.heap.size, 2, none⟩ = some (.int .i64 f) ∧ w'.cell? ⟨w.heap.size, 3, none⟩ = some (.int .i64 t) ∧ (Instr.lookup 69 (.map (some x.kB)) (.agg #[.int .i64 p, .int .i64 d, .int .i64 f, .int .i64 t]) true).run Try.prog w' = .ok (.tuple #[.int .i64 v, .bool true]) w')
      (go_keep) (fail)
    go_wp2
    go_ret
    exact ⟨by rw [hv.out]; rfl, k, CA.out.drew, HK'.out, Gk.below (below_drew1 ((Below.refl _ _).alloc (Nat.le_refl _) _))⟩
  | none =>
    rw [hm] at LK
    simp only [Option.getD_none, Option.isSome_none] at LK
    have HE := numB_eq (row := x.row) hg hp hd hft ht
    have H1 : Keep ((bodyAt x.g p).length - d = 1 → ∀ W k', Ch x W k' a → Kn x k' → Calls Try.prog 32 #[.pointer (some ⟨x.cB, 0, none⟩), .int .i64 ((bodyAt x.g p).getD d 0), .int .i64 f, .int .i64 t] W (RetN x (numS x.g x.row ((bodyAt x.g p).getD d 0) f t) a W)) := ⟨fun hl W k' hC hK => by
      by_cases hd0 : d = 0
      · subst hd0
        obtain ⟨r', rfl, hr'⟩ := hg.unit hp (hr rfl) (by omega)
        exact (ih (depS (rankOf x.g) r' f t) (by unfold depB at hD; simp only [if_true] at hD; unfold depS; omega)).1 r' _ f t W k' a hr' (by omega) hyr.1 hyr.2 hft ht (Nat.le_refl _) hC hK
      · exact (ih (depS (rankOf x.g) (rankOf x.g) f t) (by unfold depB at hD; rw [if_neg hd0] at hD; unfold depS; omega)).1 (rankOf x.g) _ f t W k' a (hg.rk _ hyr.1 hyr.2) (Nat.le_refl _) hyr.1 hyr.2 hft ht (Nat.le_refl _) hC hK⟩
    have hbase : depB (rankOf x.g) 0 d f t ≤ D := by unfold depB at hD ⊢; split at hD <;> rename_i hd0 <;> simp only [hd0, if_true, if_false] <;> omega
    have H2 : Keep (∀ c, f < c → c < t → ∀ W k', Ch x W k' a → Kn x k' → Calls Try.prog 32 #[.pointer (some ⟨x.cB, 0, none⟩), .int .i64 ((bodyAt x.g p).getD d 0), .int .i64 f, .int .i64 c] W (RetN x (numS x.g x.row ((bodyAt x.g p).getD d 0) f c) a W)) := ⟨fun c hc1 hc2 W k' hC hK => by
      have hlt := (dep_short (R := rankOf x.g) (r := rankOf x.g) (d := d) (f := f) (t := t) (f' := f) (t' := c) (by omega) (Nat.le_refl _)).1
      exact (ih (depS (rankOf x.g) (rankOf x.g) f c) (by omega)).1 (rankOf x.g) _ f c W k' a (hg.rk _ hyr.1 hyr.2) (Nat.le_refl _) hyr.1 hyr.2 (by omega) (by omega) (Nat.le_refl _) hC hK⟩
    have H3 : Keep (∀ c, f < c → c ≤ t → d + 1 ≤ (bodyAt x.g p).length → ∀ W k', Ch x W k' a → Kn x k' → Calls Try.prog 43 #[.pointer (some ⟨x.cB, 0, none⟩), .int .i64 p, .int .i64 ((d : Int) + 1), .int .i64 c, .int .i64 t] W (RetN x (numB x.g x.row p (d + 1) c t) a W)) := ⟨fun c hc1 hc2 hd1 W k' hC hK => by
      have hlt : depB (rankOf x.g) 0 (d + 1) c t < D := by
        have h1 : (t - c) * (2 * rankOf x.g + 4) + (2 * rankOf x.g + 4) ≤ (t - f) * (2 * rankOf x.g + 4) := by
          have := Nat.mul_le_mul_right (2 * rankOf x.g + 4) (show t - c + 1 ≤ t - f by omega)
          rw [Nat.add_mul] at this
          omega
        unfold depB at hbase ⊢
        rw [if_neg (by omega)]
        split at hbase <;> omega
      exact (ih _ hlt).2 0 p (d + 1) c t W k' a (fun h => by omega) (Nat.zero_le _) hp hd1 (by omega) ht (Nat.le_refl _) hC hK⟩
    have HP : Keep (∀ k', Kn x k' → Kn x (put k' ⟨p, d, f, t⟩ (some (cap (numB x.g x.row p d f t))))) := ⟨fun k' h => h.put hp hd hft ht⟩
    have HL : Keep (Maps.Keyed Try.prog 74 ∧ stretchE.ok ⟨(p : Int), (d : Int), (f : Int), (t : Int)⟩ ∧ (⟨(p : Int), (d : Int), (f : Int), (t : Int)⟩ : K4) ∈ boxK) := ⟨stretch_law, hkey, hbox⟩
    have HE1 : Keep ((bodyAt x.g p).length - d = 1 → numB x.g x.row p d f t = numS x.g x.row ((bodyAt x.g p).getD d 0) f t) := ⟨fun hl => by rw [HE, bodyEq_one h1 hl]⟩
    have HE2 : Keep (2 ≤ (bodyAt x.g p).length - d → numB x.g x.row p d f t = cutTo (numS x.g x.row) (numB x.g x.row) ((bodyAt x.g p).getD d 0) p d f t (t + 1 - ((bodyAt x.g p).length - d) - f)) := ⟨fun hl => by rw [HE, bodyEq_cut h1 hl]⟩
    have HS : Keep (∀ m, cutTo (numS x.g x.row) (numB x.g x.row) ((bodyAt x.g p).getD d 0) p d f t (m + 1) = cutTo (numS x.g x.row) (numB x.g x.row) ((bodyAt x.g p).getD d 0) p d f t m + numS x.g x.row ((bodyAt x.g p).getD d 0) f (f + 1 + m) * numB x.g x.row p (d + 1) (f + 1 + m) t) := ⟨fun m => cutTo_succ _ _ _ _ _ _ _ _⟩
    have HRd := Keep.mk hrb
    have hsz := CA.out.drew
    have BK : Keep (Blk ((w.alloc (.cells #[.int .i64 p, .int .i64 d, .int .i64 f, .int .i64 t] 74)).drew) w.heap.size 74 #[.int .i64 p, .int .i64 d, .int .i64 f, .int .i64 t]) := ⟨(Blk.new _ _ _).drew⟩
    have GA : Keep (Gk x w ((w.alloc (.cells #[.int .i64 p, .int .i64 d, .int .i64 f, .int .i64 t] 74)).drew)) := ⟨Gk.below (below_drew1 ((Below.refl _ _).alloc (Nat.le_refl _) _))⟩
    have hkk : x.kB ≠ w.heap.size := by have := HC.mpk.lt; omega
    have hce : Keep (w.cell? (ad2.add d) = some (.int .i64 ((bodyAt x.g p).getD d 0)) ∧ ad2.block < x.B0) := ⟨hc2, hb2⟩
    generalize hbb : bodyAt x.g p = b at *
    have HBB := Keep.mk hbb
    generalize b.getD d 0 = y at *
    generalize hN : numB x.g x.row p d f t = N at *
    have HN := Keep.mk hN
    clear HC HK ih hg hb8 hrb hm hD HE hbase hbb hN hyr hr hbox hkey hsz
    go_enter Try.func43, Try.ntmps43
    go_upto_region 10 with fail
    go_region_held3 (fun w' => w'.cell? ⟨x.cB, 5, none⟩ = some (.map (some x.kB)) ∧ w'.cell? ⟨w.heap.size, 0, none⟩ = some (.int .i64 p) ∧ w'.cell? ⟨w.heap.size, 1, none⟩ = some (.int .i64 d) ∧ w'.cell? ⟨w.heap.size, 2, none⟩ = some (.int .i64 f) ∧ w'.cell? ⟨w.heap.size, 3, none⟩ = some (.int .i64 t) ∧ (Instr.lookup 69 (.map (some x.kB)) (.agg #[.int .i64 p, .int .i64 d, .int .i64 f, .int .i64 t]) true).run Try.prog w' = .ok (.tuple #[.int .i64 0, .bool false]) w')
      (go_keep) (fail)
    generalize hw1 : (w.alloc (.cells #[.int .i64 p, .int .i64 d, .int .i64 f, .int .i64 t] 74)).drew = w1 at *
    generalize hkA : w.heap.size = kA at *
    have HW1 := Keep.mk hw1
    clear LK q2 q3 c1 hc2 hw1
    have R1 := Keep.mk (HRd.out.below (show Below x.B0 w w1 from by
      have hh := CA.out.size
      rw [← HW1.out]
      exact (below_drew1 ((Below.refl _ _).alloc (Nat.le_refl _) _)).mono (by rw [hkA]; exact Nat.le_of_lt (Nat.lt_of_le_of_lt CA.out.nc nB))))
    have C1 : Keep (Ch x w1 k a) := ⟨by rw [← HW1.out]; exact CA.out.drew⟩
    have hc1 := cell_below hce.out.1 (show Below x.B0 w w1 from by
      rw [← HW1.out]
      exact (below_drew1 ((Below.refl _ _).alloc (Nat.le_refl _) _)).mono (by rw [hkA]; exact Nat.le_of_lt (Nat.lt_of_le_of_lt CA.out.nc nB))) (by rw [add_block]; exact hce.out.2)
    clear CA
    go_upto_if 61 with fail
    go_cut [16] (fun s16 wx => s16 = .int .i64 (cap N) ∧ Keep (∃ k', Ch x wx k' a ∧ Kn x k' ∧ Gk x w wx ∧ Blk wx kA 74 #[.int .i64 p, .int .i64 d, .int .i64 f, .int .i64 t]))
    case first =>
      by_cases h3 : b.length - d = 1
      · have t4 : ((b.length : Int) - (d : Int) == 1) = true := by simp; omega
        have K1 := Keep.mk (H1.out h3 w1 k C1.out HK'.out)
        rw [← HE1.out h3] at K1
        unfold RetN at K1
        generalize cap N = cN at *
        clear H1 H2 H3 HE1 HE2 HS h3
        go_wp2_with fail
        refine K1.out.mono ?_
        rintro e w2 ⟨rfl, k2, C2, K2, G2⟩
        have Z : Keep (∃ k', Ch x w2 k' a ∧ Kn x k' ∧ Gk x w w2 ∧ Blk w2 kA 74 #[.int .i64 p, .int .i64 d, .int .i64 f, .int .i64 t]) := ⟨k2, C2, K2, GA.out.trans G2, G2.blk BK.out (fun e => hkk e.symm)⟩
        clear C2 K2 G2
        go_wp2_with fail
        go_meet
        exact ⟨rfl, Z⟩
      · have t4 : ((b.length : Int) - (d : Int) == 1) = false := by simp; omega
        have hle2 : 2 ≤ b.length - d := by omega
        have HE3 := Keep.mk (HE2.out hle2)
        clear H1 HE1 HE2
        have hBk : Keep (x.B0 ≤ x.kB ∧ x.B0 ≤ w.heap.size) := ⟨C1.out.nk, by have := C1.out.nc; omega⟩
        have Z0 : Keep (Ch x w1 k a ∧ Kn x k ∧ Gk x w w1 ∧ Blk w1 kA 74 #[.int .i64 p, .int .i64 d, .int .i64 f, .int .i64 t]) := ⟨C1.out, HK'.out, GA.out, BK.out⟩
        go_wp2_with fail
        clear hc1
        go_loopg [16, 17] 66 (fun gg s16 s17 wr => ∃ (c : Nat) (k' : K4 → Option Int), f + 1 ≤ c ∧ c + (b.length - d) ≤ t + 2 ∧ 66 - c ≤ gg ∧ s16 = .int .i64 (cap (cutTo (numS x.g x.row) (numB x.g x.row) y p d f t (c - (f + 1)))) ∧ s17 = .int .i64 (c : Int) ∧ Keep (Ch x wr k' a ∧ Kn x k' ∧ Gk x w wr ∧ Blk wr kA 74 #[.int .i64 p, .int .i64 d, .int .i64 f, .int .i64 t]))
        case atStart => exact ⟨f + 1, k, Nat.le_refl _, by omega, by omega, by rw [Nat.sub_self]; rfl, by go_num, Z0⟩
        case round =>
          clear Z0 C1 HK' BK R1
          obtain ⟨c, k', hc1, hc2, hgc, rfl, rfl, HZ⟩ := hrel
          by_cases hgo : c + (b.length - d) ≤ t + 1
          · have u1 : (c : Int) ≤ (t : Int) - ((b.length : Int) - (d : Int)) + 1 := by omega
            have hcy := cell_below hce.out.1 (HZ.out.2.2.1.low hBk.out.1 hBk.out.2) (by rw [add_block]; exact hce.out.2)
            have K2 := Keep.mk (H2.out c (by omega) (by omega) wr k' HZ.out.1 HZ.out.2.1)
            have hs := HS.out (c - (f + 1))
            rw [show f + 1 + (c - (f + 1)) = c from by omega, show c - (f + 1) + 1 = c + 1 - (f + 1) from by omega] at hs
            have Hs := Keep.mk hs
            clear hs
            unfold RetN at K2
            have hca := cap_range (cutTo (numS x.g x.row) (numB x.g x.row) y p d f t (c - (f + 1)))
            have hcs := cap_range (numS x.g x.row y f c)
            by_cases hpos : 0 < numS x.g x.row y f c
            · have hpc := (cap_pos _).2 hpos
              have KT := Keep.mk fun W => times_any (numS x.g x.row y f c) (numB x.g x.row p (d + 1) c t) W
              have HF : Keep ((if cap (cutTo (numS x.g x.row) (numB x.g x.row) y p d f t (c - (f + 1))) + cap (numS x.g x.row y f c * numB x.g x.row p (d + 1) c t) < 1073741825 then cap (cutTo (numS x.g x.row) (numB x.g x.row) y p d f t (c - (f + 1))) + cap (numS x.g x.row y f c * numB x.g x.row p (d + 1) c t) else 1073741825) = cap (cutTo (numS x.g x.row) (numB x.g x.row) y p d f t (c + 1 - (f + 1)))) := ⟨by rw [cap_add, Hs.out]⟩
              have hcm := cap_range (numS x.g x.row y f c * numB x.g x.row p (d + 1) c t)
              have K3 := Keep.mk (H3.out c (by omega) (by omega) (by omega))
              unfold RetN at K3
              clear Hs hpos
              generalize cap (numS x.g x.row y f c * numB x.g x.row p (d + 1) c t) = cm at *
              generalize cap (numS x.g x.row y f c) = cs at *
              generalize cap (numB x.g x.row p (d + 1) c t) = cn at *
              generalize cap (cutTo (numS x.g x.row) (numB x.g x.row) y p d f t (c - (f + 1))) = ca at *
              go_wp2_with fail
              refine K2.out.mono ?_
              rintro e w2 ⟨rfl, k2, C2, KK2, G2⟩
              have Z2 : Keep (Ch x w2 k2 a ∧ Kn x k2 ∧ Gk x w w2 ∧ Blk w2 kA 74 #[.int .i64 p, .int .i64 d, .int .i64 f, .int .i64 t]) := ⟨C2, KK2, HZ.out.2.2.1.trans G2, G2.blk HZ.out.2.2.2 (fun e => hkk e.symm)⟩
              clear C2 KK2 G2 HZ hcy
              go_wp2_with fail
              refine (K3.out w2 k2 Z2.out.1 Z2.out.2.1).mono ?_
              rintro e w3 ⟨rfl, k3, C3, KK3, G3⟩
              have Z3 : Keep (Ch x w3 k3 a ∧ Kn x k3 ∧ Gk x w w3 ∧ Blk w3 kA 74 #[.int .i64 p, .int .i64 d, .int .i64 f, .int .i64 t]) := ⟨C3, KK3, Z2.out.2.2.1.trans G3, G3.blk Z2.out.2.2.2 (fun e => hkk e.symm)⟩
              clear C3 KK3 G3 Z2
              go_wp2_with fail
              refine (KT.out w3).mono ?_
              rintro e w4 ⟨rfl, rfl⟩
              go_wp2_with fail
              all_goals
                go_roundg (66 - (c + 1))
                case measure => omega
                case rel => exact ⟨c + 1, k3, by omega, by omega, by omega, by rw [← HF.out]; first | rw [if_pos ‹_›] | rw [if_neg (by omega)], by go_num, Z3⟩
            · have hz : numS x.g x.row y f c = 0 := by omega
              have HF : Keep (cap (cutTo (numS x.g x.row) (numB x.g x.row) y p d f t (c - (f + 1))) = cap (cutTo (numS x.g x.row) (numB x.g x.row) y p d f t (c + 1 - (f + 1)))) := ⟨by rw [Hs.out, hz, Nat.zero_mul]; rfl⟩
              rw [hz, cap_zero] at K2
              clear Hs hpos hz
              generalize cap (cutTo (numS x.g x.row) (numB x.g x.row) y p d f t (c - (f + 1))) = ca at *
              go_wp2_with fail
              refine K2.out.mono ?_
              rintro e w2 ⟨rfl, k2, C2, KK2, G2⟩
              have Z2 : Keep (Ch x w2 k2 a ∧ Kn x k2 ∧ Gk x w w2 ∧ Blk w2 kA 74 #[.int .i64 p, .int .i64 d, .int .i64 f, .int .i64 t]) := ⟨C2, KK2, HZ.out.2.2.1.trans G2, G2.blk HZ.out.2.2.2 (fun e => hkk e.symm)⟩
              clear C2 KK2 G2 HZ hcy
              go_wp2_with fail
              go_roundg (66 - (c + 1))
              case measure => omega
              case rel => exact ⟨c + 1, k2, by omega, by omega, by omega, by rw [← HF.out], by go_num, Z2⟩
          · have u1 : ¬ (c : Int) ≤ (t : Int) - ((b.length : Int) - (d : Int)) + 1 := by omega
            have HN2 : Keep (cap (cutTo (numS x.g x.row) (numB x.g x.row) y p d f t (c - (f + 1))) = cap N) := ⟨by rw [HE3.out, show c - (f + 1) = t + 1 - (b.length - d) - f from by omega]⟩
            go_wp2_with fail
            go_meet
            exact ⟨by rw [← HN2.out], ⟨k', HZ.out⟩⟩
    case rest =>
      clear H1 H2 H3 HE1 HE2 HS
      obtain ⟨rfl, HZ⟩ := hcut
      obtain ⟨k', CZ, KZ, GZ, BZ⟩ := HZ.out
      obtain ⟨HL1, HL2, HL3⟩ := HL.out
      have HR1 := cap_range N
      obtain ⟨w9, hrun, M9, G9⟩ := CZ.drew.mpk.store HL1 Try.underlying69 Try.underlying3 boxK_len ⟨p, d, f, t⟩ HL2 HL3 (cap N) (i64_small (by omega) (by omega))
      have C9 := Keep.mk (CZ.drew.setK M9 G9)
      have K9 := Keep.mk (HP.out k' KZ)
      simp only [stretchE, K4.v] at hrun
      have Gd : Keep (Gk x w w9) := ⟨(GZ.trans (Gk.below (below_drew1 (Below.refl _ _)))).trans G9⟩
      have q2 := CZ.cell 5
      simp [Cx.cells] at q2
      have b0 := BZ.cell 0
      have b1 := BZ.cell 1
      have b2 := BZ.cell 2
      have b3 := BZ.cell 3
      simp at b0 b1 b2 b3
      have r2 := C9.out.cell 5
      simp [Cx.cells] at r2
      have B9 := Gk.blk (x := x) G9 BZ.drew (fun e => hkk e.symm)
      have d0 := B9.cell 0
      have d1 := B9.cell 1
      have d2 := B9.cell 2
      have d3 := B9.cell 3
      simp at d0 d1 d2 d3
      clear B9
      generalize hcn : cap N = cN at *
      have Hcn := Keep.mk hcn
      clear hcn
      clear HZ CZ KZ GZ BZ M9 G9 HL HP HRd HBB hce
      go_wp2_with fail
      go_region_held3 (fun w' => w'.cell? ⟨x.cB, 5, none⟩ = some (.map (some x.kB)) ∧ w'.cell? ⟨kA, 0, none⟩ = some (.int .i64 p) ∧ w'.cell? ⟨kA, 1, none⟩ = some (.int .i64 d) ∧ w'.cell? ⟨kA, 2, none⟩ = some (.int .i64 f) ∧ w'.cell? ⟨kA, 3, none⟩ = some (.int .i64 t))
        (first | exact ⟨q2, b0, b1, b2, b3⟩ | exact ⟨r2, d0, d1, d2, d3⟩) (fail)
      go_wp2
      go_ret
      exact ⟨by rw [Hcn.out]; rfl, _, C9.out, K9.out, Gd.out⟩
theorem body_walk (x : Cx) (hg : GrD x.g (rankOf x.g)) (hrow : x.row.length ≤ 64) (hb8 : ∀ q ∈ x.g.ps, q.body.length ≤ 8) (D : Nat) (ih : ∀ D', D' < D → SymC x D' ∧ BodyC x D') : BodyC x D := by
  intro r p d f t w k a hr hrR hp hd hft ht hD HC HK
  by_cases he : t - f < (bodyAt x.g p).length - d ∨ (bodyAt x.g p).length - d = 0
  · exact body_easy x hg hrow hb8 p d f t w k a hp hd hft ht HC HK he
  · exact body_hard x hg hrow hb8 D ih r p d f t w k a hr hrR hp hd hft ht hD HC HK (fun h => he (.inl h)) (by omega)
theorem derive_walk (x : Cx) (hg : GrD x.g (rankOf x.g)) (hrow : x.row.length ≤ 64) (hb8 : ∀ q ∈ x.g.ps, q.body.length ≤ 8) (D : Nat) : SymC x D ∧ BodyC x D := by
  induction D using Nat.strongRecOn with
  | _ D ih => exact ⟨symbol_walk x hg hrow D (fun D' h => (ih D' h).2), body_walk x hg hrow hb8 D ih⟩
theorem symbol_any (x : Cx) (hg : GrD x.g (rankOf x.g)) (hrow : x.row.length ≤ 64) (hb8 : ∀ q ∈ x.g.ps, q.body.length ≤ 8) (s : Int) (f t : Nat) (w : World) (k a : K4 → Option Int) (h0 : 0 ≤ s) (h1 : s < x.g.S) (hft : f ≤ t) (ht : t ≤ x.row.length) (HC : Ch x w k a) (HK : Kn x k) :
    Calls Try.prog 32 #[.pointer (some ⟨x.cB, 0, none⟩), .int .i64 s, .int .i64 f, .int .i64 t] w (RetN x (numS x.g x.row s f t) a w) :=
  (derive_walk x hg hrow hb8 (depS (rankOf x.g) (rankOf x.g) f t)).1 (rankOf x.g) s f t w k a (hg.rk s h0 h1) (Nat.le_refl _) h0 h1 hft ht (Nat.le_refl _) HC HK
end Go.Proofs.Ytadabkkkalgehaa.H
namespace Go.Proofs.Ytadabkkkalgehaa.H
open Go.RowKit
set_option linter.unusedVariables false
set_option linter.unusedSimpArgs false
def termB (g : Gr) (y : Int) : Bool := decide (0 ≤ y) && decide (y < g.T)
def startE (g : Gr) (s : Int) (row : List Int) : Int :=
  if checkI g ≠ 0 then checkI g else if ¬ (0 ≤ s ∧ s < g.S) then 2 else if row.all (termB g) = false then 2 else if 64 < row.length then 3 else 0
theorem startE_zero {g : Gr} {s : Int} {row : List Int} (h : startE g s row = 0) : checkI g = 0 ∧ (0 ≤ s ∧ s < g.S) ∧ row.all (termB g) = true ∧ row.length ≤ 64 := by
  unfold startE at h
  by_cases h1 : checkI g ≠ 0
  · rw [if_pos h1] at h; exact absurd h h1
  rw [if_neg h1] at h
  by_cases h2 : ¬ (0 ≤ s ∧ s < g.S)
  · rw [if_pos h2] at h; cases h
  rw [if_neg h2] at h
  by_cases h3 : row.all (termB g) = false
  · rw [if_pos h3] at h; cases h
  rw [if_neg h3] at h
  by_cases h4 : 64 < row.length
  · rw [if_pos h4] at h; cases h
  exact ⟨by simpa using h1, by simpa using h2, by simpa using h3, by omega⟩
def StartPost (w : World) (g : Gr) (s : Int) (row : List Int) (e : Ending) (w' : World) : Prop :=
  (startE g s row ≠ 0 ∧ e = .returned (.tuple #[.pointer none, .int .i64 (startE g s row)]) ∧ Below w.heap.size w w') ∨
  (startE g s row = 0 ∧ ∃ x : Cx, x.g = g ∧ x.row = row ∧ x.B0 = w.heap.size ∧ e = .returned (.tuple #[.pointer (some ⟨x.cB, 0, none⟩), .int .i64 0]) ∧ Ch x w' (fun _ => none) (fun _ => none) ∧ Below w.heap.size w w')
set_option maxRecDepth 100000 in
set_option maxHeartbeats 4000000 in
theorem start_any (g : Gr) (s : Int) (row : List Int) (A Ar : Option Addr) (c cr : Nat) (w : World) (h : GrIn w g A c) (hr : Rd eI 1 w w.heap.size Ar row) (hl : row.length ≤ cr) (hm : row.length ≤ 9223372036854775807) :
    Calls Try.prog 31 #[grV g A c, .int .i64 s, .slice Ar row.length cr] w (StartPost w g s row) := by
  have H0 := Keep.mk h
  have HR := Keep.mk hr
  clear h hr
  have K1 := Keep.mk fun W (hW : Below w.heap.size w W) => check_any g A c W (H0.out.below hW)
  have hE : Keep (startE g s row = if checkI g ≠ 0 then checkI g else if ¬ (0 ≤ s ∧ s < g.S) then 2 else if row.all (termB g) = false then 2 else if 64 < row.length then 3 else 0) := ⟨rfl⟩
  have HT : Keep (∀ y, termB g y = (decide (0 ≤ y) && decide (y < g.T))) := ⟨fun _ => rfl⟩
  have HP : Keep (∀ e w', (startE g s row ≠ 0 → e = .returned (.tuple #[.pointer none, .int .i64 (startE g s row)]) → Below w.heap.size w w' → StartPost w g s row e w') ∧
      (startE g s row = 0 → ∀ x : Cx, x.g = g → x.row = row → x.B0 = w.heap.size → e = .returned (.tuple #[.pointer (some ⟨x.cB, 0, none⟩), .int .i64 0]) → Ch x w' (fun _ => none) (fun _ => none) → Below w.heap.size w w' → StartPost w g s row e w')) :=
    ⟨fun e w' => ⟨fun h1 h2 h3 => .inl ⟨h1, h2, h3⟩, fun h1 x a1 a2 a3 a4 a5 a6 => .inr ⟨h1, x, a1, a2, a3, a4, a5, a6⟩⟩⟩
  have hRP : Keep (RdP w w.heap.size A g.ps) := ⟨H0.out.r⟩
  generalize hQ : StartPost w g s row = Q at *
  clear hQ
  generalize hz : startE g s row = E at *
  clear hz
  generalize checkI g = C at *
  generalize termB g = tb at *
  obtain ⟨T, S, st, ps⟩ := g
  unfold grV at *
  dsimp only at *
  have B0 : Keep (Below w.heap.size w (w.alloc (.cells #[.int .i64 T, .int .i64 S, .int .i64 st, .slice A ps.length c] 24))) := ⟨(Below.refl _ _).alloc (Nat.le_refl _) _⟩
  have BG : Keep (Blk (w.alloc (.cells #[.int .i64 T, .int .i64 S, .int .i64 st, .slice A ps.length c] 24)) w.heap.size 24 #[.int .i64 T, .int .i64 S, .int .i64 st, .slice A ps.length c]) := ⟨Blk.new _ _ _⟩
  have hmm := @run_makeMap Try.prog
  go_enter Try.func31, Try.ntmps31
  go_wp2_with fail
  refine (K1.out _ B0.out).mono ?_
  rintro e w1 ⟨rfl, hb⟩
  have B1 : Keep (Below w.heap.size w w1) := ⟨below_step B0.out hb B0.out.size⟩
  have BG1 := Keep.mk (BG.out.below hb BG.out.lt)
  clear B0 BG hb K1
  by_cases hC : C = 0
  · subst hC
    have q0 := BG1.out.cell 0
    have q1 := BG1.out.cell 1
    have q2 := BG1.out.cell 2
    have q3 := BG1.out.cell 3
    simp at q0 q1 q2 q3
    have n1 := BG1.out.lt
    by_cases hs : 0 ≤ s ∧ s < S
    · obtain ⟨hs0, hs1⟩ := hs
      have hsd : decide (S ≤ s) = false := decide_eq_false (by omega)
      have hsd0 : decide (s < 0) = false := decide_eq_false (by omega)
      have hE2 : Keep (E = if row.all tb = false then 2 else if 64 < row.length then 3 else 0) := ⟨by rw [hE.out, if_neg (by simp), if_neg (by omega)]⟩
      clear hE
      go_wp2_with fail
      go_loopg [26] row.length (fun gg s26 wr => ∃ m : Nat, m ≤ row.length ∧ row.length - m ≤ gg ∧ s26 = .int .i64 (m : Int) ∧ Keep (wr = w1) ∧ Keep (∀ j (hj : j < row.length), j < m → tb row[j] = true))
      case atStart => exact ⟨0, Nat.zero_le _, by omega, rfl, ⟨rfl⟩, ⟨fun j _ hj => absurd hj (Nat.not_lt_zero _)⟩⟩
      case round =>
        obtain ⟨m, hm1, hgm, rfl, HW, HA⟩ := hrel
        have hw := HW.out
        subst hw
        clear HW
        by_cases hlt : m < row.length
        · obtain ⟨ad, e1, hb1, hc1⟩ := HR.out.int m hlt
          subst e1
          replace hc1 := cell_below hc1 B1.out (by rw [add_block]; exact hb1)
          have HT1 := Keep.mk (HT.out row[m])
          generalize hy : row[m] = y at *
          have Hy := Keep.mk hy
          clear hy
          have i1 : (0 : Int) ≤ m := by omega
          have i2 : (m : Int) < row.length := by omega
          by_cases hy0 : 0 ≤ y ∧ y < T
          · obtain ⟨y0, y1⟩ := hy0
            have d0 : decide (y < 0) = false := decide_eq_false (by omega)
            have d1 : decide (T ≤ y) = false := decide_eq_false (by omega)
            have ht1 : Keep (tb y = true) := ⟨by rw [HT1.out]; simp [y0, y1]⟩
            go_wp2_with fail
            go_roundg (row.length - (m + 1))
            case measure => omega
            case rel =>
              refine ⟨m + 1, by omega, by omega, by go_num, ⟨rfl⟩, ⟨fun j hj hjm => ?_⟩⟩
              by_cases e : j = m
              · subst e; rw [Hy.out]; exact ht1.out
              · exact HA.out j hj (by omega)
          · have ht1 : Keep (row.all tb = false) := ⟨List.all_eq_false.2 ⟨y, by rw [← Hy.out]; exact List.getElem_mem _, by rw [HT1.out]; simp; omega⟩⟩
            have hEv : Keep (E = 2) := ⟨by rw [hE2.out, if_pos ht1.out]⟩
            by_cases y0 : y < 0
            · have d0 : decide (y < 0) = true := decide_eq_true y0
              go_wp2_with fail
              try go_ret2
              exact (HP.out _ _).1 (by rw [hEv.out]; decide) (by first | (rw [hEv.out]; done) | (rw [hEv.out]; rfl)) B1.out
            · have d0 : decide (y < 0) = false := decide_eq_false y0
              have d1 : decide (T ≤ y) = true := decide_eq_true (by omega)
              have d2 : T ≤ y := by omega
              have d3 : 0 ≤ y := by omega
              go_wp2_with fail
              try go_ret2
              exact (HP.out _ _).1 (by rw [hEv.out]; decide) (by first | (rw [hEv.out]; done) | (rw [hEv.out]; rfl)) B1.out
        · have hall : Keep (row.all tb = true) := ⟨List.all_eq_true.2 (fun y hy => by
            obtain ⟨j, hj, rfl⟩ := List.getElem_of_mem hy
            exact HA.out j hj (by omega))⟩
          by_cases h64 : 64 < row.length
          · have hEv : Keep (E = 3) := ⟨by rw [hE2.out, if_neg (by rw [hall.out]; decide), if_pos h64]⟩
            have d0 : decide ((64 : Int) < row.length) = true := decide_eq_true (by omega)
            have d1 : (64 : Int) < row.length := by omega
            go_wp2_with fail
            try go_ret2
            exact (HP.out _ _).1 (by rw [hEv.out]; decide) (by first | (rw [hEv.out]; done) | (rw [hEv.out]; rfl)) B1.out
          · have hEv : Keep (E = 0) := ⟨by rw [hE2.out, if_neg (by rw [hall.out]; decide), if_neg h64]⟩
            have d0 : decide ((64 : Int) < row.length) = false := decide_eq_false (by omega)
            have d1 : ¬ (64 : Int) < row.length := by omega
            go_wp2_with fail
            try go_ret2
            have hB : Below w.heap.size w (((wr.alloc (.map #[] 0)).alloc (.map #[] 0)).alloc (.cells #[.int .i64 T, .int .i64 S, .int .i64 st, .slice A ps.length c, .slice Ar row.length cr, .map (some wr.heap.size), .map (some (wr.heap.size + 1))] 71)) :=
              ((B1.out.alloc B1.out.size _).alloc (by have := B1.out.size; simp; omega) _).alloc (by have := B1.out.size; simp; omega) _
            have hsz := B1.out.size
            refine (HP.out _ _).2 hEv.out ⟨⟨T, S, st, ps⟩, row, A, c, Ar, cr, wr.heap.size + 1 + 1, wr.heap.size, wr.heap.size + 1, w.heap.size⟩ rfl rfl rfl rfl ⟨Blk.newAt (by simp), hRP.out.below hB, HR.out.below hB, ?_, ?_, hsz, by show w.heap.size ≤ wr.heap.size + 1; omega, by show w.heap.size ≤ wr.heap.size + 1 + 1; omega, by show wr.heap.size + 1 + 1 ≠ wr.heap.size; omega, by show wr.heap.size + 1 + 1 ≠ wr.heap.size + 1; omega, by show wr.heap.size ≠ wr.heap.size + 1; omega⟩ hB
            · exact ((MapI.made stretchE _ boxK wr).alloc _).alloc _
            · have := (MapI.made stretchE 3 boxK (wr.alloc (.map #[] 0))).alloc (.cells #[.int .i64 T, .int .i64 S, .int .i64 st, .slice A ps.length c, .slice Ar row.length cr, .map (some wr.heap.size), .map (some (wr.heap.size + 1))] 71)
              rwa [World.size_alloc] at this
    · have hEv : Keep (E = 2) := ⟨by rw [hE.out, if_neg (by simp), if_pos hs]⟩
      by_cases s0 : s < 0
      · have d0 : decide (s < 0) = true := decide_eq_true s0
        go_wp2_with fail
        try go_ret2
        exact (HP.out _ _).1 (by rw [hEv.out]; decide) (by first | (rw [hEv.out]; done) | (rw [hEv.out]; rfl)) B1.out
      · have d0 : decide (s < 0) = false := decide_eq_false s0
        have d1 : decide (S ≤ s) = true := decide_eq_true (by omega)
        have d2 : S ≤ s := by omega
        go_wp2_with fail
        try go_ret2
        exact (HP.out _ _).1 (by rw [hEv.out]; decide) (by first | (rw [hEv.out]; done) | (rw [hEv.out]; rfl)) B1.out
  · have hEv : Keep (E = C) := ⟨by rw [hE.out, if_pos hC]⟩
    have d0 : ((C : Int) != 0) = true := by simp [hC]
    have hn : Keep (E ≠ 0) := ⟨by rw [hEv.out]; exact hC⟩
    clear hE hC
    go_wp2_with fail
    try go_ret2
    exact (HP.out _ _).1 hn.out (by first | (rw [hEv.out]; done) | (rw [hEv.out]; rfl)) B1.out
noncomputable def derR (g : Gr) (s : Int) (row : List Int) : Bool × Int := if startE g s row = 0 then (decide (0 < row.length) && decide (0 < numS g row s 0 row.length), 0) else (false, startE g s row)
noncomputable def countR (g : Gr) (s : Int) (row : List Int) : Int × Int := if startE g s row = 0 then (if row.length = 0 then (0, 0) else if 1073741824 < numS g row s 0 row.length then (0, 140) else (((numS g row s 0 row.length : Nat) : Int), 0)) else (0, startE g s row)
theorem cap_big {n : Nat} (h : 1073741824 < n) : 1073741824 < cap n := by unfold cap; omega
theorem cap_small {n : Nat} (h : ¬ 1073741824 < n) : cap n = (n : Int) ∧ ¬ 1073741824 < cap n := by unfold cap; omega
theorem body8 {g : Gr} (h : checkI g = 0) : ∀ q ∈ g.ps, q.body.length ≤ 8 := fun q hq => ((checkI_zero h).2.1 q hq).2
theorem kn_none (x : Cx) : Kn x (fun _ => none) := fun q v h => by cases h
theorem whole_any {g : Gr} {s : Int} {row : List Int} {w : World} {x : Cx} (hE : startE g s row = 0) (hg : x.g = g) (hrow : x.row = row) (hB : x.B0 = w.heap.size) {w1 : World} (hc : Ch x w1 (fun _ => none) (fun _ => none)) (hb : Below w.heap.size w w1) :
    Calls Try.prog 32 #[.pointer (some ⟨x.cB, 0, none⟩), .int .i64 s, .int .i64 0, .int .i64 row.length] w1 fun e w' => e = .returned (.int .i64 (cap (numS g row s 0 row.length))) ∧ Below w.heap.size w w' := by
  subst hg hrow
  obtain ⟨h1, h2, h3, h4⟩ := startE_zero hE
  refine (symbol_any x (GrD.of_check h1) h4 (body8 h1) s 0 x.row.length w1 _ _ h2.1 h2.2 (Nat.zero_le _) (Nat.le_refl _) hc (kn_none x)).mono ?_
  rintro e w2 ⟨rfl, k2, C2, _, G2⟩
  exact ⟨rfl, by rw [← hB] at hb ⊢; exact hb.trans (G2.low hc.nk hc.size)⟩
set_option maxRecDepth 100000 in
set_option maxHeartbeats 4000000 in
theorem derives_any (g : Gr) (s : Int) (row : List Int) (A Ar : Option Addr) (c cr : Nat) (w : World) (h : GrIn w g A c) (hr : Rd eI 1 w w.heap.size Ar row) (hl : row.length ≤ cr) (hm : row.length ≤ 9223372036854775807) :
    Calls Try.prog 11 #[grV g A c, .int .i64 s, .slice Ar row.length cr] w fun e w' => e = .returned (.tuple #[.bool (derR g s row).1, .int .i64 (derR g s row).2]) ∧ Below w.heap.size w w' := by
  have H0 := Keep.mk h
  have HR := Keep.mk hr
  clear h hr
  have K1 := Keep.mk fun W (hW : Below w.heap.size w W) => start_any g s row A Ar c cr W (H0.out.below hW) ((HR.out.below hW).mono hW.size) hl hm
  have hD : Keep (derR g s row = if startE g s row = 0 then (decide (0 < row.length) && decide (0 < numS g row s 0 row.length), 0) else (false, startE g s row)) := ⟨rfl⟩
  generalize derR g s row = R at *
  obtain ⟨R1, R2⟩ := R
  unfold grV at *
  have B0 : Keep (Below w.heap.size w (w.alloc (.cells #[.int .i64 g.T, .int .i64 g.S, .int .i64 g.st, .slice A g.ps.length c] 24))) := ⟨(Below.refl _ _).alloc (Nat.le_refl _) _⟩
  go_enter Try.func11, Try.ntmps11
  go_wp2_with fail
  refine (K1.out _ B0.out).mono ?_
  rintro e w1 (⟨hE, rfl, hb⟩ | ⟨hE, x, x1, x2, x3, rfl, hc, hb⟩)
  · have B1 : Keep (Below w.heap.size w w1) := ⟨below_step B0.out hb B0.out.size⟩
    have hD2 := hD.out
    rw [if_neg hE] at hD2
    simp only [Prod.mk.injEq] at hD2
    obtain ⟨he1, he2⟩ := hD2
    have HR1 := Keep.mk he1
    have HR2 := Keep.mk he2
    clear he1 he2
    have hn : ((startE g s row : Int) != 0) = true := by simp [hE]
    generalize startE g s row = E at *
    clear K1 hD hb hE
    go_wp2_with fail
    go_ret2
    exact ⟨by dsimp only; rw [HR1.out, HR2.out]; rfl, B1.out⟩
  · have KW := Keep.mk (whole_any hE x1 x2 x3 hc hb)
    have B1 : Keep (Below w.heap.size w w1) := ⟨below_step B0.out hb B0.out.size⟩
    have hD2 := hD.out
    rw [if_pos hE] at hD2
    simp only [Prod.mk.injEq] at hD2
    obtain ⟨he1, he2⟩ := hD2
    have HR1 := Keep.mk he1
    have HR2 := Keep.mk he2
    clear he1 he2
    have hcr := cap_range (numS g row s 0 row.length)
    have hcp := cap_pos (numS g row s 0 row.length)
    clear K1 hD hb hE hc x1 x2 x3
    by_cases hl0 : 0 < row.length
    · have t1 : decide ((0 : Int) < row.length) = true := decide_eq_true (by omega)
      have t2 : (0 : Int) < row.length := by omega
      have HD : Keep ((decide (0 < row.length) && decide (0 < numS g row s 0 row.length)) = decide (0 < cap (numS g row s 0 row.length))) := ⟨by rw [decide_eq_true hl0, Bool.true_and]; exact (decide_eq_decide.2 hcp).symm⟩
      rw [HD.out] at HR1
      clear HD hcp
      generalize cap (numS g row s 0 row.length) = cn at *
      go_wp2_with fail
      refine KW.out.mono ?_
      rintro e w2 ⟨rfl, hb2⟩
      have B2 : Keep (Below w.heap.size w w2) := ⟨below_step B0.out hb2 B0.out.size⟩
      clear hb2 KW
      go_wp2_with fail
      go_ret2
      exact ⟨by dsimp only; rw [HR1.out, HR2.out]; rfl, B2.out⟩
    · have t1 : decide ((0 : Int) < row.length) = false := decide_eq_false (by omega)
      have t2 : ¬ (0 : Int) < row.length := by omega
      rw [decide_eq_false hl0, Bool.false_and] at HR1
      go_wp2_with fail
      go_ret2
      exact ⟨by dsimp only; rw [HR1.out, HR2.out]; rfl, B1.out⟩
set_option maxRecDepth 100000 in
set_option maxHeartbeats 4000000 in
theorem count_any (g : Gr) (s : Int) (row : List Int) (A Ar : Option Addr) (c cr : Nat) (w : World) (h : GrIn w g A c) (hr : Rd eI 1 w w.heap.size Ar row) (hl : row.length ≤ cr) (hm : row.length ≤ 9223372036854775807) :
    Calls Try.prog 19 #[grV g A c, .int .i64 s, .slice Ar row.length cr] w fun e w' => e = .returned (.tuple #[.int .i64 (countR g s row).1, .int .i64 (countR g s row).2]) ∧ Below w.heap.size w w' := by
  have H0 := Keep.mk h
  have HR := Keep.mk hr
  clear h hr
  have K1 := Keep.mk fun W (hW : Below w.heap.size w W) => start_any g s row A Ar c cr W (H0.out.below hW) ((HR.out.below hW).mono hW.size) hl hm
  have hD : Keep (countR g s row = if startE g s row = 0 then (if row.length = 0 then (0, 0) else if 1073741824 < numS g row s 0 row.length then (0, 140) else (((numS g row s 0 row.length : Nat) : Int), 0)) else (0, startE g s row)) := ⟨rfl⟩
  generalize countR g s row = R at *
  obtain ⟨R1, R2⟩ := R
  unfold grV at *
  have B0 : Keep (Below w.heap.size w (w.alloc (.cells #[.int .i64 g.T, .int .i64 g.S, .int .i64 g.st, .slice A g.ps.length c] 24))) := ⟨(Below.refl _ _).alloc (Nat.le_refl _) _⟩
  go_enter Try.func19, Try.ntmps19
  go_wp2_with fail
  refine (K1.out _ B0.out).mono ?_
  rintro e w1 (⟨hE, rfl, hb⟩ | ⟨hE, x, x1, x2, x3, rfl, hc, hb⟩)
  · have B1 : Keep (Below w.heap.size w w1) := ⟨below_step B0.out hb B0.out.size⟩
    have hD2 := hD.out
    rw [if_neg hE] at hD2
    simp only [Prod.mk.injEq] at hD2
    obtain ⟨he1, he2⟩ := hD2
    have HR1 := Keep.mk he1
    have HR2 := Keep.mk he2
    clear he1 he2
    have hn : ((startE g s row : Int) != 0) = true := by simp [hE]
    generalize startE g s row = E at *
    clear K1 hD hb hE
    go_wp2_with fail
    go_ret2
    exact ⟨by dsimp only; rw [HR1.out, HR2.out]; rfl, B1.out⟩
  · have KW := Keep.mk (whole_any hE x1 x2 x3 hc hb)
    have B1 : Keep (Below w.heap.size w w1) := ⟨below_step B0.out hb B0.out.size⟩
    have hD2 := Keep.mk hD.out
    rw [if_pos hE] at hD2
    have hcr := cap_range (numS g row s 0 row.length)
    clear K1 hD hb hE hc x1 x2 x3
    by_cases hl0 : row.length = 0
    · have hD3 := hD2.out
      rw [if_pos hl0] at hD3
      simp only [Prod.mk.injEq] at hD3
      obtain ⟨he1, he2⟩ := hD3
      have HR1 := Keep.mk he1
      have HR2 := Keep.mk he2
      clear he1 he2
      have t1 : ((row.length : Int) == 0) = true := beq_iff_eq.2 (by omega)
      clear KW hD2 hl0
      go_wp2_with fail
      go_ret2
      exact ⟨by dsimp only; rw [HR1.out, HR2.out]; rfl, B1.out⟩
    · have t1 : ((row.length : Int) == 0) = false := beq_eq_false_iff_ne.2 (by omega)
      have hD3 := hD2.out
      rw [if_neg hl0] at hD3
      by_cases hN : 1073741824 < numS g row s 0 row.length
      · rw [if_pos hN] at hD3
        simp only [Prod.mk.injEq] at hD3
        obtain ⟨he1, he2⟩ := hD3
        have HR1 := Keep.mk he1
        have HR2 := Keep.mk he2
        clear he1 he2
        have t2 := cap_big hN
        clear hD2 hl0 hN
        generalize cap (numS g row s 0 row.length) = cn at *
        go_wp2_with fail
        refine KW.out.mono ?_
        rintro e w2 ⟨rfl, hb2⟩
        have B2 : Keep (Below w.heap.size w w2) := ⟨below_step B0.out hb2 B0.out.size⟩
        clear hb2 KW
        go_wp2_with fail
        go_ret2
        exact ⟨by dsimp only; rw [HR1.out, HR2.out]; rfl, B2.out⟩
      · rw [if_neg hN] at hD3
        simp only [Prod.mk.injEq] at hD3
        obtain ⟨he1, he2⟩ := hD3
        have HR1 := Keep.mk he1
        have HR2 := Keep.mk he2
        clear he1 he2
        obtain ⟨hcn, t2⟩ := cap_small hN
        rw [← hcn] at HR1
        clear hD2 hl0 hN hcn
        generalize cap (numS g row s 0 row.length) = cn at *
        go_wp2_with fail
        refine KW.out.mono ?_
        rintro e w2 ⟨rfl, hb2⟩
        have B2 : Keep (Below w.heap.size w w2) := ⟨below_step B0.out hb2 B0.out.size⟩
        clear hb2 KW
        go_wp2_with fail
        go_ret2
        exact ⟨by dsimp only; rw [HR1.out, HR2.out]; rfl, B2.out⟩
end Go.Proofs.Ytadabkkkalgehaa.H
