import Derived.Test.YtaooejidkeojjaaDoorWWords
import Derived.Test.YtaooejidkeojjaaDoorProg
import Derived.ProofKit
import Derived.Lib.SmallJoins
import Derived.OpenShut
import Derived.ShutString
import Derived.ChangeOld
import Derived.Below
import Derived.SizedLaws
import Derived.Deep.Slices
import Derived.Deep.Fields
import Derived.ChangeSame
import Derived.WalkKit
import Derived.Deep.LoopGhost
import Derived.Deep.QuietTactic
import Derived.BigQuiet
import Derived.Deep.RegionHeld3
import Derived.Deep.AppendLies
import Derived.Maps.AppendAt
import Derived.Deep.OwnRows
import Derived.KernelRfl
import Derived.Lib.Hide
import Derived.Shelf.Abstract
import Derived.Deep.DeepCutAuto
import Derived.Deep.CutBlock
import Derived.Deep.RegionWith
import Derived.Maps.OwnOps
import Derived.Maps.OwnSet
import Derived.Maps.Ext
import Derived.DeepKeys4
import Derived.RowKit
import Derived.StillTailTactics
import Derived.Deep.RegionLaw
import Derived.Laws.AppendOwnNone
import Derived.Lib.SliceRun
import Derived.Laws.CopyOwn
namespace Go.Proofs.YtaooejidkeojjaaDoor.Rg
open Go.RowKit Go.Proofs.YtaooejidkeojjaaDoorW.PrintWords Go.ChangeShapes Go.WideShapes Go.ChangeAt Go.Joins Go.Deep
set_option linter.unusedVariables false
set_option linter.unusedSimpArgs false
set_option maxRecDepth 100000
section
variable {H : Type} {enc : TypeId × Value → H} {w : World}
def Rds {α : Type} (enc : TypeId × Value → H) (w : World) (t : TypeId) (d : Kd α) (fuel : Nat) : Prop :=
  ∀ cs y, DataW.trod enc Tryd.prog w 0 (fun _ => true) true fuel t cs = some y → ∃ x, d.K w x cs
theorem rds_int {t : TypeId} {k : IntKind} (ht : Tryd.prog.underlying t = some (.int k)) (n : Nat) : Rds enc w t (Kd.int k) n := fun cs y h => by
  obtain ⟨x, rfl, _⟩ := DataW.trod_int ht h
  exact ⟨x, rfl⟩
theorem rds_bool {t : TypeId} (ht : Tryd.prog.underlying t = some .bool) (n : Nat) : Rds enc w t Kd.bool n := fun cs y h => by
  obtain ⟨x, rfl, _⟩ := DataW.trod_bool ht h
  exact ⟨x, rfl⟩
theorem choose_lt {α : Type} {n : Nat} {Q : Nat → α → Prop} (h : ∀ i, i < n → ∃ x, Q i x) : ∃ l : List α, l.length = n ∧ ∀ (i : Nat) (x : α), l[i]? = some x → Q i x := by
  induction n with
  | zero => exact ⟨[], rfl, fun i x hx => by simp at hx⟩
  | succ n ih =>
    obtain ⟨l, hl, hq⟩ := ih (fun i hi => h i (by omega))
    obtain ⟨x, hx⟩ := h n (by omega)
    refine ⟨l ++ [x], by simp [hl], fun i y hy => ?_⟩
    rcases Nat.lt_or_ge i n with hi | hi
    · rw [List.getElem?_append_left (by omega)] at hy
      exact hq i y hy
    · rw [List.getElem?_append_right (by omega)] at hy
      have : i = n := by
        rcases Nat.eq_or_lt_of_le hi with e | e
        · exact e.symm
        · rw [List.getElem?_eq_none (by simp; omega)] at hy; cases hy
      subst this
      simp [hl] at hy
      subst hy
      exact hx
theorem add_add' (a : Addr) (m n : Nat) : (a.add m).add n = a.add (m + n) := Go.Deep.add_add a m n
theorem row_of {α : Type} {d : Kd α} {e : TypeId} {A : Option Addr} {len : Nat} (hz : Tryd.prog.cellsOf e = d.sz) (hm : len ≤ 9223372036854775807)
    (h : 0 < len → ∃ a, A = some a ∧ ∀ i, i < len → ∃ cs x, w.cells? 0 (a.add (i * d.sz)) d.sz = some cs ∧ d.K w x cs) : ∃ xs : List α, xs.length = len ∧ d.C w A len xs := by
  by_cases h0 : len = 0
  · subst h0
    exact ⟨[], rfl, rfl, by omega, fun h => absurd h (Nat.lt_irrefl _)⟩
  · obtain ⟨a, rfl, hi⟩ := h (by omega)
    obtain ⟨l, hl, hq⟩ := choose_lt (Q := fun i x => ∃ cs, w.cells? 0 (a.add (i * d.sz)) d.sz = some cs ∧ d.K w x cs) (fun i hl => by
      obtain ⟨cs, x, h1, h2⟩ := hi i hl
      exact ⟨x, cs, h1, h2⟩)
    refine ⟨l, hl, hl, hm, fun _ => ⟨a, rfl, fun j x hx => ?_⟩⟩
    obtain ⟨cs, h1, h2⟩ := hq j x hx
    obtain ⟨_, hlen, hat⟩ := World.cells?_some h1
    refine ⟨cs, hlen, h2, fun i u hu => ?_⟩
    have hil : i < d.sz := by rw [← hlen]; exact (List.getElem?_eq_some_iff.1 hu).1
    rw [← add_add', hat i hil, hu]
theorem rds_slice {α : Type} {d : Kd α} {t e : TypeId} (ht : Tryd.prog.underlying t = some (.slice e)) (hz : Tryd.prog.cellsOf e = d.sz) {fuel : Nat} (hd : ∀ n, n < fuel → Rds enc w e d n) : Rds enc w t (Kd.slice e d) fuel := fun cs y h => by
  rcases DataW.trod_slice ht h with ⟨rfl, _⟩ | ⟨a, len, cap, elems, rest, n, rfl, rfl, _, _, hl, hm, hlen, hel, _, _⟩
  · exact ⟨[], none, 0, rfl, Nat.le_refl _, rfl, by simp, fun h => absurd h (Nat.lt_irrefl _)⟩
  · obtain ⟨xs, hxl, hC⟩ := row_of (w := w) (d := d) (e := e) (A := some a) (len := len) hz (Nat.le_trans hl hm) (fun _ => ⟨a, rfl, fun i hi => by
      have h1 := hel i hi
      rw [List.getElem?_eq_getElem (by omega), hz] at h1
      obtain ⟨cs', h2, h3⟩ := Option.bind_eq_some_iff.1 h1
      obtain ⟨x, hx⟩ := hd n (Nat.lt_succ_self _) _ _ h3
      exact ⟨cs', x, h2, hx⟩⟩)
    subst hxl
    exact ⟨xs, some a, cap, rfl, hl, hC⟩
theorem fld_last {α : Type} {d : Kd α} {t : TypeId} {n o s : Nat} {cs : List Value} {y : DataW H × List MemPlace} (hd : Rds enc w t d n) (hl : cs.length = o + s)
    (h : DataW.trod enc Tryd.prog w 0 (fun _ => true) true n t ((cs.drop o).take s) = some y) : ∃ x, d.K w x (cs.drop o) := by
  have e : (cs.drop o).take s = cs.drop o := List.take_of_length_le (by rw [List.length_drop]; omega)
  rw [e] at h
  exact hd _ _ h
theorem fld_cons {α β : Type} {d : Kd α} {b : Kd β} {t : TypeId} {n o s : Nat} {cs : List Value} {y : DataW H × List MemPlace} (hd : Rds enc w t d n)
    (h : DataW.trod enc Tryd.prog w 0 (fun _ => true) true n t ((cs.drop o).take s) = some y) (hb : ∃ x, b.K w x (cs.drop (o + s))) : ∃ x, (Kd.pair d b).K w x (cs.drop o) := by
  obtain ⟨x, hx⟩ := hd _ _ h
  obtain ⟨z, hz⟩ := hb
  refine ⟨(x, z), (cs.drop o).take s, cs.drop (o + s), ?_, hx, hz⟩
  rw [← List.drop_drop, List.take_append_drop]
theorem fld_iso {α β : Type} {d : Kd α} {f : β → α} {cs : List Value} (g : α → β) (hg : ∀ x, f (g x) = x) (h : ∃ x, d.K w x (cs.drop 0)) : ∃ x, (Kd.iso d f).K w x cs := by
  obtain ⟨x, hx⟩ := h
  exact ⟨g x, by show d.K w (f (g x)) cs; rw [hg]; exact hx⟩
theorem str_of {t : TypeId} {fs : Array Field} {fuel : Nat} {cs : List Value} {y : DataW H × List MemPlace} (ht : Tryd.prog.underlying t = some (.struct fs)) (h : DataW.trod enc Tryd.prog w 0 (fun _ => true) true fuel t cs = some y) :
    ∃ n, fuel = n + 1 ∧ cs.length = Tryd.prog.cellsOf t ∧ ∀ (i : Nat) (f : Field), fs[i]? = some f → ∃ z, DataW.trod enc Tryd.prog w 0 (fun _ => true) true n f.type ((cs.drop f.offset).take (Tryd.prog.cellsOf f.type)) = some z := by
  obtain ⟨xs, n, rfl, _, hl, hlen, hf⟩ := DataW.trod_struct ht h
  refine ⟨n, rfl, hl, fun i f hi => ?_⟩
  have hlt : i < fs.size := (Array.getElem?_eq_some_iff.1 hi).1
  have := hf i f hi
  rw [List.getElem?_eq_getElem (by omega)] at this
  exact ⟨_, this⟩
theorem arg_agg {α : Type} {d : Kd α} {t : TypeId} {fs : Array Field} {b0 : Nat} {v : Value} {x : DataW H} {p : List MemPlace} (ht : Tryd.prog.underlying t = some (.struct fs)) (hv : Value.okWide Tryd.prog w .any b0 t v)
    (h : DataW.Trod enc Tryd.prog w 0 (fun _ => true) true t v x p) (hd : ∀ n, Rds enc w t d n) : ∃ a cs, v = .agg cs.toArray ∧ d.K w a cs := by
  obtain ⟨cs, rfl, hsz⟩ := okWide_struct ht hv
  obtain ⟨fuel, hf⟩ := h
  obtain ⟨a, ha⟩ := hd fuel _ _ hf
  exact ⟨a, cs.toList, by simp, ha⟩
end
end Go.Proofs.YtaooejidkeojjaaDoor.Rg
namespace Go.Proofs.YtaooejidkeojjaaDoor.H
open Go.RowKit
structure Keep (p : Prop) : Prop where mk :: (out : p)
theorem cell_lt {w : World} {a : Addr} {v : Value} (h : w.cell? a = some v) : a.block < w.heap.size := World.block_lt_of_cell? w a h
theorem cell_below {B : Nat} {w w' : World} {a : Addr} {v : Value} (h : w.cell? a = some v) (hb : Below B w w') (ha : a.block < B) : w'.cell? a = some v := (hb.cell ha).trans h
theorem below_step {B B' : Nat} {a b c : World} (h : Below B a b) (k : Below B' b c) (hB : B ≤ B') : Below B a c := h.trans (k.mono hB)
theorem below_drew1 {B : Nat} {w W : World} (h : Below B w W) : Below B w W.drew := h.drew
theorem below_drewN {B : Nat} {w W : World} (h : Below B w W) (n : Nat) : Below B w (W.drewN n) := ⟨h.os, h.tape, h.output, h.size, h.block⟩
theorem add_block (a : Addr) (n : Nat) : (a.add n).block = a.block := by unfold Addr.add; split <;> rfl
def Rd {α : Type} (enc : α → List Value) (k : Nat) (w : World) (B : Nat) (A : Option Addr) (xs : List α) : Prop :=
  ∀ i (h : i < xs.length), ∃ ad, A = some ad ∧ ad.block < B ∧ ∀ j u, (enc xs[i])[j]? = some u → w.cell? ((ad.add (i * k)).add j) = some u
def eI (x : Int) : List Value := [.int .i64 x]
def eB (x : Bool) : List Value := [.bool x]
theorem Rd.below {α : Type} {enc : α → List Value} {k : Nat} {w w' : World} {B : Nat} {A : Option Addr} {xs : List α} (h : Rd enc k w B A xs) (hb : Below B w w') : Rd enc k w' B A xs := by
  intro i hi
  obtain ⟨ad, e, hB, hc⟩ := h i hi
  exact ⟨ad, e, hB, fun j u hu => cell_below (hc j u hu) hb (by rw [add_block, add_block]; exact hB)⟩
theorem Rd.mono {α : Type} {enc : α → List Value} {k : Nat} {w : World} {B B' : Nat} {A : Option Addr} {xs : List α} (h : Rd enc k w B A xs) (hB : B ≤ B') : Rd enc k w B' A xs := by
  intro i hi
  obtain ⟨ad, e, hb, hc⟩ := h i hi
  exact ⟨ad, e, by omega, hc⟩
theorem Rd.get1 {α : Type} {enc : α → List Value} {w : World} {B : Nat} {A : Option Addr} {xs : List α} (v : α → Value) (he : ∀ x, enc x = [v x]) (h : Rd enc 1 w B A xs) (i : Nat) (hi : i < xs.length) :
    ∃ ad, A = some ad ∧ ad.block < B ∧ w.cell? (ad.add i) = some (v xs[i]) := by
  obtain ⟨ad, e, hb, hc⟩ := h i hi
  have := hc 0 (v xs[i]) (by rw [he]; rfl)
  exact ⟨ad, e, hb, by simpa [Addr.add] using this⟩
theorem Rd.int {w : World} {B : Nat} {A : Option Addr} {xs : List Int} (h : Rd eI 1 w B A xs) (i : Nat) (hi : i < xs.length) :
    ∃ ad, A = some ad ∧ ad.block < B ∧ w.cell? (ad.add i) = some (.int .i64 xs[i]) := h.get1 (fun x => .int .i64 x) (fun _ => rfl) i hi
theorem Rd.bool {w : World} {B : Nat} {A : Option Addr} {xs : List Bool} (h : Rd eB 1 w B A xs) (i : Nat) (hi : i < xs.length) :
    ∃ ad, A = some ad ∧ ad.block < B ∧ w.cell? (ad.add i) = some (.bool xs[i]) := h.get1 (fun x => .bool x) (fun _ => rfl) i hi
structure Pr where
  head : Int
  body : List Int
  right : Bool
structure Gr where
  T : Int
  S : Int
  st : Int
  ps : List Pr
def RdP (w : World) (B : Nat) (A : Option Addr) (ps : List Pr) : Prop :=
  ∀ i (h : i < ps.length), ∃ ad Ab cb, A = some ad ∧ ad.block < B ∧ w.cell? (ad.add (i * 3)) = some (.int .i64 ps[i].head) ∧
    w.cell? ⟨(ad.add (i * 3)).block, (ad.add (i * 3)).off + 1, none⟩ = some (.slice Ab ps[i].body.length cb) ∧
    w.cell? ⟨(ad.add (i * 3)).block, (ad.add (i * 3)).off + 2, none⟩ = some (.bool ps[i].right) ∧ ps[i].body.length ≤ cb ∧ Rd eI 1 w B Ab ps[i].body
theorem RdP.below {w w' : World} {B : Nat} {A : Option Addr} {ps : List Pr} (h : RdP w B A ps) (hb : Below B w w') : RdP w' B A ps := by
  intro i hi
  obtain ⟨ad, Ab, cb, e, hB, c0, c1, c2, hl, hr⟩ := h i hi
  exact ⟨ad, Ab, cb, e, hB, cell_below c0 hb (by rw [add_block]; exact hB), cell_below c1 hb (by show (ad.add _).block < B; rw [add_block]; exact hB),
    cell_below c2 hb (by show (ad.add _).block < B; rw [add_block]; exact hB), hl, hr.below hb⟩
theorem RdP.mono {w : World} {B B' : Nat} {A : Option Addr} {ps : List Pr} (h : RdP w B A ps) (hB : B ≤ B') : RdP w B' A ps := by
  intro i hi
  obtain ⟨ad, Ab, cb, e, hb, c0, c1, c2, hl, hr⟩ := h i hi
  exact ⟨ad, Ab, cb, e, by omega, c0, c1, c2, hl, hr.mono hB⟩
theorem RdP.take {w : World} {B : Nat} {A : Option Addr} {ps : List Pr} (h : RdP w B A ps) (n : Nat) : RdP w B A (ps.take n) := by
  intro i hi
  have hi' : i < ps.length := by rw [List.length_take] at hi; omega
  have := h i hi'
  rw [List.getElem_take]
  exact this
def Blk (w : World) (g : Nat) (t : TypeId) (cs : Array Value) : Prop := w.heap[g]? = some (.cells cs t (0, 0))
section
variable {w w' : World} {g : Nat} {t : TypeId} {cs : Array Value}
theorem Blk.lt (h : Blk w g t cs) : g < w.heap.size := by
  rcases Nat.lt_or_ge g w.heap.size with hlt | hge
  · exact hlt
  · unfold Blk at h; rw [Array.getElem?_eq_none hge] at h; cases h
theorem Blk.cell (h : Blk w g t cs) (i : Nat) : w.cell? ⟨g, i, none⟩ = cs[i]? := cell_of_row w g i cs t (0, 0) h
theorem Blk.frozen (h : Blk w g t cs) (i : Nat) : w.frozen? ⟨g, i, none⟩ = false := by
  unfold Blk at h
  simp [World.frozen?, h]
theorem Blk.new (w : World) (t : TypeId) (cs : Array Value) : Blk (w.alloc (.cells cs t)) w.heap.size t cs := heap_alloc_new w _
theorem Blk.newAt (hg : g = w.heap.size) : Blk (w.alloc (.cells cs t)) g t cs := by subst hg; exact Blk.new w t cs
theorem Blk.drew (h : Blk w g t cs) : Blk w.drew g t cs := h
theorem Blk.drewN (h : Blk w g t cs) (n : Nat) : Blk (w.drewN n) g t cs := h
theorem Blk.alloc (h : Blk w g t cs) (o : Obj) : Blk (w.alloc o) g t cs := (Below.heap_alloc w o g h.lt).trans h
theorem Blk.set_ (h : Blk w g t cs) (i : Nat) (u : Value) : Blk (w.setCell ⟨g, i, none⟩ u) g t (cs.setIfInBounds i u) := by
  unfold Blk at h ⊢
  simp [World.setCell, Array.getElem?_modify, h]
theorem Blk.far (h : Blk w g t cs) {p : Addr} (hp : g ≠ p.block) (u : Value) : Blk (w.setCell p u) g t cs := (Below.heap_setCell w p u g hp).trans h
theorem Blk.below {B : Nat} (h : Blk w g t cs) (hb : Below B w w') (hg : g < B) : Blk w' g t cs := (hb.block g hg).trans h
theorem Blk.grown {row : Option Nat} (h : Blk w g t cs) (hb : w.grownBy w' row) (hg : some g ≠ row) : Blk w' g t cs := (hb.block g h.lt hg).trans h
end
def bools (xs : List Bool) : Array Value := (xs.map Value.bool).toArray
def ints (k : IntKind) (xs : List Int) : Array Value := (xs.map (Value.int k)).toArray
theorem bools_at (xs : List Bool) (i : Nat) (h : i < xs.length) : (bools xs)[i]? = some (.bool xs[i]) := by simp [bools, h]
theorem bools_set (xs : List Bool) (i : Nat) (b : Bool) : (bools xs).setIfInBounds i (.bool b) = bools (xs.set i b) := by simp [bools, List.map_set]
theorem rd_bools {w : World} {g : Nat} {t : TypeId} {xs : List Bool} {B : Nat} (h : Blk w g t (bools xs)) (hB : g < B) : Rd eB 1 w B (some ⟨g, 0, none⟩) xs := by
  intro i hi
  refine ⟨_, rfl, hB, fun j u hu => ?_⟩
  have hj : j = 0 := by
    rcases j with _ | j
    · rfl
    · simp [eB] at hu
  subst hj
  have : ((Addr.mk g 0 none).add (i * 1)).add 0 = ⟨g, i, none⟩ := by by_cases h0 : i = 0 <;> simp [Addr.add, h0]
  rw [this, h.cell i, bools_at xs i hi]
  simpa [eB] using hu
theorem rd_bools_drop {w : World} {g : Nat} {t : TypeId} {xs : List Bool} {B : Nat} (k : Nat) (h : Blk w g t (bools xs)) (hB : g < B) : Rd eB 1 w B (some ⟨g, k, none⟩) (xs.drop k) := by
  intro i hi
  refine ⟨_, rfl, hB, fun j u hu => ?_⟩
  have hj : j = 0 := by
    rcases j with _ | j
    · rfl
    · simp [eB] at hu
  subst hj
  have : ((Addr.mk g k none).add (i * 1)).add 0 = ⟨g, k + i, none⟩ := by by_cases h0 : i = 0 <;> simp [Addr.add, h0]
  rw [List.length_drop] at hi
  rw [this, h.cell (k + i), bools_at xs (k + i) (by omega)]
  simpa [eB] using hu
theorem madeCells_bools (n : Nat) : madeCells #[Value.bool false] n = bools (List.replicate n false) := by
  apply Array.ext
  · simp [bools, madeCells]
  · intro i h1 h2
    simp [bools, madeCells, Nat.mod_one]
theorem madeCells_ints (k : IntKind) (n : Nat) : madeCells #[Value.int k 0] n = ints k (List.replicate n 0) := by
  apply Array.ext
  · simp [ints, madeCells]
  · intro i h1 h2
    simp [ints, madeCells, Nat.mod_one]
def OwnI (w : World) (B : Nat) (v : Value) (xs : List Int) : Prop := w.ownsRow B 3 1 v xs.length (xs.map (Value.int .i64))
theorem OwnI.nil (w : World) (B : Nat) : OwnI w B (.slice none 0 0) [] := ⟨by simp, .inl ⟨rfl, rfl⟩⟩
theorem OwnI.open_ {w : World} {B : Nat} {v : Value} {xs : List Int} (h : OwnI w B v xs) :
    ∃ A c, v = .slice A xs.length c ∧ xs.length ≤ c ∧ c ≤ maxLen ∧ Rd eI 1 w w.heap.size A xs ∧ (∀ ad, A = some ad → B ≤ ad.block ∧ ad.off = 0 ∧ ad.spot = none) ∧ (A = none → xs = []) := by
  obtain ⟨h1, h2⟩ := h
  rcases h2 with ⟨rfl, h0⟩ | ⟨g, cap, cur, rfl, hB, hh, hn, hc, hs, ht⟩
  · have : xs = [] := List.eq_nil_of_length_eq_zero h0
    subst this
    exact ⟨none, 0, rfl, by simp, by simp [maxLen], fun i hi => absurd hi (by simp), fun ad h => (by cases h), fun _ => rfl⟩
  · have hlt : g < w.heap.size := by
      rcases Nat.lt_or_ge g w.heap.size with h | h
      · exact h
      · rw [Array.getElem?_eq_none h] at hh; cases hh
    refine ⟨some ⟨g, 0, none⟩, cap, rfl, hn, hc, fun i hi => ⟨_, rfl, hlt, fun j u hu => ?_⟩, fun ad h => by injection h with h; subst h; exact ⟨hB, rfl, rfl⟩, fun h => by cases h⟩
    have hj : j = 0 := by
      rcases j with _ | j
      · rfl
      · simp [eI] at hu
    subst hj
    have : ((Addr.mk g 0 none).add (i * 1)).add 0 = ⟨g, i, none⟩ := by by_cases h0 : i = 0 <;> simp [Addr.add, h0]
    rw [this]
    have e : w.cell? ⟨g, i, none⟩ = cur[i]? := cell_of_row w g i cur _ _ hh
    rw [e]
    have h3 : (cur.toList.take (xs.length * 1))[i]? = (xs.map (Value.int .i64))[i]? := by rw [ht]
    rw [List.getElem?_take, if_pos (by omega)] at h3
    simp only [Array.getElem?_toList] at h3
    rw [h3]
    simp [hi] at hu ⊢
    simpa [eI] using hu
theorem OwnI.below {w w' : World} {B : Nat} {v : Value} {xs : List Int} (h : OwnI w B v xs) (hb : Below w.heap.size w w') : OwnI w' B v xs := by
  obtain ⟨h1, h2⟩ := h
  refine ⟨h1, ?_⟩
  rcases h2 with h0 | ⟨g, cap, cur, hv, hB, hh, hr⟩
  · exact .inl h0
  · refine .inr ⟨g, cap, cur, hv, hB, ?_, hr⟩
    have hlt : g < w.heap.size := by
      rcases Nat.lt_or_ge g w.heap.size with h | h
      · exact h
      · rw [Array.getElem?_eq_none h] at hh; cases hh
    exact (hb.block g hlt).trans hh
theorem OwnI.mono {w : World} {B B' : Nat} {v : Value} {xs : List Int} (h : OwnI w B v xs) (hB : B' ≤ B) : OwnI w B' v xs := by
  obtain ⟨h1, h2⟩ := h
  refine ⟨h1, ?_⟩
  rcases h2 with h0 | ⟨g, cap, cur, hv, hB, hr⟩
  · exact .inl h0
  · exact .inr ⟨g, cap, cur, hv, by omega, hr⟩
def u64s (xs : List Nat) : Array Value := (xs.map fun x : Nat => Value.int .u64 (x : Int)).toArray
theorem u64s_at (xs : List Nat) (i : Nat) (h : i < xs.length) : (u64s xs)[i]? = some (.int .u64 (xs.getD i 0 : Nat)) := by simp [u64s, h]
theorem u64s_set (xs : List Nat) (i : Nat) (b : Nat) : (u64s xs).setIfInBounds i (.int .u64 (b : Int)) = u64s (xs.set i b) := by simp [u64s, List.map_set]
theorem madeCells_u64s (n : Nat) : madeCells #[Value.int .u64 0] n = u64s (List.replicate n 0) := by
  apply Array.ext
  · simp [u64s, madeCells]
  · intro i h1 h2
    simp [u64s, madeCells, Nat.mod_one]
theorem wraps_u64 (n : Int) (h₀ : 0 ≤ n) (h₁ : n < 2 ^ 64) : IntKind.u64.wrap n = n := by simp [IntKind.wrap, IntKind.bits, IntKind.signed]; omega
theorem or64 (a b : Nat) (ha : a < 2 ^ 64) (hb : b < 2 ^ 64) : bits .or .u64 (a : Int) (b : Int) = ((a ||| b : Nat) : Int) := (bits_nat .u64 64 (by decide) wraps_u64 a b ha hb).2
theorem and64 (a b : Nat) (ha : a < 2 ^ 64) (hb : b < 2 ^ 64) : bits .and .u64 (a : Int) (b : Int) = ((a &&& b : Nat) : Int) := (bits_nat .u64 64 (by decide) wraps_u64 a b ha hb).1
end Go.Proofs.YtaooejidkeojjaaDoor.H
namespace Go.Proofs.YtaooejidkeojjaaDoor.H
open Go.RowKit
set_option linter.unusedVariables false
set_option linter.unusedSimpArgs false
theorem info_int : (Tryd.prog.info? 3).map (fun i => (i.zero, i.size, i.bytes)) = some (some (.int .i64 0), 1, 8) := by kernel_rfl
theorem OwnI.blk {w : World} {B : Nat} {v : Value} {xs : List Int} (h : OwnI w B v xs) (g : Nat) (hg : v.ownBlock = some g) : B ≤ g := by
  rcases h.2 with ⟨rfl, _⟩ | ⟨g', cap, cur, rfl, hB, _⟩
  · simp [Value.ownBlock] at hg
  · simp [Value.ownBlock] at hg
    omega
theorem OwnI.blk_ne {w : World} {B : Nat} {v : Value} {xs : List Int} (h : OwnI w B v xs) {g : Nat} {t : TypeId} {cs : Array Value} (hg : Blk w g t cs) (ht : t ≠ 3) : some g ≠ v.ownBlock := by
  rcases h.2 with ⟨rfl, _⟩ | ⟨g', cap, cur, rfl, hB, hh, _⟩
  · simp [Value.ownBlock]
  · intro e
    have e' : g = g' := by simpa [Value.ownBlock] using e
    subst e'
    unfold Blk at hg
    rw [hg] at hh
    injection hh with hh
    injection hh with _ h2
    exact ht h2
structure Grew (w w' : World) (B : Nat) (v v' : Value) (xs ys : List Int) : Prop where
  own : OwnI w' B v' ys
  low : Below B w w'
  blk : ∀ g t cs, Blk w g t cs → t ≠ 3 → Blk w' g t cs
theorem wpl_append_int {ops : Array Oper} {rest : List Oper} {o : Oper} {a : Act} {Q : Exit → Act → World → Prop} (w : World) (hgd : o.guard = none) (s x : Operand)
    (ho : o.op = .call { callee := .builtin .append, args := #[s, x], argTypes := #[44, 44] })
    (B : Nat) (v : Value) (xs : List Int) (hs : a.eval s = v) (hown : OwnI w B v xs) (g : Nat) (y : Int) (hx : a.eval x = .slice (some ⟨g, 0, none⟩) 1 1) (hc : w.cell? ⟨g, 0, none⟩ = some (.int .i64 y))
    (hl : xs.length < 8796093022208) (hbase : B ≤ w.heap.size)
    (h : ∀ v' w', Grew w w' B v v' xs (xs ++ [y]) → wpList Tryd.prog ops Q rest (a.put o.dst v') w') : wpList Tryd.prog ops Q (o :: rest) a w := by
  obtain ⟨i0, hi0, hz0, hz1, hz2⟩ := info_parts info_int
  refine wpList_append_own w hgd s x 44 ho B 3 i0 (.int .i64 0) 1 8 Tryd.underlying44 hi0 hz0 hz1 hz2 rfl (by decide) v xs.length (xs.map (Value.int .i64)) hs hown ⟨g, 0, none⟩ 1 1 [.int .i64 y] hx rfl
    (fun j u hu => ?_) (by simp [Value.oneCell']) (by simp only [maxLen]; omega) (by omega) hbase (fun v' w' h1 h2 _ => h v' w' ⟨?_, ?_, ?_⟩)
  · rcases j with _ | j
    · simp at hu
      subst hu
      exact hc
    · simp at hu
  · unfold OwnI
    rw [List.map_append, List.length_append]
    exact h1
  · exact (Below.refl _ _).grown h2 hbase (fun b hb => hown.blk b hb)
  · intro b t cs hb ht
    exact hb.grown h2 (hown.blk_ne hb ht)
end Go.Proofs.YtaooejidkeojjaaDoor.H
namespace Go.Proofs.YtaooejidkeojjaaDoor.H
open Go.RowKit
set_option linter.unusedVariables false
set_option linter.unusedSimpArgs false
theorem slicesEqual (A1 A2 : Option Addr) (n1 n2 c1 c2 : Nat) (xs ys : List Int) (w : World)
    (hn1 : n1 = xs.length) (hn2 : n2 = ys.length) (hl1 : xs.length ≤ 9223372036854775807)
    (h1 : Rd eI 1 w w.heap.size A1 xs) (h2 : Rd eI 1 w w.heap.size A2 ys) :
    Calls Tryd.prog 61 #[.slice A1 n1 c1, .slice A2 n2 c2] w fun e w' => e = .returned (.bool (decide (xs = ys))) ∧ ∃ n, w' = w.drewN n := by
  subst hn1 hn2
  by_cases hne : xs.length = ys.length
  · have hne' : ((xs.length : Int) != (ys.length : Int)) = false := by simp [hne]
    have Hne := Lib.hid hne
    clear hne
    go_enter Tryd.func61, Tryd.ntmps61
    go_wp2
    go_loopg [5, 13] xs.length (fun gg _ s13 wr => ∃ k : Nat, k ≤ xs.length ∧ xs.length - k ≤ gg ∧ s13 = .int .i64 k ∧ (∃ n, wr = w.drewN n) ∧ Keep (∀ j, j < k → xs[j]? = ys[j]?))
    case atStart => exact ⟨0, Nat.zero_le _, by omega, rfl, ⟨0, rfl⟩, ⟨fun j hj => absurd hj (Nat.not_lt_zero _)⟩⟩
    case round =>
      obtain ⟨k, hk, hg, rfl, ⟨n, rfl⟩, HA⟩ := hrel
      by_cases hlt : k < xs.length
      · have hlt2 : k < ys.length := by have := Hne.out; omega
        obtain ⟨a1, rfl, hb1, hc1⟩ := h1.int k hlt
        obtain ⟨a2, rfl, hb2, hc2⟩ := h2.int k hlt2
        clear h1 h2
        generalize hx : xs[k] = x at *
        generalize hy : ys[k] = y at *
        have Hx := Lib.hid hx
        have Hy := Lib.hid hy
        clear hx hy
        have i1 : (0:Int) ≤ k := by omega
        have i2 : (k : Int) < xs.length := by omega
        have i3 : (k : Int) < ys.length := by omega
        by_cases hxy : x = y
        · have t : ((x : Int) != y) = false := by simp [hxy]
          have Hxy := Lib.hid hxy
          clear hxy
          go_wp2
          go_quiet (fail)
          go_wp2
          go_roundg (xs.length - (k + 1))
          case measure => omega
          case rel =>
            refine ⟨k + 1, by omega, by omega, by go_num, ⟨_, rfl⟩, ⟨fun j hj => ?_⟩⟩
            by_cases e : j = k
            · subst e
              rw [List.getElem?_eq_getElem hlt, List.getElem?_eq_getElem hlt2, Hx.out, Hy.out, Hxy.out]
            · exact HA.out j (by omega)
        · have t : ((x : Int) != y) = true := by simp [hxy]
          have Hxy := Lib.hid hxy
          clear hxy
          go_wp2
          go_quiet (fail)
          go_wp2
          go_ret
          refine ⟨?_, ⟨_, World.drewN_drewN ..⟩⟩
          have : ¬ xs = ys := by
            rintro rfl
            exact Hxy.out (by rw [← Hx.out, ← Hy.out])
          simp [this]
      · go_wp2
        go_ret
        refine ⟨?_, ⟨_, rfl⟩⟩
        have : xs = ys := List.ext_getElem? (fun j => by
          by_cases hj : j < k
          · exact HA.out j hj
          · rw [List.getElem?_eq_none (by omega), List.getElem?_eq_none (by have := Hne.out; omega)])
        simp [this]
  · have hne' : ((xs.length : Int) != (ys.length : Int)) = true := by simp; omega
    have hxy : decide (xs = ys) = false := by simp; intro h; exact hne (by rw [h])
    clear hne
    go_enter Tryd.func61, Tryd.ntmps61
    go_wp2
    go_ret
    exact ⟨by rw [hxy]; rfl, 0, rfl⟩
def PredI (g : Nat) (lb : Array Value) (p : Int → Bool) (xs : List Int) (w : World) : Prop :=
  ∀ x ∈ xs, ∀ W, Below w.heap.size w W → Calls Tryd.prog g (#[.int .i64 x] ++ lb) W fun e w' => e = .returned (.bool (p x)) ∧ Below w.heap.size w w'
def idxOf {α : Type} (p : α → Bool) (xs : List α) : Int := if xs.any p then (xs.findIdx p : Int) else -1
theorem idxOf_hit {α : Type} {p : α → Bool} {xs : List α} {k : Nat} (hk : k < xs.length) (hp : p xs[k] = true) (h : ∀ j (hj : j < k), p (xs[j]'(by omega)) = false) : idxOf p xs = k := by
  unfold idxOf
  have ha : xs.any p = true := List.any_eq_true.2 ⟨_, List.getElem_mem hk, hp⟩
  rw [if_pos ha]
  congr 1
  rw [List.findIdx_eq hk]
  exact ⟨hp, fun j hj => h j hj⟩
theorem idxOf_miss {α : Type} {p : α → Bool} {xs : List α} (h : ∀ j (hj : j < xs.length), p xs[j] = false) : idxOf p xs = -1 := by
  unfold idxOf
  rw [if_neg]
  rw [List.any_eq_true]
  rintro ⟨x, hx, hp⟩
  obtain ⟨j, hj, rfl⟩ := List.getElem_of_mem hx
  rw [h j hj] at hp
  cases hp
theorem idxOf_ge {α : Type} (p : α → Bool) (xs : List α) : decide (idxOf p xs ≥ 0) = xs.any p := by
  unfold idxOf
  split
  · rename_i h; rw [h]; simp
  · rename_i h; simp only [Bool.not_eq_true] at h; rw [h]; rfl
theorem indexFuncI (A : Option Addr) (n c : Nat) (xs : List Int) (g : Nat) (lb : Array Value) (p : Int → Bool) (w : World)
    (hn : n = xs.length) (hl : xs.length ≤ 9223372036854775807) (h : Rd eI 1 w w.heap.size A xs)
    (eg : ∀ args w, (callFunc g args).run Tryd.prog w = .ok (.enter g args) w) (hp : PredI g lb p xs w) :
    Calls Tryd.prog 82 #[.slice A n c, .func (.func g) #[] lb] w fun e w' => e = .returned (.int .i64 (idxOf p xs)) ∧ Below w.heap.size w w' := by
  subst hn
  go_enter Tryd.func82, Tryd.ntmps82
  go_wp2
  go_loopg [5, 8] xs.length (fun gg _ s8 wr => ∃ k : Nat, k ≤ xs.length ∧ xs.length - k ≤ gg ∧ s8 = .int .i64 k ∧ Keep (Below w.heap.size w wr) ∧ Keep (∀ j (hj : j < xs.length), j < k → p xs[j] = false))
  case atStart => exact ⟨0, Nat.zero_le _, by omega, rfl, ⟨Below.refl _ w⟩, ⟨fun j _ hj => absurd hj (Nat.not_lt_zero _)⟩⟩
  case round =>
    obtain ⟨k, hk, hg, rfl, BW, HA⟩ := hrel
    by_cases hlt : k < xs.length
    · obtain ⟨ad, rfl, hb, hc⟩ := h.int k hlt
      have hc' := cell_below hc BW.out (by rw [add_block]; exact hb)
      have hcall := hp xs[k] (List.getElem_mem hlt) wr BW.out
      clear hc h hp
      generalize hx : xs[k] = x at *
      have Hx := Lib.hid hx
      clear hx
      have i1 : (0:Int) ≤ k := by omega
      have i2 : (k : Int) < xs.length := by omega
      cases hq : p x with
      | true =>
        rw [hq] at hcall
        have Hq := Lib.hid hq
        clear hq
        go_wp2_with (go_at_fn g; refine hcall.mono ?_; rintro e w' ⟨rfl, hb'⟩)
        go_ret
        refine ⟨?_, hb'⟩
        rw [idxOf_hit hlt (by rw [Hx.out]; exact Hq.out) (fun j hj => HA.out j (by omega) hj)]
        rfl
      | false =>
        rw [hq] at hcall
        have Hq := Lib.hid hq
        clear hq
        go_wp2_with (go_at_fn g; refine hcall.mono ?_; rintro e w' ⟨rfl, hb'⟩)
        go_roundg (xs.length - (k + 1))
        case measure => omega
        case rel =>
          refine ⟨k + 1, by omega, by omega, by go_num, ⟨hb'⟩, ⟨fun j hj hjk => ?_⟩⟩
          by_cases e : j = k
          · subst e; rw [Hx.out]; exact Hq.out
          · exact HA.out j hj (by omega)
    · go_wp2
      go_ret
      refine ⟨?_, BW.out⟩
      rw [idxOf_miss (fun j hj => HA.out j hj (by omega))]
      rfl
theorem containsFuncI (A : Option Addr) (n c : Nat) (xs : List Int) (g : Nat) (lb : Array Value) (p : Int → Bool) (w : World)
    (hn : n = xs.length) (hl : xs.length ≤ 9223372036854775807) (h : Rd eI 1 w w.heap.size A xs)
    (eg : ∀ args w, (callFunc g args).run Tryd.prog w = .ok (.enter g args) w) (hp : PredI g lb p xs w) :
    Calls Tryd.prog 72 #[.slice A n c, .func (.func g) #[] lb] w fun e w' => e = .returned (.bool (xs.any p)) ∧ Below w.heap.size w w' := by
  rw [← idxOf_ge]
  subst hn
  go_enter Tryd.func72, Tryd.ntmps72
  go_wp2_with (go_at_call 82; refine (indexFuncI A _ c xs g lb p _ rfl hl h eg hp).mono ?_; rintro e w' ⟨rfl, hb'⟩)
  go_ret
  exact ⟨by simp, hb'⟩
def prV (p : Pr) (A : Option Addr) (c : Nat) : Value := .agg #[.int .i64 p.head, .slice A p.body.length c, .bool p.right]
def PredP (g : Nat) (lb : Array Value) (q : Pr → Bool) (ps : List Pr) (w : World) : Prop :=
  ∀ p ∈ ps, ∀ A c, Rd eI 1 w w.heap.size A p.body → ∀ W, Below w.heap.size w W → Calls Tryd.prog g (#[prV p A c] ++ lb) W fun e w' => e = .returned (.bool (q p)) ∧ Below w.heap.size w w'
theorem indexFuncP (A : Option Addr) (n c : Nat) (ps : List Pr) (g : Nat) (lb : Array Value) (q : Pr → Bool) (w : World)
    (hn : n = ps.length) (hl : ps.length ≤ 9223372036854775807) (h : RdP w w.heap.size A ps)
    (eg : ∀ args w, (callFunc g args).run Tryd.prog w = .ok (.enter g args) w) (hp : PredP g lb q ps w) :
    Calls Tryd.prog 71 #[.slice A n c, .func (.func g) #[] lb] w fun e w' => e = .returned (.int .i64 (idxOf q ps)) ∧ Below w.heap.size w w' := by
  subst hn
  go_enter Tryd.func71, Tryd.ntmps71
  go_wp2
  go_loopg [5, 8] ps.length (fun gg _ s8 wr => ∃ k : Nat, k ≤ ps.length ∧ ps.length - k ≤ gg ∧ s8 = .int .i64 k ∧ Keep (Below w.heap.size w wr) ∧ Keep (∀ j (hj : j < ps.length), j < k → q ps[j] = false))
  case atStart => exact ⟨0, Nat.zero_le _, by omega, rfl, ⟨Below.refl _ w⟩, ⟨fun j _ hj => absurd hj (Nat.not_lt_zero _)⟩⟩
  case round =>
    obtain ⟨k, hk, hg, rfl, BW, HA⟩ := hrel
    by_cases hlt : k < ps.length
    · obtain ⟨ad, Ab, cb, rfl, hb, c0, c1, c2, hlb, hr⟩ := h k hlt
      replace c0 := cell_below c0 BW.out (by rw [add_block]; exact hb)
      replace c1 := cell_below c1 BW.out (by show (ad.add _).block < _; rw [add_block]; exact hb)
      replace c2 := cell_below c2 BW.out (by show (ad.add _).block < _; rw [add_block]; exact hb)
      have hcall := hp ps[k] (List.getElem_mem hlt) Ab cb hr wr BW.out
      clear h hp hr
      unfold prV at hcall
      generalize hx : ps[k] = x at *
      have Hx := Lib.hid hx
      clear hx
      have i1 : (0:Int) ≤ k := by omega
      have i2 : (k : Int) < ps.length := by omega
      cases hq : q x with
      | true =>
        rw [hq] at hcall
        have Hq := Lib.hid hq
        clear hq
        go_wp2_with (go_at_fn g; refine hcall.mono ?_; rintro e w' ⟨rfl, hb'⟩)
        go_ret
        refine ⟨?_, hb'⟩
        rw [idxOf_hit hlt (by rw [Hx.out]; exact Hq.out) (fun j hj => HA.out j (by omega) hj)]
        rfl
      | false =>
        rw [hq] at hcall
        have Hq := Lib.hid hq
        clear hq
        go_wp2_with (go_at_fn g; refine hcall.mono ?_; rintro e w' ⟨rfl, hb'⟩)
        go_roundg (ps.length - (k + 1))
        case measure => omega
        case rel =>
          refine ⟨k + 1, by omega, by omega, by go_num, ⟨hb'⟩, ⟨fun j hj hjk => ?_⟩⟩
          by_cases e : j = k
          · subst e; rw [Hx.out]; exact Hq.out
          · exact HA.out j hj (by omega)
    · go_wp2
      go_ret
      refine ⟨?_, BW.out⟩
      rw [idxOf_miss (fun j hj => HA.out j hj (by omega))]
      rfl
theorem containsFuncP (A : Option Addr) (n c : Nat) (ps : List Pr) (g : Nat) (lb : Array Value) (q : Pr → Bool) (w : World)
    (hn : n = ps.length) (hl : ps.length ≤ 9223372036854775807) (h : RdP w w.heap.size A ps)
    (eg : ∀ args w, (callFunc g args).run Tryd.prog w = .ok (.enter g args) w) (hp : PredP g lb q ps w) :
    Calls Tryd.prog 50 #[.slice A n c, .func (.func g) #[] lb] w fun e w' => e = .returned (.bool (ps.any q)) ∧ Below w.heap.size w w' := by
  rw [← idxOf_ge]
  subst hn
  go_enter Tryd.func50, Tryd.ntmps50
  go_wp2_with (go_at_call 71; refine (indexFuncP A _ c ps g lb q _ rfl hl h eg hp).mono ?_; rintro e w' ⟨rfl, hb'⟩)
  go_ret
  exact ⟨by simp, hb'⟩
theorem indexB (A : Option Addr) (n c : Nat) (xs : List Bool) (b : Bool) (w : World)
    (hn : n = xs.length) (hl : xs.length ≤ 9223372036854775807) (h : Rd eB 1 w w.heap.size A xs) :
    Calls Tryd.prog 83 #[.slice A n c, .bool b] w fun e w' => e = .returned (.int .i64 (idxOf (fun x => b == x) xs)) ∧ w = w' := by
  subst hn
  go_enter Tryd.func83, Tryd.ntmps83
  go_wp2
  go_loopg [5, 8] xs.length (fun gg _ s8 wr => ∃ k : Nat, k ≤ xs.length ∧ xs.length - k ≤ gg ∧ s8 = .int .i64 k ∧ Keep (wr = w) ∧ Keep (∀ j (hj : j < xs.length), j < k → (b == xs[j]) = false))
  case atStart => exact ⟨0, Nat.zero_le _, by omega, rfl, ⟨rfl⟩, ⟨fun j _ hj => absurd hj (Nat.not_lt_zero _)⟩⟩
  case round =>
    obtain ⟨k, hk, hg, rfl, ⟨rfl⟩, HA⟩ := hrel
    by_cases hlt : k < xs.length
    · obtain ⟨ad, rfl, hb, hc⟩ := h.bool k hlt
      clear h
      generalize hx : xs[k] = x at *
      have Hx := Lib.hid hx
      clear hx
      have i1 : (0:Int) ≤ k := by omega
      have i2 : (k : Int) < xs.length := by omega
      cases hq : (b == x) with
      | true =>
        go_wp2
        go_ret
        refine ⟨?_, rfl⟩
        rw [idxOf_hit hlt (by rw [Hx.out]; exact hq) (fun j hj => HA.out j (by omega) hj)]
        rfl
      | false =>
        go_wp2
        go_roundg (xs.length - (k + 1))
        case measure => omega
        case rel =>
          refine ⟨k + 1, by omega, by omega, by go_num, ⟨rfl⟩, ⟨fun j hj hjk => ?_⟩⟩
          by_cases e : j = k
          · subst e; rw [Hx.out]; exact hq
          · exact HA.out j hj (by omega)
    · go_wp2
      go_ret
      refine ⟨?_, rfl⟩
      rw [idxOf_miss (fun j hj => HA.out j hj (by omega))]
      rfl
theorem containsB (A : Option Addr) (n c : Nat) (xs : List Bool) (b : Bool) (w : World)
    (hn : n = xs.length) (hl : xs.length ≤ 9223372036854775807) (h : Rd eB 1 w w.heap.size A xs) :
    Calls Tryd.prog 74 #[.slice A n c, .bool b] w fun e w' => e = .returned (.bool (xs.any (fun x => b == x))) ∧ w = w' := by
  rw [← idxOf_ge]
  subst hn
  go_enter Tryd.func74, Tryd.ntmps74
  go_wp2_with (go_at_call 83; refine (indexB A _ c xs b _ rfl hl h).mono ?_; rintro e w' ⟨rfl, rfl⟩)
  go_ret
  exact ⟨rfl, rfl⟩
end Go.Proofs.YtaooejidkeojjaaDoor.H
namespace Go.Proofs.YtaooejidkeojjaaDoor.H
open Go.RowKit
set_option linter.unusedVariables false
set_option linter.unusedSimpArgs false
def grV (g : Gr) (A : Option Addr) (c : Nat) : Value := .agg #[.int .i64 g.T, .int .i64 g.S, .int .i64 g.st, .slice A g.ps.length c]
def prCells (p : Pr) (A : Option Addr) (c : Nat) : Array Value := #[.int .i64 p.head, .slice A p.body.length c, .bool p.right]
def sameP (p q : Pr) : Bool := decide (q.head = p.head) && decide (q.body = p.body)
theorem numbers1 (p q : Pr) (Aq Ap : Option Addr) (cq cp : Nat) (gb : Nat) (w : World) (hl : q.body.length ≤ 9223372036854775807)
    (hb : Blk w gb 49 (prCells p Ap cp)) (hq : Rd eI 1 w w.heap.size Aq q.body) (hp : Rd eI 1 w w.heap.size Ap p.body) :
    Calls Tryd.prog 70 #[prV q Aq cq, .pointer (some ⟨gb, 0, none⟩)] w fun e w' => e = .returned (.bool (sameP p q)) ∧ Below w.heap.size w w' := by
  unfold prV
  have c0 := hb.cell 0
  have c1 := hb.cell 1
  simp [prCells] at c0 c1
  have hlt := hb.lt
  by_cases hh : q.head = p.head
  · have t : ((q.head : Int) == p.head) = true := by simp [hh]
    have Hh := Lib.hid hh
    clear hh
    go_enter Tryd.func70, Tryd.ntmps70
    go_wp2_with (go_at_call 61; refine (slicesEqual Aq Ap _ _ cq cp q.body p.body _ rfl rfl hl ?_ ?_).mono ?_; rotate_left 2; rintro e w' ⟨rfl, n, rfl⟩)
    · go_ret
      refine ⟨by simp [sameP, Hh.out], ?_⟩
      exact below_drewN ((Below.refl _ _).alloc (Nat.le_refl _) _) n
    · exact (hq.below ((Below.refl _ _).alloc (Nat.le_refl _) _)).mono (by simp)
    · exact (hp.below ((Below.refl _ _).alloc (Nat.le_refl _) _)).mono (by simp)
  · have t : ((q.head : Int) == p.head) = false := by simp [hh]
    have Hh := Lib.hid hh
    clear hh
    go_enter Tryd.func70, Tryd.ntmps70
    go_wp2
    go_ret
    refine ⟨?_, (Below.refl _ _).alloc (Nat.le_refl _) _⟩
    have := Hh.out
    simp [sameP, this]
theorem check1 (q : Pr) (A : Option Addr) (c : Nat) (w : World) (hl : q.body.length ≤ 9223372036854775807) :
    Calls Tryd.prog 51 #[prV q A c] w fun e w' => e = .returned (.bool (decide (8 < q.body.length))) ∧ Below w.heap.size w w' := by
  unfold prV
  go_enter Tryd.func51, Tryd.ntmps51
  go_wp2
  go_ret
  exact ⟨by simp; omega, (Below.refl _ _).alloc (Nat.le_refl _) _⟩
theorem check2 (q : Pr) (A : Option Addr) (c : Nat) (w : World) (hl : q.body.length ≤ 9223372036854775807) :
    Calls Tryd.prog 52 #[prV q A c] w fun e w' => e = .returned (.bool (decide (q.body.length = 0))) ∧ Below w.heap.size w w' := by
  unfold prV
  go_enter Tryd.func52, Tryd.ntmps52
  go_wp2
  go_ret
  exact ⟨by simp; rw [Bool.eq_iff_iff]; simp, (Below.refl _ _).alloc (Nat.le_refl _) _⟩
def symB (S s : Int) : Bool := decide (0 ≤ s) && decide (s < S)
def prodB (T S : Int) (pre : List Pr) (p : Pr) : Bool := decide (T ≤ p.head) && decide (p.head < S) && p.body.all (symB S) && !(pre.any (sameP p))
def headB (g : Gr) : Bool := decide (1 ≤ g.T ∧ g.T ≤ 32 ∧ g.T < g.S ∧ g.S ≤ 64 ∧ g.T ≤ g.st ∧ g.st < g.S ∧ 0 < g.ps.length ∧ g.ps.length ≤ 64)
def okAt (g : Gr) (i : Nat) : Bool := match g.ps[i]? with | some p => prodB g.T g.S (g.ps.take i) p | none => true
def numbersB (g : Gr) : Bool := headB g && (List.range g.ps.length).all (okAt g)
theorem numbersB_head {g : Gr} (h : headB g = false) : numbersB g = false := by simp [numbersB, h]
theorem numbersB_at {g : Gr} {i : Nat} (hi : i < g.ps.length) (h : okAt g i = false) : numbersB g = false := by
  unfold numbersB
  rw [Bool.and_eq_false_iff]
  right
  rw [List.all_eq_false]
  exact ⟨i, List.mem_range.2 hi, by simp [h]⟩
theorem numbersB_all {g : Gr} (hh : headB g = true) (h : ∀ i, i < g.ps.length → okAt g i = true) : numbersB g = true := by
  unfold numbersB
  rw [hh, Bool.true_and, List.all_eq_true]
  exact fun i hi => h i (List.mem_range.1 hi)
theorem numbers_no (g : Gr) (A : Option Addr) (c : Nat) (w : World) (hl : g.ps.length ≤ 9223372036854775807) (hh : headB g = false) :
    Calls Tryd.prog 49 #[grV g A c] w fun e w' => e = .returned (.bool (numbersB g)) ∧ Below w.heap.size w w' := by
  rw [numbersB_head hh]
  obtain ⟨T, S, st, ps⟩ := g
  simp only [headB, decide_eq_false_iff_not] at hh
  unfold grV
  dsimp only at *
  go_enter Tryd.func49, Tryd.ntmps49
  go_wp2
  all_goals first
    | (go_ret; exact ⟨rfl, (Below.refl _ _).alloc (Nat.le_refl _) _⟩)
    | (exfalso; have : ps.length ≠ 0 := by simpa using ‹¬ ps = []›
       omega)
end Go.Proofs.YtaooejidkeojjaaDoor.H
namespace Go.Proofs.YtaooejidkeojjaaDoor.H
open Go.RowKit
set_option linter.unusedVariables false
set_option linter.unusedSimpArgs false
set_option maxRecDepth 100000 in
set_option maxHeartbeats 4000000 in
theorem numbers_yes (g : Gr) (A : Option Addr) (c : Nat) (w : World) (hl : g.ps.length ≤ c) (hbl : ∀ p ∈ g.ps, p.body.length ≤ 9223372036854775807) (hr : RdP w w.heap.size A g.ps) (hh : headB g = true) :
    Calls Tryd.prog 49 #[grV g A c] w fun e w' => e = .returned (.bool (numbersB g)) ∧ Below w.heap.size w w' := by
  have Hh := Lib.hid hh
  generalize hg : g = G0 at Hh ⊢
  have Hg := Lib.hid hg
  have HP : Keep (∀ i, okAt G0 i = match g.ps[i]? with | some p => prodB g.T g.S (g.ps.take i) p | none => true) := ⟨fun i => by rw [← hg]; rfl⟩
  have HL : Keep (G0.ps.length = g.ps.length) := ⟨by rw [hg]⟩
  rw [show grV G0 A c = grV g A c from by rw [hg]]
  clear hg
  obtain ⟨T, S, st, ps⟩ := g
  simp only [headB, decide_eq_true_eq] at hh
  obtain ⟨h1, h2, h3, h4, h5, h6, h7, h8⟩ := hh
  have h9 : ((ps.length : Int) == 0) = false := by simp; intro e; simp [e] at h7
  unfold grV
  dsimp only at *
  have R0 : Keep (RdP w w.heap.size A ps) := ⟨hr⟩
  have B0 : Keep (∀ p ∈ ps, p.body.length ≤ 9223372036854775807) := ⟨hbl⟩
  clear hr hbl
  go_enter Tryd.func49, Tryd.ntmps49
  go_wp2
  go_loopg [56] ps.length (fun gg s56 wr => ∃ k : Nat, k ≤ ps.length ∧ ps.length - k ≤ gg ∧ s56 = .int .i64 k ∧ Keep (Below w.heap.size w wr) ∧ Keep (Blk wr w.heap.size 24 #[.int .i64 T, .int .i64 S, .int .i64 st, .slice A ps.length c]) ∧ Keep (∀ j, j < k → okAt G0 j = true))
  case atStart =>
    refine ⟨0, Nat.zero_le _, by omega, rfl, ⟨(Below.refl _ _).alloc (Nat.le_refl _) _⟩, ⟨?_⟩, ⟨fun j hj => absurd hj (Nat.not_lt_zero _)⟩⟩
    exact Blk.new _ _ _
  case round =>
    obtain ⟨k, hk, hg, rfl, BW, BK, HA⟩ := hrel
    obtain ⟨wo, rfl⟩ : ∃ wo : World, wo = wr := ⟨_, rfl⟩
    by_cases hlt : k < ps.length
    · obtain ⟨ad, Ab, cb, rfl, hb, c0, c1, c2, hlb, hrb⟩ := R0.out k hlt
      replace c0 := cell_below c0 BW.out (by rw [add_block]; exact hb)
      replace c1 := cell_below c1 BW.out (by show (ad.add _).block < _; rw [add_block]; exact hb)
      replace c2 := cell_below c2 BW.out (by show (ad.add _).block < _; rw [add_block]; exact hb)
      have hbl := B0.out _ (List.getElem_mem hlt)
      have HO : Keep (okAt G0 k = prodB T S (ps.take k) ps[k]) := ⟨by rw [HP.out, List.getElem?_eq_getElem hlt]⟩
      generalize hx : ps[k] = p at *
      clear hx
      obtain ⟨hd, bd, rt⟩ := p
      dsimp only at *
      have i1 : (0:Int) ≤ k := by omega
      have i2 : (k : Int) < ps.length := by omega
      have g0 := BK.out.cell 0
      have g1 := BK.out.cell 1
      have g2 := BK.out.cell 2
      have g3 := BK.out.cell 3
      simp at g0 g1 g2 g3
      have hsz := BK.out.lt
      by_cases hhd : T ≤ hd ∧ hd < S
      · obtain ⟨hd1, hd2⟩ := hhd
        go_wp2
        go_loopg [76] bd.length (fun gg s76 w2 => ∃ m : Nat, m ≤ bd.length ∧ bd.length - m ≤ gg ∧ s76 = .int .i64 m ∧ Keep (Below wo.heap.size wo w2) ∧
          Keep (Blk w2 wo.heap.size 49 #[.int .i64 hd, .slice Ab bd.length cb, .bool rt]) ∧ Keep (∀ j (hj : j < bd.length), j < m → symB S bd[j] = true))
        case atStart =>
          exact ⟨0, Nat.zero_le _, by omega, rfl, ⟨(Below.refl _ _).alloc (Nat.le_refl _) _⟩, ⟨Blk.new _ _ _⟩, ⟨fun j _ hj => absurd hj (Nat.not_lt_zero _)⟩⟩
        case round =>
          obtain ⟨m, hm, hgm, rfl, BW2, BP, HS⟩ := hrel
          have BK2 := BK.out.below BW2.out BK.out.lt
          have BW3 : Keep (Below w.heap.size w _) := ⟨below_step BW.out BW2.out BW.out.size⟩
          by_cases hltm : m < bd.length
          · obtain ⟨a2, e2, hb2, hc2⟩ := hrb.int m hltm
            subst e2
            replace hc2 := cell_below hc2 BW3.out (by rw [add_block]; exact hb2)
            generalize hy : bd[m] = y at *
            have Hy := Lib.hid hy
            clear hy
            have j1 : (0:Int) ≤ m := by omega
            have j2 : (m : Int) < bd.length := by omega
            have q1 := BK2.cell 1
            simp at q1
            clear c0 c1 c2 g0 g1 g2 g3
            by_cases hsy : 0 ≤ y ∧ y < S
            · obtain ⟨y1, y2⟩ := hsy
              go_wp2
              go_roundg (bd.length - (m + 1))
              case measure => omega
              case rel =>
                refine ⟨m + 1, by omega, by omega, by go_num, BW2, BP, ⟨fun j hj hjm => ?_⟩⟩
                by_cases e : j = m
                · subst e; rw [Hy.out]; simp [symB, y1, y2]
                · exact HS.out j hj (by omega)
            · go_wp2
              all_goals
                go_ret
                refine ⟨?_, BW3.out⟩
                have hs : symB S y = false := by
                  simp only [symB]
                  rw [← Bool.decide_and]; simp only [decide_eq_false_iff_not]; exact hsy
                have hall : bd.all (symB S) = false := List.all_eq_false.2 ⟨y, by rw [← Hy.out]; exact List.getElem_mem _, by rw [hs]; simp⟩
                have : okAt G0 k = false := by
                  rw [HO.out]
                  simp only [prodB]
                  rw [hall]
                  simp
                rw [numbersB_at (by have := HL.out; omega) this]
                rfl
          · have hall : Keep (bd.all (symB S) = true) := ⟨List.all_eq_true.2 (fun y hy => by
              obtain ⟨j, hj, rfl⟩ := List.getElem_of_mem hy
              exact HS.out j hj (by omega))⟩
            have hany : Keep (okAt G0 k = !((ps.take k).any (sameP ⟨hd, bd, rt⟩))) := ⟨by
              rw [HO.out]
              simp only [prodB, hall.out]
              simp [hd1, hd2]⟩
            have hcall := containsFuncP (some ad) k c (ps.take k) 70 #[.pointer (some ⟨wo.heap.size, 0, none⟩)] (sameP ⟨hd, bd, rt⟩) wr (by rw [List.length_take]; omega) (by rw [List.length_take]; omega)
              (((R0.out.take k).below BW3.out).mono BW3.out.size) (enters_of Tryd.func70 rfl rfl)
              (fun p' hp' A' c' hr' W hW => (numbers1 ⟨hd, bd, rt⟩ p' A' Ab c' cb wo.heap.size W (B0.out p' (List.mem_of_mem_take hp')) (BP.out.below hW BP.out.lt)
                ((hr'.below hW).mono hW.size) (((hrb.below BW3.out).below (hW.mono BW3.out.size)).mono (Nat.le_trans BW3.out.size hW.size))).mono fun _ _ ⟨he, hb⟩ => ⟨he, below_step hW hb hW.size⟩)
            clear c0 c1 c2 g0 g1 g2 g3
            have q0 := BK2.cell 0
            have q1 := BK2.cell 1
            have q3 := BK2.cell 3
            simp at q0 q1 q3
            have hkc : k ≤ c := by omega
            cases hq : (ps.take k).any (sameP ⟨hd, bd, rt⟩) with
            | true =>
              rw [hq] at hcall
              have HO2 : Keep (okAt G0 k = false) := ⟨by rw [hany.out, hq]; rfl⟩
              clear hq
              go_wp2_with (go_at_call 50; refine hcall.mono ?_; rintro e w' ⟨rfl, hb'⟩)
              go_ret
              refine ⟨?_, below_step BW3.out hb' BW3.out.size⟩
              rw [numbersB_at (by have := HL.out; omega) HO2.out]
              rfl
            | false =>
              rw [hq] at hcall
              have HO2 : Keep (okAt G0 k = true) := ⟨by rw [hany.out, hq]; rfl⟩
              clear hq
              go_wp2_with (go_at_call 50; refine hcall.mono ?_; rintro e w' ⟨rfl, hb'⟩)
              go_roundg (ps.length - (k + 1))
              case measure => omega
              case rel =>
                refine ⟨k + 1, by omega, by omega, by go_num, ⟨below_step BW3.out hb' BW3.out.size⟩, ⟨BK2.below hb' BK2.lt⟩, ⟨fun j hj => ?_⟩⟩
                by_cases e : j = k
                · subst e; exact HO2.out
                · exact HA.out j (by omega)
      · go_wp2
        all_goals
          go_ret
          refine ⟨?_, below_step BW.out ((Below.refl _ _).alloc (Nat.le_refl _) _) BW.out.size⟩
          have : okAt G0 k = false := by
            rw [HO.out]
            simp only [prodB]
            rw [show (decide (T ≤ hd) && decide (hd < S)) = false from by rw [← Bool.decide_and]; simp only [decide_eq_false_iff_not]; exact hhd]
            rfl
          rw [numbersB_at (by have := HL.out; omega) this]
          rfl
    · go_wp2
      go_ret
      refine ⟨?_, BW.out⟩
      rw [numbersB_all Hh.out (fun i hi => HA.out i (by have := HL.out; omega))]
      rfl
end Go.Proofs.YtaooejidkeojjaaDoor.H
namespace Go.Proofs.YtaooejidkeojjaaDoor.H
open Go.RowKit
set_option linter.unusedVariables false
set_option linter.unusedSimpArgs false
def gb (xs : List Bool) (i : Int) : Bool := xs.getD i.toNat false
structure Us where
  come : List Bool
  good : List Bool
  more : Bool
def comeIn (h : Int) (u : Us) (s : Int) : Us := if gb u.come h && !(gb u.come s) then { u with come := u.come.set s.toNat true, more := true } else u
def goodIn (p : Pr) (u : Us) : Us := if !(gb u.good p.head) && !(p.body.any fun s => !(gb u.good s)) then { u with good := u.good.set p.head.toNat true, more := true } else u
def usedStep (u : Us) (p : Pr) : Us := p.body.foldl (comeIn p.head) (goodIn p u)
def usedRound (ps : List Pr) (u : Us) : Us := ps.foldl usedStep { u with more := false }
def usedLoop (ps : List Pr) : Nat → Us → Us
  | 0, u => u
  | k + 1, u => if u.more then usedLoop ps k (usedRound ps u) else u
def falses (u : Us) : Nat := u.come.count false + u.good.count false
def used0 (g : Gr) : Us := ⟨(List.replicate g.S.toNat false).set g.st.toNat true, List.replicate g.T.toNat true ++ List.replicate (g.S.toNat - g.T.toNat) false, true⟩
def usedEnd (g : Gr) : Us := usedLoop g.ps (2 * g.S.toNat + 1) (used0 g)
def usedB (g : Gr) : Bool := !((usedEnd g).come.drop g.T.toNat).any (fun x => false == x) && !(usedEnd g).good.any (fun x => false == x)
theorem count_set_lt (l : List Bool) : ∀ i, l.getD i true = false → (l.set i true).count false + 1 = l.count false := by
  induction l with
  | nil => intro i h; simp at h
  | cons b l ih =>
    intro i h
    cases i with
    | zero => simp at h; subst h; simp
    | succ i =>
      have := ih i (by simpa using h)
      simp only [List.set_cons_succ, List.count_cons]
      omega
theorem gb_false_in {l : List Bool} {s : Int} (h : s.toNat < l.length) (hf : gb l s = false) : l.getD s.toNat true = false := by
  unfold gb at hf
  rw [List.getD_eq_getElem?_getD, List.getElem?_eq_getElem h] at hf ⊢
  exact hf
structure UsLe (n : Nat) (u v : Us) : Prop where
  c : v.come.length = n
  g : v.good.length = n
  le : falses v ≤ falses u
  new : v.more = true → u.more = true ∨ falses v < falses u
theorem UsLe.trans {n : Nat} {a b c : Us} (h : UsLe n a b) (k : UsLe n b c) : UsLe n a c := by
  refine ⟨k.c, k.g, Nat.le_trans k.le h.le, fun hm => ?_⟩
  rcases k.new hm with h1 | h1
  · rcases h.new h1 with h2 | h2
    · exact .inl h2
    · exact .inr (Nat.lt_of_le_of_lt k.le h2)
  · exact .inr (Nat.lt_of_lt_of_le h1 h.le)
theorem comeIn_le {n : Nat} {h s : Int} {u : Us} (hc : u.come.length = n) (hg : u.good.length = n) (hs : s.toNat < n) : UsLe n u (comeIn h u s) := by
  unfold comeIn
  split
  · rename_i ht
    simp only [Bool.and_eq_true, Bool.not_eq_true'] at ht
    have := count_set_lt u.come s.toNat (gb_false_in (by omega) ht.2)
    exact ⟨by simp [hc], hg, by simp only [falses]; omega, fun _ => .inr (by simp only [falses]; omega)⟩
  · exact ⟨hc, hg, Nat.le_refl _, fun h => .inl h⟩
theorem goodIn_le {n : Nat} {p : Pr} {u : Us} (hc : u.come.length = n) (hg : u.good.length = n) (hs : p.head.toNat < n) : UsLe n u (goodIn p u) := by
  unfold goodIn
  split
  · rename_i ht
    simp only [Bool.and_eq_true, Bool.not_eq_true'] at ht
    have := count_set_lt u.good p.head.toNat (gb_false_in (by omega) ht.1)
    exact ⟨hc, by simp [hg], by simp only [falses]; omega, fun _ => .inr (by simp only [falses]; omega)⟩
  · exact ⟨hc, hg, Nat.le_refl _, fun h => .inl h⟩
theorem comeAll_le {n : Nat} {h : Int} (l : List Int) : ∀ {u : Us}, u.come.length = n → u.good.length = n → (∀ s ∈ l, s.toNat < n) → UsLe n u (l.foldl (comeIn h) u) := by
  induction l with
  | nil => intro u hc hg _; exact ⟨hc, hg, Nat.le_refl _, fun h => .inl h⟩
  | cons s l ih =>
    intro u hc hg hs
    have h1 := comeIn_le (h := h) hc hg (hs s (by simp))
    exact h1.trans (ih h1.c h1.g (fun s hs' => hs s (by simp [hs'])))
def PrIn (n : Nat) (p : Pr) : Prop := 0 ≤ p.head ∧ p.head.toNat < n ∧ ∀ s ∈ p.body, 0 ≤ s ∧ s.toNat < n
theorem usedStep_le {n : Nat} {p : Pr} {u : Us} (hc : u.come.length = n) (hg : u.good.length = n) (hp : PrIn n p) : UsLe n u (usedStep u p) := by
  have h1 := goodIn_le hc hg hp.2.1
  exact h1.trans (comeAll_le p.body h1.c h1.g (fun s hs => (hp.2.2 s hs).2))
theorem usedAll_le {n : Nat} (l : List Pr) : ∀ {u : Us}, u.come.length = n → u.good.length = n → (∀ p ∈ l, PrIn n p) → UsLe n u (l.foldl usedStep u) := by
  induction l with
  | nil => intro u hc hg _; exact ⟨hc, hg, Nat.le_refl _, fun h => .inl h⟩
  | cons p l ih =>
    intro u hc hg hs
    have h1 := usedStep_le hc hg (hs p (by simp))
    exact h1.trans (ih h1.c h1.g (fun s hs' => hs s (by simp [hs'])))
theorem usedRound_le {n : Nat} {ps : List Pr} {u : Us} (hc : u.come.length = n) (hg : u.good.length = n) (hp : ∀ p ∈ ps, PrIn n p) :
    (usedRound ps u).come.length = n ∧ (usedRound ps u).good.length = n ∧ ((usedRound ps u).more = true → falses (usedRound ps u) < falses u) := by
  have h := usedAll_le (n := n) ps (u := { u with more := false }) hc hg hp
  refine ⟨h.c, h.g, fun hm => ?_⟩
  rcases h.new hm with h1 | h1
  · cases h1
  · exact h1
structure UW (w wr : World) (gv : Array Value) (gC gX gG n : Nat) (come good : List Bool) : Prop where
  bw : Below w.heap.size w wr
  bg : Blk wr w.heap.size 24 gv
  bc : Blk wr gC 4 (bools come)
  bx : Blk wr gX 122 #[.slice (some ⟨gG, 0, none⟩) n n]
  bd : Blk wr gG 4 (bools good)
  ne : gC ≠ gG
  nx : gX ≠ gC ∧ gX ≠ gG
  gc : w.heap.size < gC
  gx : w.heap.size < gX
  gg : w.heap.size < gG
  lc : come.length = n
  lg : good.length = n
theorem UW.start {w wr : World} {gv : Array Value} {gC gX gG n : Nat} (bx : Blk wr gX 122 #[.slice (some ⟨gG, 0, none⟩) n n])
    (bc : Blk wr gC 4 (bools (List.replicate n false))) (bd : Blk wr gG 4 (bools (List.replicate n false))) (bg : Blk wr w.heap.size 24 gv) (bw : Below w.heap.size w wr)
    (ne : gC ≠ gG ∧ (gX ≠ gC ∧ gX ≠ gG) ∧ w.heap.size < gC ∧ w.heap.size < gX ∧ w.heap.size < gG) : UW w wr gv gC gX gG n (List.replicate n false) (List.replicate n false) :=
  ⟨bw, bg, bc, bx, bd, ne.1, ne.2.1, ne.2.2.1, ne.2.2.2.1, ne.2.2.2.2, by simp, by simp⟩
section
variable {w wr w' : World} {gv : Array Value} {gC gX gG n : Nat} {come good : List Bool}
theorem UW.below (h : UW w wr gv gC gX gG n come good) (hb : Below wr.heap.size wr w') : UW w w' gv gC gX gG n come good :=
  ⟨below_step h.bw hb h.bw.size, h.bg.below hb h.bg.lt, h.bc.below hb h.bc.lt, h.bx.below hb h.bx.lt, h.bd.below hb h.bd.lt, h.ne, h.nx, h.gc, h.gx, h.gg, h.lc, h.lg⟩
theorem UW.alloc (h : UW w wr gv gC gX gG n come good) (o : Obj) : UW w (wr.alloc o) gv gC gX gG n come good := h.below ((Below.refl _ _).alloc (Nat.le_refl _) o)
theorem UW.setC (h : UW w wr gv gC gX gG n come good) (i : Nat) (b : Bool) : UW w (wr.setCell ⟨gC, i, none⟩ (.bool b)) gv gC gX gG n (come.set i b) good := by
  refine ⟨h.bw.setCell (by show w.heap.size ≤ gC; have := h.gc; omega) _, h.bg.far (by show _ ≠ gC; have := h.gc; omega) _, ?_, h.bx.far h.nx.1 _, h.bd.far (fun e => h.ne e.symm) _, h.ne, h.nx, h.gc, h.gx, h.gg, by simp [h.lc], h.lg⟩
  have := h.bc.set_ i (.bool b)
  rwa [bools_set] at this
theorem UW.setG (h : UW w wr gv gC gX gG n come good) (i : Nat) (b : Bool) : UW w (wr.setCell ⟨gG, i, none⟩ (.bool b)) gv gC gX gG n come (good.set i b) := by
  refine ⟨h.bw.setCell (by show w.heap.size ≤ gG; have := h.gg; omega) _, h.bg.far (by show _ ≠ gG; have := h.gg; omega) _, h.bc.far h.ne _, h.bx.far h.nx.2 _, ?_, h.ne, h.nx, h.gc, h.gx, h.gg, h.lc, by simp [h.lg]⟩
  have := h.bd.set_ i (.bool b)
  rwa [bools_set] at this
end
theorem fill_set (k n : Nat) (h : k < n) : (List.replicate k true ++ List.replicate (n - k) false).set k true = List.replicate (k + 1) true ++ List.replicate (n - (k + 1)) false := by
  rw [List.set_append_right _ _ (by simp), List.length_replicate, Nat.sub_self, show n - k = (n - (k + 1)) + 1 from by omega, List.replicate_succ, List.set_cons_zero, List.replicate_succ']
  simp
theorem usedLoop_done (ps : List Pr) (k : Nat) (u : Us) (h : u.more = false) : usedLoop ps k u = u := by
  cases k with
  | zero => rfl
  | succ k => simp [usedLoop, h]
theorem usedLoop_go (ps : List Pr) (k : Nat) (u : Us) (h : u.more = true) : usedLoop ps (k + 1) u = usedLoop ps k (usedRound ps u) := by simp [usedLoop, h]
theorem bools_gb (xs : List Bool) (i : Nat) (h : i < xs.length) : (bools xs)[i]? = some (.bool (gb xs (i : Int))) := by rw [bools_at xs i h]; simp [gb, h]
theorem used1 (gX gG n : Nat) (xs : List Bool) (s : Int) (w : World)
    (hx : Blk w gX 122 #[.slice (some ⟨gG, 0, none⟩) n n]) (hd : Blk w gG 4 (bools xs)) (hn : xs.length = n) (h0 : 0 ≤ s) (h1 : s.toNat < n) :
    Calls Tryd.prog 73 #[.int .i64 s, .pointer (some ⟨gX, 0, none⟩)] w fun e w' => e = .returned (.bool (!(gb xs s))) ∧ w' = w := by
  obtain ⟨k, rfl⟩ := Int.eq_ofNat_of_zero_le h0
  have hk : k < xs.length := by omega
  have c0 := hx.cell 0
  simp at c0
  have c1 := hd.cell k
  rw [bools_at xs k hk] at c1
  have e : gb xs (k : Int) = xs[k] := by simp [gb, hk]
  rw [e]
  generalize xs[k] = b at *
  have i2 : (k : Int) < n := by omega
  clear e hn hd hx
  go_enter Tryd.func73, Tryd.ntmps73
  go_wp2
  go_ret
  exact ⟨rfl, rfl⟩
end Go.Proofs.YtaooejidkeojjaaDoor.H
namespace Go.Proofs.YtaooejidkeojjaaDoor.H
open Go.RowKit
set_option linter.unusedVariables false
set_option linter.unusedSimpArgs false
theorem info_bool : (Tryd.prog.info? 4).map (fun i => (i.zero, i.size, i.bytes)) = some (some (.bool false), 1, 1) := by kernel_rfl
structure GrOk (g : Gr) : Prop where
  t0 : 1 ≤ g.T
  t1 : g.T ≤ 32
  s0 : g.T < g.S
  s1 : g.S ≤ 64
  st0 : g.T ≤ g.st
  st1 : g.st < g.S
  n0 : 0 < g.ps.length
  n1 : g.ps.length ≤ 64
  pr : ∀ p ∈ g.ps, g.T ≤ p.head ∧ p.head < g.S ∧ ∀ s ∈ p.body, 0 ≤ s ∧ s < g.S
set_option maxRecDepth 100000 in
set_option maxHeartbeats 4000000 in
theorem used_any (g : Gr) (A : Option Addr) (c : Nat) (w : World) (hbl : ∀ p ∈ g.ps, p.body.length ≤ 9223372036854775807) (hr : RdP w w.heap.size A g.ps) (ok : GrOk g) :
    Calls Tryd.prog 53 #[grV g A c] w fun e w' => e = .returned (.bool (usedB g)) ∧ Below w.heap.size w w' := by
  obtain ⟨T, S, st, ps⟩ := g
  obtain ⟨t0, t1, s0, s1, st0, st1, n0, n1, pr⟩ := ok
  dsimp only at *
  obtain ⟨t, rfl⟩ := Int.eq_ofNat_of_zero_le (show 0 ≤ T by omega)
  obtain ⟨n, rfl⟩ := Int.eq_ofNat_of_zero_le (show 0 ≤ S by omega)
  obtain ⟨a, rfl⟩ := Int.eq_ofNat_of_zero_le (show 0 ≤ st by omega)
  have R0 : Keep (RdP w w.heap.size A ps) := ⟨hr⟩
  have B0 : Keep (∀ p ∈ ps, p.body.length ≤ 9223372036854775807) := ⟨hbl⟩
  have P0 : Keep (∀ p ∈ ps, PrIn n p) := ⟨fun p hp => ⟨by have := pr p hp; omega, by have := pr p hp; omega, fun s hs => by have := (pr p hp).2.2 s hs; omega⟩⟩
  clear hr hbl pr
  generalize hG : usedB ⟨t, n, a, ps⟩ = RES
  have HG : Keep (usedB ⟨t, n, a, ps⟩ = RES) := ⟨hG⟩
  clear hG
  unfold grV
  dsimp only
  have hmk := @run_make_row' Tryd.prog 122 4 (.bool false) 1 Tryd.underlying122 info_bool rfl .i64 .i64 n (by omega) (by omega)
  simp only [madeCells_bools] at hmk
  go_enter Tryd.func53, Tryd.ntmps53
  go_upto_region 1 with fail
  go_cut [3, 4] (fun s3 s4 wx => ∃ gC gX gG : Nat, s3 = .slice (some ⟨gC, 0, none⟩) n n ∧ s4 = .pointer (some ⟨gX, 0, none⟩) ∧
    Keep (UW w wx #[.int .i64 t, .int .i64 n, .int .i64 a, .slice A ps.length c] gC gX gG n (List.replicate n false) (List.replicate n false)))
  case first =>
    go_region
    all_goals (go_wp2_with fail; go_meet)
    all_goals first
      | (refine ⟨_, _, w.heap.size + 1, rfl, rfl, ⟨UW.start ?_ ?_ ?_ ?_ ?_ (by simp; try omega)⟩⟩
         · (repeat first | ((with_reducible refine Blk.newAt ?_); simp; done) | (with_reducible refine Blk.drew ?_) | (with_reducible refine Blk.alloc ?_ _)); done
         · (repeat first | ((with_reducible refine Blk.newAt ?_); simp; done) | (with_reducible refine Blk.drew ?_) | (with_reducible refine Blk.alloc ?_ _)); done
         · (repeat first | ((with_reducible refine Blk.newAt ?_); simp; done) | (with_reducible refine Blk.drew ?_) | (with_reducible refine Blk.alloc ?_ _)); done
         · (repeat first | ((with_reducible refine Blk.newAt ?_); simp; done) | (with_reducible refine Blk.drew ?_) | (with_reducible refine Blk.alloc ?_ _)); done
         · exact below_drew1 ((((Below.refl _ _).alloc (by simp) _).alloc (by simp; try omega) _).alloc (by simp; try omega) _ |>.alloc (by simp; try omega) _))
      | (refine ⟨_, _, w.heap.size + 1 + 1, rfl, rfl, ⟨UW.start ?_ ?_ ?_ ?_ ?_ (by simp; try omega)⟩⟩
         · (repeat first | ((with_reducible refine Blk.newAt ?_); simp; done) | (with_reducible refine Blk.drew ?_) | (with_reducible refine Blk.alloc ?_ _)); done
         · (repeat first | ((with_reducible refine Blk.newAt ?_); simp; done) | (with_reducible refine Blk.drew ?_) | (with_reducible refine Blk.alloc ?_ _)); done
         · (repeat first | ((with_reducible refine Blk.newAt ?_); simp; done) | (with_reducible refine Blk.drew ?_) | (with_reducible refine Blk.alloc ?_ _)); done
         · (repeat first | ((with_reducible refine Blk.newAt ?_); simp; done) | (with_reducible refine Blk.drew ?_) | (with_reducible refine Blk.alloc ?_ _)); done
         · exact below_drew1 ((((Below.refl _ _).alloc (by simp) _).alloc (by simp; try omega) _).alloc (by simp; try omega) _ |>.alloc (by simp; try omega) _))
      | (refine ⟨_, _, w.heap.size + 1 + 1 + 1, rfl, rfl, ⟨UW.start ?_ ?_ ?_ ?_ ?_ (by simp; try omega)⟩⟩
         · (repeat first | ((with_reducible refine Blk.newAt ?_); simp; done) | (with_reducible refine Blk.drew ?_) | (with_reducible refine Blk.alloc ?_ _)); done
         · (repeat first | ((with_reducible refine Blk.newAt ?_); simp; done) | (with_reducible refine Blk.drew ?_) | (with_reducible refine Blk.alloc ?_ _)); done
         · (repeat first | ((with_reducible refine Blk.newAt ?_); simp; done) | (with_reducible refine Blk.drew ?_) | (with_reducible refine Blk.alloc ?_ _)); done
         · (repeat first | ((with_reducible refine Blk.newAt ?_); simp; done) | (with_reducible refine Blk.drew ?_) | (with_reducible refine Blk.alloc ?_ _)); done
         · exact below_drew1 ((((Below.refl _ _).alloc (by simp) _).alloc (by simp; try omega) _).alloc (by simp; try omega) _ |>.alloc (by simp; try omega) _))
  case rest =>
    obtain ⟨gC, gX, gG, rfl, rfl, U⟩ := hcut
    have g2 := U.out.bg.cell 2
    have g0 := U.out.bg.cell 0
    simp at g0 g2
    have cc := U.out.bc.cell a
    rw [bools_at _ a (by simp; omega)] at cc
    have cf := U.out.bc.frozen a
    have i1 : (a : Int) < n := by omega
    go_wp2
    have U2 : Keep (UW w (wc.setCell ⟨gC, a, none⟩ (.bool true)) #[.int .i64 t, .int .i64 n, .int .i64 a, .slice A ps.length c] gC gX gG n ((List.replicate n false).set a true) (List.replicate 0 true ++ List.replicate (n - 0) false)) := ⟨U.out.setC a true⟩
    clear g0 g2 cc cf U
    go_loopg [23] t (fun gg s23 wr => ∃ k : Nat, k ≤ t ∧ t - k ≤ gg ∧ s23 = .int .i64 k ∧
      Keep (UW w wr #[.int .i64 t, .int .i64 n, .int .i64 a, .slice A ps.length c] gC gX gG n ((List.replicate n false).set a true) (List.replicate k true ++ List.replicate (n - k) false)))
    case atStart => exact ⟨0, Nat.zero_le _, by omega, rfl, U2⟩
    case round =>
      clear U2
      obtain ⟨k, hk, hg, rfl, U⟩ := hrel
      by_cases hlt : k < t
      · have cc := U.out.bd.cell k
        rw [bools_at _ k (by simp; omega)] at cc
        have cf := U.out.bd.frozen k
        have cx := U.out.bx.cell 0
        simp at cx
        have i2 : (k : Int) < n := by omega
        go_wp2
        go_roundg (t - (k + 1))
        case measure => omega
        case rel =>
          refine ⟨k + 1, by omega, by omega, by go_num, ⟨?_⟩⟩
          have := U.out.setG k true
          rwa [fill_set k n (by omega)] at this
      · have ek : k = t := by omega
        subst ek
        go_wp2
        have HS : Keep (usedLoop ps (2 * n + 1) ⟨(List.replicate n false).set a true, List.replicate k true ++ List.replicate (n - k) false, true⟩ = usedEnd ⟨k, n, a, ps⟩) := ⟨by simp [usedEnd, used0]⟩
        have HF0 : Keep (true = true → falses ⟨(List.replicate n false).set a true, List.replicate k true ++ List.replicate (n - k) false, true⟩ < 2 * n + 1) := ⟨fun _ => by
          have h1 := List.count_le_length (l := (List.replicate n false).set a true) (a := false)
          have h2 := List.count_le_length (l := List.replicate k true ++ List.replicate (n - k) false) (a := false)
          simp only [List.length_set, List.length_append, List.length_replicate] at h1 h2
          simp only [falses]; omega⟩
        clear i1 hg
        go_loopg [6] (2 * n + 1) (fun gg s6 wr => ∃ u : Us, s6 = .bool u.more ∧ Keep (u.more = true → falses u < gg) ∧
          Keep (UW w wr #[.int .i64 k, .int .i64 n, .int .i64 a, .slice A ps.length c] gC gX gG n u.come u.good) ∧ Keep (usedLoop ps gg u = usedEnd ⟨k, n, a, ps⟩))
        case atStart => exact ⟨_, rfl, HF0, U, HS⟩
        case round =>
          clear U HS HF0
          obtain ⟨⟨come, good, more⟩, rfl, HF, U, HL⟩ := hrel
          dsimp only at *
          cases more with
          | false =>
            replace HL := HL.out
            rw [usedLoop_done _ _ _ rfl] at HL
            have HE : Keep (RES = (!(come.drop k).any (fun x => false == x) && !good.any (fun x => false == x))) := ⟨by
              rw [← HG.out]; simp only [usedB, ← HL]; simp⟩
            clear HL
            have h0 := U.out.bg.cell 0
            have hx := U.out.bx.cell 0
            simp at h0 hx
            have k1 := containsB (some ⟨gC, k, none⟩) (n - k) (n - k) (come.drop k) false wr (by rw [List.length_drop, U.out.lc]) (by rw [List.length_drop, U.out.lc]; omega) (rd_bools_drop k U.out.bc U.out.bc.lt)
            have k2 := containsB (some ⟨gG, 0, none⟩) n n good false wr U.out.lg.symm (by rw [U.out.lg]; omega) (rd_bools U.out.bd U.out.bd.lt)
            cases hq : (come.drop k).any (fun x => false == x) with
            | true =>
              rw [hq] at k1 HE
              clear hq k2
              go_wp2_with (go_at_call 74; refine k1.mono ?_; rintro e w' ⟨rfl, rfl⟩)
              go_ret
              exact ⟨by rw [HE.out]; rfl, U.out.bw⟩
            | false =>
              rw [hq] at k1 HE
              clear hq
              generalize good.any (fun x => false == x) = gq at k2 HE
              go_wp2_with (first
                | (go_at_call_of 74 (Value.slice (some ⟨gC, k, none⟩) (n - k) (n - k)); refine k1.mono ?_; rintro e w' ⟨rfl, rfl⟩)
                | (go_at_call_of 74 (Value.slice (some ⟨gG, 0, none⟩) n n); refine k2.mono ?_; rintro e w' ⟨rfl, rfl⟩))
              go_ret
              exact ⟨by rw [HE.out]; rfl, U.out.bw⟩
          | true =>
            obtain ⟨fu, rfl⟩ : ∃ m, gk = m + 1 := ⟨gk - 1, by have := HF.out rfl; omega⟩
            replace HL := HL.out
            rw [usedLoop_go _ _ _ rfl] at HL
            have HL2 := Keep.mk HL
            have HR := Keep.mk (usedRound_le (n := n) (u := ⟨come, good, true⟩) U.out.lc U.out.lg P0.out)
            clear HL
            have h3 := U.out.bg.cell 3
            simp at h3
            obtain ⟨wo, rfl⟩ : ∃ wo : World, wo = wr := ⟨_, rfl⟩
            go_wp2
            go_loopg [6, 34] ps.length (fun gg s6 s34 wr => ∃ (m : Nat) (u : Us), m ≤ ps.length ∧ ps.length - m ≤ gg ∧ s6 = .bool u.more ∧ s34 = .int .i64 m ∧
              Keep (u = (ps.take m).foldl usedStep ⟨come, good, false⟩) ∧ Keep (UW w wr #[.int .i64 k, .int .i64 n, .int .i64 a, .slice A ps.length c] gC gX gG n u.come u.good))
            case atStart => exact ⟨0, ⟨come, good, false⟩, Nat.zero_le _, by omega, rfl, rfl, ⟨by simp⟩, U⟩
            case round =>
              clear U h3
              obtain ⟨m, u, hm, hgm, rfl, rfl, HU, U⟩ := hrel
              by_cases hltm : m < ps.length
              · obtain ⟨ad, Ab, cb, rfl, hb, c0, c1, c2, hlb, hrb⟩ := R0.out m hltm
                replace c0 := cell_below c0 U.out.bw (by rw [add_block]; exact hb)
                replace c1 := cell_below c1 U.out.bw (by show (ad.add _).block < _; rw [add_block]; exact hb)
                replace c2 := cell_below c2 U.out.bw (by show (ad.add _).block < _; rw [add_block]; exact hb)
                have hbl := B0.out _ (List.getElem_mem hltm)
                have hpi := Keep.mk (P0.out _ (List.getElem_mem hltm))
                have HU2 : Keep ((ps.take (m + 1)).foldl usedStep ⟨come, good, false⟩ = usedStep u ps[m]) := ⟨by rw [List.take_succ_eq_append_getElem hltm, List.foldl_append, ← HU.out]; rfl⟩
                clear HU
                generalize hx : ps[m] = p at *
                clear hx
                obtain ⟨hd, bd, rt⟩ := p
                dsimp only at *
                obtain ⟨d, rfl⟩ := Int.eq_ofNat_of_zero_le hpi.out.1
                have hdn : (d : Int) < n := by have := hpi.out.2.1; simp at this; omega
                have i1 : (0:Int) ≤ m := by omega
                have i2 : (m : Int) < ps.length := by omega
                obtain ⟨wo, rfl⟩ : ∃ wo : World, wo = wr := ⟨_, rfl⟩
                go_upto_region 14 with fail
                have UP : Keep (UW w (wo.alloc (.cells #[.int .i64 d, .slice Ab bd.length cb, .bool rt] 49)) #[.int .i64 k, .int .i64 n, .int .i64 a, .slice (some ad) ps.length c] gC gX gG n u.come u.good) := ⟨U.out.alloc _⟩
                have BP : Keep (Blk (wo.alloc (.cells #[.int .i64 d, .slice Ab bd.length cb, .bool rt] 49)) wo.heap.size 49 #[.int .i64 d, .slice Ab bd.length cb, .bool rt]) := ⟨Blk.new _ _ _⟩
                have sz : w.heap.size ≤ wo.heap.size := U.out.bw.size
                have np : gC < wo.heap.size ∧ gG < wo.heap.size := ⟨U.out.bc.lt, U.out.bd.lt⟩
                generalize hpb : wo.heap.size = pb at *
                generalize hwp : wo.alloc _ = wp at *
                clear hwp c0 c1 c2 U hpb
                clear wo
                go_cut [50] (fun s50 wx => s50 = .bool (!(gb u.good d) && !(bd.any fun s => !(gb u.good s))) ∧
                  Keep (UW w wx #[.int .i64 k, .int .i64 n, .int .i64 a, .slice (some ad) ps.length c] gC gX gG n u.come u.good) ∧ Keep (Blk wx pb 49 #[.int .i64 d, .slice Ab bd.length cb, .bool rt]))
                case first =>
                  have q0 := BP.out.cell 0
                  have q1 := BP.out.cell 1
                  simp at q0 q1
                  have hx := UP.out.bx.cell 0
                  simp at hx
                  have gd := UP.out.bd.cell d
                  rw [bools_gb _ d (by rw [UP.out.lg]; omega)] at gd
                  have hany := containsFuncI Ab bd.length cb bd 73 #[.pointer (some ⟨gX, 0, none⟩)] (fun s => !(gb u.good s)) wp rfl hbl ((hrb.below UP.out.bw).mono UP.out.bw.size)
                    (enters_of Tryd.func73 rfl rfl)
                    (fun x hx W hW => (used1 gX gG n u.good x W (UP.out.bx.below hW UP.out.bx.lt) (UP.out.bd.below hW UP.out.bd.lt) UP.out.lg (hpi.out.2.2 x hx).1 (hpi.out.2.2 x hx).2).mono fun _ _ ⟨he, hw⟩ => ⟨he, by rw [hw]; exact hW⟩)
                  generalize hv : gb u.good d = v at gd
                  generalize hv2 : (bd.any fun s => !(gb u.good s)) = v2 at hany
                  have HV := Keep.mk hv
                  have HV2 := Keep.mk hv2
                  clear hv hv2
                  cases v with
                  | true =>
                    go_wp2_with fail
                    go_meet
                    exact ⟨by rw [HV.out]; rfl, UP, BP⟩
                  | false =>
                    go_wp2_with (go_at_call 72; refine hany.mono ?_; rintro e w' ⟨rfl, hb'⟩)
                    go_meet
                    exact ⟨by rw [HV.out, HV2.out]; rfl, ⟨UP.out.below hb'⟩, ⟨BP.out.below hb' BP.out.lt⟩⟩
                case rest =>
                  obtain ⟨rfl, U1, BP1⟩ := hcut
                  clear UP BP
                  go_upto_if 50 with fail
                  go_cut [6] (fun s6 wx => s6 = .bool (goodIn ⟨d, bd, rt⟩ u).more ∧
                    Keep (UW w wx #[.int .i64 k, .int .i64 n, .int .i64 a, .slice (some ad) ps.length c] gC gX gG n (goodIn ⟨d, bd, rt⟩ u).come (goodIn ⟨d, bd, rt⟩ u).good) ∧ Keep (Blk wx pb 49 #[.int .i64 d, .slice Ab bd.length cb, .bool rt]))
                  case first =>
                    generalize hc : (!(gb u.good d) && !(bd.any fun s => !(gb u.good s))) = b
                    cases b with
                    | true =>
                      have e : Keep (goodIn ⟨d, bd, rt⟩ u = { u with good := u.good.set d true, more := true }) := ⟨by unfold goodIn; dsimp only; rw [hc]; simp⟩
                      clear hc
                      have q0 := BP1.out.cell 0
                      have hx := U1.out.bx.cell 0
                      simp at q0 hx
                      have gd := U1.out.bd.cell d
                      rw [bools_at _ d (by rw [U1.out.lg]; omega)] at gd
                      have gf := U1.out.bd.frozen d
                      go_wp2_with fail
                      go_meet
                      rw [e.out]
                      exact ⟨rfl, ⟨U1.out.setG d true⟩, ⟨BP1.out.far (by show pb ≠ gG; omega) _⟩⟩
                    | false =>
                      have e : Keep (goodIn ⟨d, bd, rt⟩ u = u) := ⟨by unfold goodIn; dsimp only; rw [hc]; rfl⟩
                      clear hc
                      go_wp2_with fail
                      go_meet
                      rw [e.out]
                      exact ⟨rfl, U1, BP1⟩
                  case rest =>
                    obtain ⟨rfl, U2, BP2⟩ := hcut
                    clear U1 BP1
                    have HU3 : Keep ((ps.take (m + 1)).foldl usedStep ⟨come, good, false⟩ = bd.foldl (comeIn d) (goodIn ⟨d, bd, rt⟩ u)) := ⟨by rw [HU2.out]; rfl⟩
                    clear HU2
                    generalize goodIn ⟨d, bd, rt⟩ u = u1 at *
                    have q1 := BP2.out.cell 1
                    simp at q1
                    go_wp2
                    go_loopg [6, 58] bd.length (fun gg s6 s58 wr => ∃ (j : Nat) (u : Us), j ≤ bd.length ∧ bd.length - j ≤ gg ∧ s6 = .bool u.more ∧ s58 = .int .i64 j ∧ Keep (u = (bd.take j).foldl (comeIn d) u1) ∧
                      Keep (UW w wr #[.int .i64 k, .int .i64 n, .int .i64 a, .slice (some ad) ps.length c] gC gX gG n u.come u.good) ∧ Keep (Blk wr pb 49 #[.int .i64 d, .slice Ab bd.length cb, .bool rt]))
                    case atStart => exact ⟨0, u1, Nat.zero_le _, by omega, rfl, rfl, ⟨by simp⟩, U2, BP2⟩
                    case round =>
                      clear U2 BP2 q1
                      obtain ⟨j, u2, hj, hgj, rfl, rfl, HV, U, BP⟩ := hrel
                      by_cases hltj : j < bd.length
                      · obtain ⟨a2, rfl, hb2, hc2⟩ := hrb.int j hltj
                        replace hc2 := cell_below hc2 U.out.bw (by rw [add_block]; exact hb2)
                        have hs := hpi.out.2.2 _ (List.getElem_mem hltj)
                        have HV2 : Keep ((bd.take (j + 1)).foldl (comeIn d) u1 = comeIn d u2 bd[j]) := ⟨by rw [List.take_succ_eq_append_getElem hltj, List.foldl_append, ← HV.out]; rfl⟩
                        clear HV
                        generalize hy : bd[j] = y at *
                        clear hy
                        obtain ⟨y, rfl⟩ := Int.eq_ofNat_of_zero_le hs.1
                        have hyn : (y : Int) < n := by have := hs.2; simp at this; omega
                        have j1 : (0:Int) ≤ j := by omega
                        have j2 : (j : Int) < bd.length := by omega
                        have q0 := BP.out.cell 0
                        simp at q0
                        have ca := U.out.bc.cell d
                        rw [bools_gb _ d (by rw [U.out.lc]; omega)] at ca
                        have cb' := U.out.bc.cell y
                        rw [bools_gb _ y (by rw [U.out.lc]; omega)] at cb'
                        have cf := U.out.bc.frozen y
                        have hci : Keep (comeIn d u2 y = if gb u2.come d && !(gb u2.come y) then { u2 with come := u2.come.set y true, more := true } else u2) := ⟨rfl⟩
                        clear hs
                        generalize gb u2.come d = v1 at *
                        generalize gb u2.come y = v2 at *
                        cases v1 with
                        | false =>
                          have e : Keep (comeIn d u2 y = u2) := ⟨by rw [hci.out]; rfl⟩
                          go_wp2
                          go_roundg (bd.length - (j + 1))
                          case measure => omega
                          case rel => exact ⟨j + 1, u2, by omega, by omega, rfl, by go_num, ⟨by rw [HV2.out, e.out]⟩, U, BP⟩
                        | true =>
                          cases v2 with
                          | true =>
                            have e : Keep (comeIn d u2 y = u2) := ⟨by rw [hci.out]; rfl⟩
                            go_wp2
                            go_roundg (bd.length - (j + 1))
                            case measure => omega
                            case rel => exact ⟨j + 1, u2, by omega, by omega, rfl, by go_num, ⟨by rw [HV2.out, e.out]⟩, U, BP⟩
                          | false =>
                            have e : Keep (comeIn d u2 y = { u2 with come := u2.come.set y true, more := true }) := ⟨by rw [hci.out]; rfl⟩
                            go_wp2
                            go_roundg (bd.length - (j + 1))
                            case measure => omega
                            case rel => exact ⟨j + 1, _, by omega, by omega, rfl, by go_num, ⟨by rw [HV2.out, e.out]⟩, ⟨U.out.setC y true⟩, ⟨BP.out.far (by show pb ≠ gC; omega) _⟩⟩
                      · have ej : j = bd.length := by omega
                        subst ej
                        go_wp2
                        go_roundg (ps.length - (m + 1))
                        case measure => omega
                        case rel => exact ⟨m + 1, u2, by omega, by omega, rfl, by go_num, ⟨by rw [HU3.out, HV.out, List.take_length]⟩, U⟩
              · have em : m = ps.length := by omega
                subst em
                go_wp2
                go_roundg fu
                case measure => omega
                case rel =>
                  have hu : u = usedRound ps ⟨come, good, true⟩ := by rw [HU.out, List.take_length]; rfl
                  refine ⟨u, rfl, ⟨fun h => ?_⟩, U, ⟨by rw [hu]; exact HL2.out⟩⟩
                  have h1 := HR.out.2.2
                  rw [← hu] at h1
                  have h2 := HF.out (by first | rfl | trivial)
                  have h3 := h1 h
                  omega
end Go.Proofs.YtaooejidkeojjaaDoor.H
namespace Go.Proofs.YtaooejidkeojjaaDoor.H
open Go.RowKit
set_option linter.unusedVariables false
set_option linter.unusedSimpArgs false
def leads (left : List Bool) (s : Int) (p : Pr) : Bool := decide (p.head = s) && decide (p.body.length = 1) && gb left (p.body.getD 0 0)
structure Ro where
  left : List Bool
  more : Bool
def roundIn (ps : List Pr) (u : Ro) (s : Nat) : Ro := if gb u.left s && !(ps.any (leads u.left s)) then ⟨u.left.set s false, true⟩ else u
def roundRound (ps : List Pr) (T n : Nat) (u : Ro) : Ro := (List.range' T (n - T)).foldl (roundIn ps) ⟨u.left, false⟩
def roundLoop (ps : List Pr) (T n : Nat) : Nat → Ro → Ro
  | 0, u => u
  | k + 1, u => if u.more then roundLoop ps T n k (roundRound ps T n u) else u
def round0 (T n : Nat) : Ro := ⟨List.replicate T false ++ List.replicate (n - T) true, true⟩
def roundEnd (g : Gr) : Ro := roundLoop g.ps g.T.toNat g.S.toNat (g.S.toNat + 1) (round0 g.T.toNat g.S.toNat)
def roundB (g : Gr) : Bool := (roundEnd g).left.any (fun x => true == x)
theorem count_set_true (l : List Bool) : ∀ i, l.getD i false = true → (l.set i false).count true + 1 = l.count true := by
  induction l with
  | nil => intro i h; simp at h
  | cons b l ih =>
    intro i h
    cases i with
    | zero => simp at h; subst h; simp
    | succ i =>
      have := ih i (by simpa using h)
      simp only [List.set_cons_succ, List.count_cons]
      omega
structure RoLe (n : Nat) (u v : Ro) : Prop where
  c : v.left.length = n
  le : v.left.count true ≤ u.left.count true
  new : v.more = true → u.more = true ∨ v.left.count true < u.left.count true
theorem RoLe.trans {n : Nat} {a b c : Ro} (h : RoLe n a b) (k : RoLe n b c) : RoLe n a c := by
  refine ⟨k.c, Nat.le_trans k.le h.le, fun hm => ?_⟩
  rcases k.new hm with h1 | h1
  · rcases h.new h1 with h2 | h2
    · exact .inl h2
    · exact .inr (Nat.lt_of_le_of_lt k.le h2)
  · exact .inr (Nat.lt_of_lt_of_le h1 h.le)
theorem roundIn_le {n : Nat} {ps : List Pr} {u : Ro} {s : Nat} (hc : u.left.length = n) : RoLe n u (roundIn ps u s) := by
  unfold roundIn
  split
  · rename_i ht
    simp only [Bool.and_eq_true] at ht
    have := count_set_true u.left s (by simpa [gb] using ht.1)
    exact ⟨by simp [hc], by dsimp only; omega, fun _ => .inr (by dsimp only; omega)⟩
  · exact ⟨hc, Nat.le_refl _, fun h => .inl h⟩
theorem roundAll_le {n : Nat} {ps : List Pr} (l : List Nat) : ∀ {u : Ro}, u.left.length = n → RoLe n u (l.foldl (roundIn ps) u) := by
  induction l with
  | nil => intro u hc; exact ⟨hc, Nat.le_refl _, fun h => .inl h⟩
  | cons p l ih =>
    intro u hc
    have h1 := roundIn_le (ps := ps) (s := p) hc
    exact h1.trans (ih h1.c)
theorem roundRound_le {n : Nat} {ps : List Pr} {T : Nat} {u : Ro} (hc : u.left.length = n) :
    (roundRound ps T n u).left.length = n ∧ ((roundRound ps T n u).more = true → (roundRound ps T n u).left.count true < u.left.count true) := by
  have h := roundAll_le (n := n) (ps := ps) (List.range' T (n - T)) (u := ⟨u.left, false⟩) hc
  refine ⟨h.c, fun hm => ?_⟩
  rcases h.new hm with h1 | h1
  · cases h1
  · exact h1
theorem roundLoop_done (ps : List Pr) (T n k : Nat) (u : Ro) (h : u.more = false) : roundLoop ps T n k u = u := by
  cases k with
  | zero => rfl
  | succ k => simp [roundLoop, h]
theorem roundLoop_go (ps : List Pr) (T n k : Nat) (u : Ro) (h : u.more = true) : roundLoop ps T n (k + 1) u = roundLoop ps T n k (roundRound ps T n u) := by simp [roundLoop, h]
theorem fill_true (T k n : Nat) (hT : T ≤ k) (h : k < n) : (List.replicate T false ++ List.replicate (k - T) true ++ List.replicate (n - k) false).set k true = List.replicate T false ++ List.replicate (k + 1 - T) true ++ List.replicate (n - (k + 1)) false := by
  rw [List.set_append_right _ _ (by simp; omega), show k - (List.replicate T false ++ List.replicate (k - T) true).length = 0 from by simp; omega, show n - k = (n - (k + 1)) + 1 from by omega, List.replicate_succ, List.set_cons_zero, show k + 1 - T = (k - T) + 1 from by omega, List.replicate_succ' (n := k - T)]
  simp
structure RW (w wr : World) (gv : Array Value) (gX gG n : Nat) (left : List Bool) : Prop where
  bw : Below w.heap.size w wr
  bg : Blk wr w.heap.size 24 gv
  bx : Blk wr gX 122 #[.slice (some ⟨gG, 0, none⟩) n n]
  bd : Blk wr gG 4 (bools left)
  nx : gX ≠ gG
  gx : w.heap.size < gX
  gg : w.heap.size < gG
  lg : left.length = n
section
variable {w wr w' : World} {gv : Array Value} {gX gG n : Nat} {left : List Bool}
theorem RW.below (h : RW w wr gv gX gG n left) (hb : Below wr.heap.size wr w') : RW w w' gv gX gG n left :=
  ⟨below_step h.bw hb h.bw.size, h.bg.below hb h.bg.lt, h.bx.below hb h.bx.lt, h.bd.below hb h.bd.lt, h.nx, h.gx, h.gg, h.lg⟩
theorem RW.alloc (h : RW w wr gv gX gG n left) (o : Obj) : RW w (wr.alloc o) gv gX gG n left := h.below ((Below.refl _ _).alloc (Nat.le_refl _) o)
theorem RW.setG (h : RW w wr gv gX gG n left) (i : Nat) (b : Bool) : RW w (wr.setCell ⟨gG, i, none⟩ (.bool b)) gv gX gG n (left.set i b) := by
  refine ⟨h.bw.setCell (by show w.heap.size ≤ gG; have := h.gg; omega) _, h.bg.far (by show _ ≠ gG; have := h.gg; omega) _, h.bx.far h.nx _, ?_, h.nx, h.gx, h.gg, by simp [h.lg]⟩
  have := h.bd.set_ i (.bool b)
  rwa [bools_set] at this
end
set_option maxHeartbeats 1000000 in
theorem round1 (p : Pr) (Ap : Option Addr) (cp : Nat) (gS gX gG n s : Nat) (left : List Bool) (w : World) (hl : p.body.length ≤ 9223372036854775807)
    (hs : Blk w gS 3 #[.int .i64 s]) (hx : Blk w gX 122 #[.slice (some ⟨gG, 0, none⟩) n n]) (hd : Blk w gG 4 (bools left)) (hn : left.length = n)
    (hp : ∀ y ∈ p.body, 0 ≤ y ∧ y.toNat < n) (hr : Rd eI 1 w w.heap.size Ap p.body) :
    Calls Tryd.prog 75 #[prV p Ap cp, .pointer (some ⟨gS, 0, none⟩), .pointer (some ⟨gX, 0, none⟩)] w fun e w' => e = .returned (.bool (leads left s p)) ∧ Below w.heap.size w w' := by
  unfold prV
  obtain ⟨hd', bd, rt⟩ := p
  dsimp only at *
  have s0 := hs.cell 0
  have x0 := hx.cell 0
  simp at s0 x0
  have hsl := hs.lt
  have hxl := hx.lt
  have hdl := hd.lt
  by_cases h1 : hd' = s
  · have t1 : ((hd' : Int) == (s : Int)) = true := by simp [h1]
    by_cases h2 : bd.length = 1
    · have t2 : ((bd.length : Int) == 1) = true := by simp [h2]
      have i1 : (0 : Int) < bd.length := by omega
      obtain ⟨ad, rfl, hb, hc⟩ := hr.int 0 (by omega)
      have hy := hp _ (List.getElem_mem (show 0 < bd.length by omega))
      have H : Keep (leads left s ⟨hd', bd, rt⟩ = gb left (bd[0]'(by omega))) := ⟨by simp [leads, h1, h2, show 0 < bd.length by omega]⟩
      generalize bd[0] = y at *
      clear h1 h2 hp
      obtain ⟨y, rfl⟩ := Int.eq_ofNat_of_zero_le hy.1
      have hyn : (y : Int) < n := by have := hy.2; simp at this; omega
      have cd := hd.cell y
      rw [bools_gb _ y (by rw [hn]; omega)] at cd
      clear hr hd hn
      generalize gb left y = v at *
      rw [H.out]
      clear hs hx
      rw [show ad.add 0 = ad from rfl] at hc
      go_enter Tryd.func75, Tryd.ntmps75
      go_wp2
      go_quiet (fail)
      go_wp2
      go_ret
      exact ⟨rfl, below_drewN ((Below.refl _ _).alloc (Nat.le_refl _) _) _⟩
    · have t2 : ((bd.length : Int) == 1) = false := by simp; omega
      have H : Keep (leads left s ⟨hd', bd, rt⟩ = false) := ⟨by simp [leads, h2]⟩
      clear h1 h2 hp
      rw [H.out]
      clear hs hx hd hr hn
      go_enter Tryd.func75, Tryd.ntmps75
      go_wp2
      go_quiet (fail)
      go_wp2
      go_ret
      exact ⟨rfl, below_drewN ((Below.refl _ _).alloc (Nat.le_refl _) _) _⟩
  · have t1 : ((hd' : Int) == (s : Int)) = false := by simp [h1]
    have H : Keep (leads left s ⟨hd', bd, rt⟩ = false) := ⟨by simp [leads, h1]⟩
    clear h1 hp
    rw [H.out]
    clear hs hx hd hr hn
    go_enter Tryd.func75, Tryd.ntmps75
    go_wp2
    go_quiet (fail)
    go_wp2
    go_ret
    exact ⟨rfl, below_drewN ((Below.refl _ _).alloc (Nat.le_refl _) _) _⟩
end Go.Proofs.YtaooejidkeojjaaDoor.H
namespace Go.Proofs.YtaooejidkeojjaaDoor.H
open Go.RowKit
set_option linter.unusedVariables false
set_option linter.unusedSimpArgs false
theorem foldl_range_succ {α : Type} (f : α → Nat → α) (T k : Nat) (hT : T ≤ k) (u : α) : (List.range' T (k + 1 - T)).foldl f u = f ((List.range' T (k - T)).foldl f u) k := by
  rw [show k + 1 - T = (k - T) + 1 from by omega, List.range'_concat, List.foldl_append]
  simp [show T + (k - T) = k from by omega]
set_option maxRecDepth 100000 in
set_option maxHeartbeats 4000000 in
theorem round_any (g : Gr) (A : Option Addr) (c : Nat) (w : World) (hbl : ∀ p ∈ g.ps, p.body.length ≤ 9223372036854775807) (hr : RdP w w.heap.size A g.ps) (ok : GrOk g) :
    Calls Tryd.prog 54 #[grV g A c] w fun e w' => e = .returned (.bool (roundB g)) ∧ Below w.heap.size w w' := by
  obtain ⟨T, S, st, ps⟩ := g
  obtain ⟨t0, t1, s0, s1, st0, st1, n0, n1, pr⟩ := ok
  dsimp only at *
  obtain ⟨t, rfl⟩ := Int.eq_ofNat_of_zero_le (show 0 ≤ T by omega)
  obtain ⟨n, rfl⟩ := Int.eq_ofNat_of_zero_le (show 0 ≤ S by omega)
  have R0 : Keep (RdP w w.heap.size A ps) := ⟨hr⟩
  have B0 : Keep (∀ p ∈ ps, p.body.length ≤ 9223372036854775807) := ⟨hbl⟩
  have P0 : Keep (∀ p ∈ ps, ∀ y ∈ p.body, 0 ≤ y ∧ y.toNat < n) := ⟨fun p hp s hs => by have := (pr p hp).2.2 s hs; omega⟩
  have LN : ps.length ≤ 9223372036854775807 := by omega
  clear hr hbl pr n0 n1 st0 st1
  generalize hG : roundB ⟨t, n, st, ps⟩ = RES
  have HG : Keep (roundB ⟨t, n, st, ps⟩ = RES) := ⟨hG⟩
  clear hG
  unfold grV
  dsimp only
  have hmk := @run_make_row' Tryd.prog 122 4 (.bool false) 1 Tryd.underlying122 info_bool rfl .i64 .i64 n (by omega) (by omega)
  simp only [madeCells_bools] at hmk
  go_enter Tryd.func54, Tryd.ntmps54
  go_upto_region 2 with fail
  go_cut [3, 4] (fun s3 s4 wx => ∃ gX gG : Nat, s3 = .pointer (some ⟨gX, 0, none⟩) ∧ s4 = .int .i64 t ∧ Keep (RW w wx #[.int .i64 t, .int .i64 n, .int .i64 st, .slice A ps.length c] gX gG n (List.replicate n false)))
  case first =>
    go_wp2_with fail
    go_meet
    refine ⟨_, w.heap.size + 1, rfl, rfl, ⟨(((Below.refl _ _).alloc (by simp) _).alloc (by simp) _).alloc (by simp; omega) _, ?_, Blk.newAt (by simp), ?_, by omega, by omega, by omega, by simp⟩⟩
    · exact ((Blk.new _ _ _).alloc _).alloc _
    · exact (Blk.newAt (by simp)).alloc _
  case rest =>
    obtain ⟨gX, gG, rfl, rfl, U⟩ := hcut
    have U2 : Keep (RW w wc #[.int .i64 t, .int .i64 n, .int .i64 st, .slice A ps.length c] gX gG n (List.replicate t false ++ List.replicate (t - t) true ++ List.replicate (n - t) false)) := ⟨by
      have e : List.replicate t false ++ List.replicate (t - t) true ++ List.replicate (n - t) false = List.replicate n false := by
        simp; omega
      rw [e]; exact U.out⟩
    clear U
    go_wp2
    go_loopg [4] (n - t) (fun gg s4 wr => ∃ k : Nat, t ≤ k ∧ k ≤ n ∧ n - k ≤ gg ∧ s4 = .int .i64 k ∧
      Keep (RW w wr #[.int .i64 t, .int .i64 n, .int .i64 st, .slice A ps.length c] gX gG n (List.replicate t false ++ List.replicate (k - t) true ++ List.replicate (n - k) false)))
    case atStart => exact ⟨t, Nat.le_refl _, by omega, by omega, rfl, U2⟩
    case round =>
      clear U2
      obtain ⟨k, hk1, hk2, hg, rfl, U⟩ := hrel
      have g0 := U.out.bg.cell 0
      have g1 := U.out.bg.cell 1
      simp at g0 g1
      by_cases hlt : k < n
      · have cc := U.out.bd.cell k
        rw [bools_gb _ k (by rw [U.out.lg]; omega)] at cc
        have cf := U.out.bd.frozen k
        have cx := U.out.bx.cell 0
        simp at cx
        go_wp2
        go_roundg (n - (k + 1))
        case measure => omega
        case rel =>
          refine ⟨k + 1, by omega, by omega, by omega, by go_num, ⟨?_⟩⟩
          have := U.out.setG k true
          rwa [fill_true t k n hk1 hlt] at this
      · have ek : k = n := by omega
        subst ek
        have U2 : Keep (RW w wr (#[.int .i64 t, .int .i64 k, .int .i64 st, .slice A ps.length c]) gX gG k (List.replicate t false ++ List.replicate (k - t) true)) := ⟨by
          have := U.out
          rw [Nat.sub_self, List.replicate_zero, List.append_nil] at this
          exact this⟩
        go_wp2
        have HS : Keep (roundLoop ps t k (k + 1) ⟨List.replicate t false ++ List.replicate (k - t) true, true⟩ = roundEnd ⟨t, k, st, ps⟩) := ⟨by simp [roundEnd, round0]⟩
        have HF0 : Keep (true = true → (List.replicate t false ++ List.replicate (k - t) true).count true < k + 1) := ⟨fun _ => by
          have h2 := List.count_le_length (l := List.replicate t false ++ List.replicate (k - t) true) (a := true)
          simp only [List.length_append, List.length_replicate] at h2
          omega⟩
        clear U g0 g1
        go_loopg [5] (k + 1) (fun gg s5 wr => ∃ u : Ro, s5 = .bool u.more ∧ Keep (u.more = true → u.left.count true < gg) ∧
          Keep (RW w wr #[.int .i64 t, .int .i64 k, .int .i64 st, .slice A ps.length c] gX gG k u.left) ∧ Keep (roundLoop ps t k gg u = roundEnd ⟨t, k, st, ps⟩))
        case atStart => exact ⟨_, rfl, HF0, U2, HS⟩
        case round =>
          clear U2 HS HF0
          obtain ⟨⟨left, more⟩, rfl, HF, U, HL⟩ := hrel
          dsimp only at *
          cases more with
          | false =>
            replace HL := HL.out
            rw [roundLoop_done _ _ _ _ _ rfl] at HL
            have HE : Keep (RES = left.any (fun x => true == x)) := ⟨by rw [← HG.out]; simp only [roundB, ← HL]⟩
            clear HL
            have hx := U.out.bx.cell 0
            simp at hx
            have k2 := containsB (some ⟨gG, 0, none⟩) k k left true wr U.out.lg.symm (by rw [U.out.lg]; omega) (rd_bools U.out.bd U.out.bd.lt)
            generalize left.any (fun x => true == x) = gq at k2 HE
            go_wp2_with (go_at_call 74; refine k2.mono ?_; rintro e w' ⟨rfl, rfl⟩)
            go_ret
            exact ⟨by rw [HE.out]; rfl, U.out.bw⟩
          | true =>
            obtain ⟨fu, rfl⟩ : ∃ m, gk = m + 1 := ⟨gk - 1, by have := HF.out rfl; omega⟩
            replace HL := HL.out
            rw [roundLoop_go _ _ _ _ _ rfl] at HL
            have HL2 := Keep.mk HL
            have HR := Keep.mk (roundRound_le (n := k) (T := t) (ps := ps) (u := ⟨left, true⟩) U.out.lg)
            clear HL
            have h0 := U.out.bg.cell 0
            simp at h0
            obtain ⟨wo, rfl⟩ : ∃ wo : World, wo = wr := ⟨_, rfl⟩
            go_wp2
            have nw : gX < wo.heap.size ∧ gG < wo.heap.size ∧ w.heap.size < wo.heap.size := ⟨U.out.bx.lt, U.out.bd.lt, U.out.bg.lt⟩
            go_loopg [5, 6] (k - t) (fun gg s5 s6 wr => ∃ (m gS : Nat) (u : Ro), t ≤ m ∧ m ≤ k ∧ k - m ≤ gg ∧ s5 = .bool u.more ∧ s6 = .pointer (some ⟨gS, 0, none⟩) ∧ (gS ≠ gX ∧ gS ≠ gG ∧ w.heap.size < gS) ∧
              Keep (Blk wr gS 3 #[.int .i64 m]) ∧ Keep (u = (List.range' t (m - t)).foldl (roundIn ps) ⟨left, false⟩) ∧ Keep (RW w wr #[.int .i64 t, .int .i64 k, .int .i64 st, .slice A ps.length c] gX gG k u.left))
            case atStart =>
              exact ⟨t, wo.heap.size, ⟨left, false⟩, Nat.le_refl _, by omega, by omega, rfl, rfl, ⟨by omega, by omega, by omega⟩, ⟨Blk.new _ _ _⟩, ⟨by simp⟩, ⟨U.out.alloc _⟩⟩
            case round =>
              clear U h0 nw
              obtain ⟨m, gS, u, hm1, hm2, hgm, rfl, rfl, ⟨hn1, hn2, hn3⟩, BS, HU, U⟩ := hrel
              have bs := BS.out.cell 0
              simp at bs
              have g1 := U.out.bg.cell 1
              simp at g1
              by_cases hltm : m < k
              · have hx := U.out.bx.cell 0
                have g3 := U.out.bg.cell 3
                simp at hx g3
                have gd := U.out.bd.cell m
                rw [bools_gb _ m (by rw [U.out.lg]; omega)] at gd
                have gf := U.out.bd.frozen m
                have HU2 : Keep ((List.range' t (m + 1 - t)).foldl (roundIn ps) ⟨left, false⟩ = roundIn ps u m) := ⟨by rw [foldl_range_succ _ t m hm1, ← HU.out]⟩
                clear HU
                have hcall := containsFuncP A ps.length c ps 75 #[.pointer (some ⟨gS, 0, none⟩), .pointer (some ⟨gX, 0, none⟩)] (leads u.left m) wr rfl LN ((R0.out.below U.out.bw).mono U.out.bw.size)
                  (enters_of Tryd.func75 rfl rfl)
                  (fun p hp A' c' hr' W hW => (round1 p A' c' gS gX gG k m u.left W (B0.out p hp) (BS.out.below hW BS.out.lt) (U.out.bx.below hW U.out.bx.lt) (U.out.bd.below hW U.out.bd.lt) U.out.lg (P0.out p hp)
                    ((hr'.below hW).mono hW.size)).mono fun _ _ ⟨he, hb⟩ => ⟨he, below_step hW hb hW.size⟩)
                have hci : Keep (roundIn ps u m = if gb u.left m && !(ps.any (leads u.left m)) then ⟨u.left.set m false, true⟩ else u) := ⟨rfl⟩
                generalize gb u.left m = v1 at *
                generalize ps.any (leads u.left m) = v2 at *
                have nw : gX < wr.heap.size ∧ gG < wr.heap.size ∧ w.heap.size < wr.heap.size ∧ gS < wr.heap.size := ⟨U.out.bx.lt, U.out.bd.lt, U.out.bg.lt, BS.out.lt⟩
                cases v1 with
                | false =>
                  have e : Keep (roundIn ps u m = u) := ⟨by rw [hci.out]; rfl⟩
                  go_wp2
                  go_roundg (k - (m + 1))
                  case measure => omega
                  case rel =>
                    refine ⟨m + 1, wr.heap.size, u, by omega, by omega, by omega, rfl, rfl, ⟨by omega, by omega, by omega⟩, ⟨?_⟩, ⟨by rw [HU2.out, e.out]⟩, ⟨?_⟩⟩
                    · simp only [Int.natCast_add, Int.natCast_one]; exact Blk.newAt rfl
                    · exact U.out.alloc _
                | true =>
                  cases v2 with
                  | true =>
                    have e : Keep (roundIn ps u m = u) := ⟨by rw [hci.out]; rfl⟩
                    go_wp2_with (go_at_call 50; refine hcall.mono ?_; rintro e w' ⟨rfl, hb'⟩; have UU := Keep.mk (U.out.below hb'); have bs2 := cell_below bs hb' nw.2.2.2; have nw2 : gX < w'.heap.size ∧ gG < w'.heap.size ∧ w.heap.size < w'.heap.size ∧ gS < w'.heap.size := ⟨UU.out.bx.lt, UU.out.bd.lt, UU.out.bg.lt, cell_lt bs2⟩)
                    go_roundg (k - (m + 1))
                    case measure => omega
                    case rel =>
                      refine ⟨m + 1, w'.heap.size, u, by omega, by omega, by omega, rfl, rfl, ⟨by omega, by omega, by omega⟩, ⟨?_⟩, ⟨by rw [HU2.out, e.out]⟩, ⟨?_⟩⟩
                      · simp only [Int.natCast_add, Int.natCast_one]; exact Blk.newAt rfl
                      · exact UU.out.alloc _
                  | false =>
                    have e : Keep (roundIn ps u m = ⟨u.left.set m false, true⟩) := ⟨by rw [hci.out]; rfl⟩
                    go_wp2_with (go_at_call 50; refine hcall.mono ?_; rintro e w' ⟨rfl, hb'⟩; have UU := Keep.mk (U.out.below hb'); have bs2 := cell_below bs hb' nw.2.2.2; have hx2 := cell_below hx hb' nw.1; have gd2 := cell_below gd hb' nw.2.1; have gf2 := UU.out.bd.frozen m; have nw2 : gX < w'.heap.size ∧ gG < w'.heap.size ∧ w.heap.size < w'.heap.size ∧ gS < w'.heap.size := ⟨UU.out.bx.lt, UU.out.bd.lt, UU.out.bg.lt, cell_lt bs2⟩)
                    go_roundg (k - (m + 1))
                    case measure => omega
                    case rel =>
                      refine ⟨m + 1, w'.heap.size, ⟨u.left.set m false, true⟩, by omega, by omega, by omega, rfl, by simp [World.setCell], ⟨by omega, by omega, by omega⟩, ⟨?_⟩, ⟨by rw [HU2.out, e.out]⟩, ⟨?_⟩⟩
                      · simp only [Int.natCast_add, Int.natCast_one]; exact Blk.newAt (by simp [World.setCell])
                      · exact (UU.out.setG m false).alloc _
              · have em : m = k := by omega
                subst em
                go_wp2
                go_roundg fu
                case measure => omega
                case rel =>
                  have hu : u = roundRound ps t m ⟨left, true⟩ := by rw [HU.out]; rfl
                  refine ⟨u, rfl, ⟨fun h => ?_⟩, U, ⟨by rw [hu]; exact HL2.out⟩⟩
                  have h1 := HR.out.2
                  rw [← hu] at h1
                  have h2 := HF.out (by first | rfl | trivial)
                  have h3 := h1 h
                  omega
end Go.Proofs.YtaooejidkeojjaaDoor.H
namespace Go.Proofs.YtaooejidkeojjaaDoor.H
open Go.RowKit
set_option linter.unusedVariables false
set_option linter.unusedSimpArgs false
theorem numbersB_ok {g : Gr} (h : numbersB g = true) : GrOk g ∧ headB g = true := by
  unfold numbersB at h
  simp only [Bool.and_eq_true] at h
  obtain ⟨h1, h2⟩ := h
  have hh := h1
  simp only [headB, decide_eq_true_eq] at h1
  refine ⟨⟨h1.1, h1.2.1, h1.2.2.1, h1.2.2.2.1, h1.2.2.2.2.1, h1.2.2.2.2.2.1, h1.2.2.2.2.2.2.1, h1.2.2.2.2.2.2.2, fun p hp => ?_⟩, hh⟩
  obtain ⟨i, hi, rfl⟩ := List.getElem_of_mem hp
  have h3 := List.all_eq_true.1 h2 i (List.mem_range.2 hi)
  unfold okAt at h3
  rw [List.getElem?_eq_getElem hi] at h3
  simp only [prodB, Bool.and_eq_true, decide_eq_true_eq, List.all_eq_true, symB] at h3
  exact ⟨h3.1.1.1, h3.1.1.2, fun s hs => h3.1.2 s hs⟩
def checkI (g : Gr) : Int :=
  if numbersB g = false then 2 else if g.ps.any (fun p => decide (8 < p.body.length)) = true then 3 else if g.ps.any (fun p => decide (p.body.length = 0)) = true then 130
  else if usedB g = false then 131 else if roundB g = true then 132 else 0
structure GrIn (w : World) (g : Gr) (A : Option Addr) (c : Nat) : Prop where
  l : g.ps.length ≤ c
  l2 : g.ps.length ≤ 9223372036854775807
  b : ∀ p ∈ g.ps, p.body.length ≤ 9223372036854775807
  r : RdP w w.heap.size A g.ps
theorem GrIn.below {w w' : World} {g : Gr} {A : Option Addr} {c : Nat} (h : GrIn w g A c) (hb : Below w.heap.size w w') : GrIn w' g A c :=
  ⟨h.l, h.l2, h.b, (h.r.below hb).mono hb.size⟩
theorem numbers_any (g : Gr) (A : Option Addr) (c : Nat) (w : World) (h : GrIn w g A c) :
    Calls Tryd.prog 49 #[grV g A c] w fun e w' => e = .returned (.bool (numbersB g)) ∧ Below w.heap.size w w' := by
  cases hh : headB g with
  | false => exact numbers_no g A c w h.l2 hh
  | true => exact numbers_yes g A c w h.l h.b h.r hh
theorem pred1 (ps : List Pr) (w : World) (hb : ∀ p ∈ ps, p.body.length ≤ 9223372036854775807) : PredP 51 #[] (fun p => decide (8 < p.body.length)) ps w :=
  fun p hp A c hr W hW => (check1 p A c W (hb p hp)).mono fun _ _ ⟨he, hb⟩ => ⟨he, below_step hW hb hW.size⟩
theorem pred2 (ps : List Pr) (w : World) (hb : ∀ p ∈ ps, p.body.length ≤ 9223372036854775807) : PredP 52 #[] (fun p => decide (p.body.length = 0)) ps w :=
  fun p hp A c hr W hW => (check2 p A c W (hb p hp)).mono fun _ _ ⟨he, hb⟩ => ⟨he, below_step hW hb hW.size⟩
set_option maxRecDepth 100000 in
set_option maxHeartbeats 2000000 in
theorem check_any (g : Gr) (A : Option Addr) (c : Nat) (w : World) (h : GrIn w g A c) :
    Calls Tryd.prog 32 #[grV g A c] w fun e w' => e = .returned (.int .i64 (checkI g)) ∧ Below w.heap.size w w' := by
  have H0 := Keep.mk h
  have HL : g.ps.length ≤ 9223372036854775807 := by have := h.l; have := h.l2; omega
  have HB := Keep.mk h.b
  clear h
  have Hn : ∀ W, Below w.heap.size w W → Calls Tryd.prog 49 #[grV g A c] W _ := fun W hW => numbers_any g A c W (H0.out.below hW)
  have H1 : ∀ W, Below w.heap.size w W → Calls Tryd.prog 50 #[.slice A g.ps.length c, .func (.func 51) #[] #[]] W _ :=
    fun W hW => containsFuncP A _ c g.ps 51 #[] _ W rfl HL (H0.out.below hW).r (enters_of Tryd.func51 rfl rfl) (pred1 g.ps W HB.out)
  have H2 : ∀ W, Below w.heap.size w W → Calls Tryd.prog 50 #[.slice A g.ps.length c, .func (.func 52) #[] #[]] W _ :=
    fun W hW => containsFuncP A _ c g.ps 52 #[] _ W rfl HL (H0.out.below hW).r (enters_of Tryd.func52 rfl rfl) (pred2 g.ps W HB.out)
  have H3 : numbersB g = true → ∀ W, Below w.heap.size w W → Calls Tryd.prog 53 #[grV g A c] W _ := fun hn W hW => used_any g A c W HB.out (H0.out.below hW).r (numbersB_ok hn).1
  have H4 : numbersB g = true → ∀ W, Below w.heap.size w W → Calls Tryd.prog 54 #[grV g A c] W _ := fun hn W hW => round_any g A c W HB.out (H0.out.below hW).r (numbersB_ok hn).1
  have HC : Keep (checkI g = if numbersB g = false then 2 else if g.ps.any (fun p => decide (8 < p.body.length)) = true then 3 else if g.ps.any (fun p => decide (p.body.length = 0)) = true then 130
    else if usedB g = false then 131 else if roundB g = true then 132 else 0) := ⟨rfl⟩
  generalize checkI g = RES at *
  generalize numbersB g = n1 at *
  generalize g.ps.any (fun p => decide (8 < p.body.length)) = n2 at *
  generalize g.ps.any (fun p => decide (p.body.length = 0)) = n3 at *
  generalize usedB g = n4 at *
  generalize roundB g = n5 at *
  obtain ⟨T, S, st, ps⟩ := g
  unfold grV at *
  dsimp only at *
  have K1 := Keep.mk Hn
  have K2 := Keep.mk H1
  have K3 := Keep.mk H2
  have K4 := Keep.mk H3
  have K5 := Keep.mk H4
  clear Hn H1 H2 H3 H4
  have B0 : Keep (Below w.heap.size w (w.alloc (.cells #[.int .i64 T, .int .i64 S, .int .i64 st, .slice A ps.length c] 24))) := ⟨(Below.refl _ _).alloc (Nat.le_refl _) _⟩
  have BG : Keep (Blk (w.alloc (.cells #[.int .i64 T, .int .i64 S, .int .i64 st, .slice A ps.length c] 24)) w.heap.size 24 #[.int .i64 T, .int .i64 S, .int .i64 st, .slice A ps.length c]) := ⟨Blk.new _ _ _⟩
  go_enter Tryd.func32, Tryd.ntmps32
  have BG0 := BG
  clear BG
  go_wp2_with fail
  refine (K1.out _ B0.out).mono ?_
  rintro e w1 ⟨rfl, hb⟩
  have B1 : Keep (Below w.heap.size w w1) := ⟨below_step B0.out hb B0.out.size⟩
  have BG1 := Keep.mk (BG0.out.below hb BG0.out.lt)
  have q0 := BG1.out.cell 0
  have q1 := BG1.out.cell 1
  have q2 := BG1.out.cell 2
  have q3 := BG1.out.cell 3
  simp at q0 q1 q2 q3
  clear hb
  cases n1 with
  | false =>
    go_wp2
    go_ret
    exact ⟨by rw [HC.out]; rfl, B1.out⟩
  | true =>
    go_wp2_with fail
    refine (K2.out _ B1.out).mono ?_
    rintro e w2 ⟨rfl, hb⟩
    have B2 : Keep (Below w.heap.size w w2) := ⟨below_step B1.out hb B1.out.size⟩
    have BG2 := Keep.mk (BG1.out.below hb BG1.out.lt)
    have q0 := BG2.out.cell 0
    have q1 := BG2.out.cell 1
    have q2 := BG2.out.cell 2
    have q3 := BG2.out.cell 3
    simp at q0 q1 q2 q3
    clear hb
    cases n2 with
    | true =>
      go_wp2
      go_ret
      exact ⟨by rw [HC.out]; rfl, B2.out⟩
    | false =>
      go_wp2_with fail
      refine (K3.out _ B2.out).mono ?_
      rintro e w3 ⟨rfl, hb⟩
      have B3 : Keep (Below w.heap.size w w3) := ⟨below_step B2.out hb B2.out.size⟩
      have BG3 := Keep.mk (BG2.out.below hb BG2.out.lt)
      have q0 := BG3.out.cell 0
      have q1 := BG3.out.cell 1
      have q2 := BG3.out.cell 2
      have q3 := BG3.out.cell 3
      simp at q0 q1 q2 q3
      clear hb
      cases n3 with
      | true =>
        go_wp2
        go_ret
        exact ⟨by rw [HC.out]; rfl, B3.out⟩
      | false =>
        go_wp2_with fail
        refine (K4.out (by first | rfl | trivial) _ B3.out).mono ?_
        rintro e w4 ⟨rfl, hb⟩
        have B4 : Keep (Below w.heap.size w w4) := ⟨below_step B3.out hb B3.out.size⟩
        have BG4 := Keep.mk (BG3.out.below hb BG3.out.lt)
        have q0 := BG4.out.cell 0
        have q1 := BG4.out.cell 1
        have q2 := BG4.out.cell 2
        have q3 := BG4.out.cell 3
        simp at q0 q1 q2 q3
        clear hb
        cases n4 with
        | false =>
          go_wp2
          go_ret
          exact ⟨by rw [HC.out]; rfl, B4.out⟩
        | true =>
          go_wp2_with fail
          refine (K5.out (by first | rfl | trivial) _ B4.out).mono ?_
          rintro e w5 ⟨rfl, hb⟩
          have B5 : Keep (Below w.heap.size w w5) := ⟨below_step B4.out hb B4.out.size⟩
          have BG5 := Keep.mk (BG4.out.below hb BG4.out.lt)
          have q0 := BG5.out.cell 0
          have q1 := BG5.out.cell 1
          have q2 := BG5.out.cell 2
          have q3 := BG5.out.cell 3
          simp at q0 q1 q2 q3
          clear hb
          cases n5 with
          | true =>
            go_wp2
            go_ret
            exact ⟨by rw [HC.out]; rfl, B5.out⟩
          | false =>
            go_wp2
            go_ret
            exact ⟨by rw [HC.out]; rfl, B5.out⟩
end Go.Proofs.YtaooejidkeojjaaDoor.H
namespace Go.Proofs.YtaooejidkeojjaaDoor.H
open Go.RowKit
set_option linter.unusedVariables false
set_option linter.unusedSimpArgs false
theorem checkI_zero {g : Gr} (h : checkI g = 0) : numbersB g = true ∧ (∀ p ∈ g.ps, 0 < p.body.length ∧ p.body.length ≤ 8) ∧ usedB g = true ∧ roundB g = false := by
  unfold checkI at h
  by_cases h1 : numbersB g = false
  · rw [if_pos h1] at h; cases h
  rw [if_neg h1] at h
  by_cases h2 : g.ps.any (fun p => decide (8 < p.body.length)) = true
  · rw [if_pos h2] at h; cases h
  rw [if_neg h2] at h
  by_cases h3 : g.ps.any (fun p => decide (p.body.length = 0)) = true
  · rw [if_pos h3] at h; cases h
  rw [if_neg h3] at h
  by_cases h4 : usedB g = false
  · rw [if_pos h4] at h; cases h
  rw [if_neg h4] at h
  by_cases h5 : roundB g = true
  · rw [if_pos h5] at h; cases h
  refine ⟨by simpa using h1, fun p hp => ?_, by simpa using h4, by simpa using h5⟩
  simp only [List.any_eq_true, decide_eq_true_eq, not_exists, not_and] at h2 h3
  have := h2 p hp
  have := h3 p hp
  omega
theorem GrIn.ok {g : Gr} (h : checkI g = 0) : GrOk g := (numbersB_ok (checkI_zero h).1).1
def goes {α : Type} (more : α → Bool) (round : α → α) : Nat → α → α
  | 0, u => u
  | k + 1, u => if more u then goes more round k (round u) else u
theorem goes_end {α : Type} (more : α → Bool) (round : α → α) (μ : α → Nat) (I : α → Prop) (hI : ∀ u, I u → I (round u)) (hμ : ∀ u, I u → more (round u) = true → μ (round u) < μ u) :
    ∀ k u, I u → μ u < k → more u = true → ∃ v, I v ∧ goes more round k u = round v ∧ more (round v) = false := by
  intro k
  induction k with
  | zero => intro u _ h _; omega
  | succ k ih =>
    intro u hu hk hm
    unfold goes
    rw [if_pos hm]
    cases h : more (round u) with
    | false =>
      refine ⟨u, hu, ?_, h⟩
      cases k with
      | zero => rfl
      | succ k => unfold goes; rw [if_neg (by simp [h])]
    | true => exact ih (round u) (hI u hu) (by have := hμ u hu h; omega) h
end Go.Proofs.YtaooejidkeojjaaDoor.H
namespace Go.Proofs.YtaooejidkeojjaaDoor.H
set_option linter.unusedVariables false
set_option linter.unusedSimpArgs false
def bodyAt (g : Gr) (p : Nat) : List Int := (g.ps.getD p ⟨0, [], false⟩).body
def headAt (g : Gr) (p : Nat) : Int := (g.ps.getD p ⟨0, [], false⟩).head
theorem bodyAt_get {g : Gr} {p : Nat} (h : p < g.ps.length) : bodyAt g p = g.ps[p].body := by simp [bodyAt, h]
theorem headAt_get {g : Gr} {p : Nat} (h : p < g.ps.length) : headAt g p = g.ps[p].head := by simp [headAt, h]
end Go.Proofs.YtaooejidkeojjaaDoor.H
namespace Go.Proofs.YtaooejidkeojjaaDoor.H
open Go.RowKit
set_option linter.unusedVariables false
set_option linter.unusedSimpArgs false
def gn (xs : List Nat) (i : Int) : Nat := xs.getD i.toNat 0
structure Fi where
  m : List Nat
  more : Bool
def firstX (u : List Nat) (p : Pr) : Nat := gn u p.head ||| gn u (p.body.getD 0 0)
def firstIn (u : Fi) (p : Pr) : Fi := if firstX u.m p = gn u.m p.head then u else ⟨u.m.set p.head.toNat (firstX u.m p), true⟩
def firstRound (ps : List Pr) (u : Fi) : Fi := ps.foldl firstIn ⟨u.m, false⟩
def firstLoop (ps : List Pr) : Nat → Fi → Fi
  | 0, u => u
  | k + 1, u => if u.more then firstLoop ps k (firstRound ps u) else u
def first0 (g : Gr) : List Nat := (List.range g.T.toNat).map (fun s => 2 ^ s) ++ List.replicate (g.S.toNat - g.T.toNat) 0
def lack (xs : List Nat) : Nat := (xs.map fun x => ((List.range 64).filter fun i => !x.testBit i).length).sum
def firstEnd (g : Gr) : List Nat := (firstLoop g.ps (64 * g.S.toNat + 1) ⟨first0 g, true⟩).m
theorem lack_one_le (x : Nat) : ((List.range 64).filter fun i => !x.testBit i).length ≤ 64 := Nat.le_trans (List.length_filter_le _ _) (by simp)
theorem lack_le (xs : List Nat) : lack xs ≤ 64 * xs.length := by
  induction xs with
  | nil => simp [lack]
  | cons x xs ih =>
    have := lack_one_le x
    simp only [lack, List.map_cons, List.sum_cons, List.length_cons] at ih ⊢
    omega
theorem filter_lt_of {α : Type} (p q : α → Bool) (l : List α) (h : ∀ a ∈ l, p a = true → q a = true) (a : α) (ha : a ∈ l) (hq : q a = true) (hp : p a = false) : (l.filter p).length < (l.filter q).length := by
  induction l with
  | nil => cases ha
  | cons b l ih =>
    have hle : (l.filter p).length ≤ (l.filter q).length := by
      rw [← List.countP_eq_length_filter, ← List.countP_eq_length_filter]
      exact List.countP_mono_left (fun x hx hp => h x (by simp [hx]) hp)
    rcases List.mem_cons.1 ha with rfl | ha'
    · rw [List.filter_cons, List.filter_cons, hp, hq]
      simp; omega
    · have ih' := ih (fun x hx => h x (by simp [hx])) ha'
      rw [List.filter_cons, List.filter_cons]
      by_cases hb : p b = true
      · have := h b (by simp) hb
        simp [hb, this]; omega
      · have e : (if p b = true then b :: List.filter p l else List.filter p l) = List.filter p l := if_neg hb
        rw [e]
        by_cases hq2 : q b = true
        · rw [if_pos hq2, List.length_cons]; omega
        · rw [if_neg hq2]; exact ih'
theorem lack_or (x y : Nat) (hy : y < 2 ^ 64) (h : x ||| y ≠ x) : ((List.range 64).filter fun i => !(x ||| y).testBit i).length < ((List.range 64).filter fun i => !x.testBit i).length := by
  have hex : ∃ i, (x ||| y).testBit i ≠ x.testBit i := by
    apply Classical.byContradiction
    intro hc
    exact h (Nat.eq_of_testBit_eq fun i => Classical.byContradiction fun hi => hc ⟨i, hi⟩)
  obtain ⟨i, hi⟩ := hex
  rw [Nat.testBit_or] at hi
  have hx : x.testBit i = false := by cases hxi : x.testBit i <;> simp [hxi] at hi ⊢
  have hyi : y.testBit i = true := by cases hyi : y.testBit i <;> simp [hx, hyi] at hi ⊢
  have hi64 : i < 64 := by
    apply Classical.byContradiction
    intro hc
    have := Nat.testBit_lt_two_pow (x := y) (i := i) (Nat.lt_of_lt_of_le hy (Nat.pow_le_pow_right (by decide) (by omega)))
    rw [this] at hyi; cases hyi
  refine filter_lt_of _ _ _ (fun a _ ha => ?_) i (List.mem_range.2 hi64) (by simp [hx]) (by simp [hyi])
  rw [Nat.testBit_or] at ha
  simp at ha ⊢
  exact ha.1
theorem lack_set (xs : List Nat) (i x : Nat) (hi : i < xs.length) (h : ((List.range 64).filter fun i => !x.testBit i).length < ((List.range 64).filter fun j => !(xs.getD i 0).testBit j).length) : lack (xs.set i x) < lack xs := by
  induction xs generalizing i with
  | nil => simp at hi
  | cons a xs ih =>
    cases i with
    | zero =>
      simp only [lack, List.set_cons_zero, List.map_cons, List.sum_cons]
      simp at h
      omega
    | succ i =>
      have := ih i (by simpa using hi) (by simpa using h)
      simp only [lack, List.set_cons_succ, List.map_cons, List.sum_cons] at this ⊢
      omega
structure FiLe (n : Nat) (u v : Fi) : Prop where
  c : v.m.length = n
  b : ∀ x ∈ v.m, x < 2 ^ 64
  le : lack v.m ≤ lack u.m
  new : v.more = true → u.more = true ∨ lack v.m < lack u.m
theorem FiLe.trans {n : Nat} {a b c : Fi} (h : FiLe n a b) (k : FiLe n b c) : FiLe n a c := by
  refine ⟨k.c, k.b, Nat.le_trans k.le h.le, fun hm => ?_⟩
  rcases k.new hm with h1 | h1
  · rcases h.new h1 with h2 | h2
    · exact .inl h2
    · exact .inr (Nat.lt_of_le_of_lt k.le h2)
  · exact .inr (Nat.lt_of_lt_of_le h1 h.le)
theorem gn_lt {xs : List Nat} (h : ∀ x ∈ xs, x < 2 ^ 64) (i : Int) : gn xs i < 2 ^ 64 := by
  unfold gn
  rw [List.getD_eq_getElem?_getD]
  cases hx : xs[i.toNat]? with
  | none => simp
  | some x => exact h x (List.mem_of_getElem? hx)
theorem set_lt {xs : List Nat} (h : ∀ x ∈ xs, x < 2 ^ 64) (i y : Nat) (hy : y < 2 ^ 64) : ∀ x ∈ xs.set i y, x < 2 ^ 64 := by
  intro x hx
  rcases List.mem_or_eq_of_mem_set hx with h1 | h1
  · exact h x h1
  · omega
theorem firstX_lt {u : List Nat} {p : Pr} (h : ∀ x ∈ u, x < 2 ^ 64) : firstX u p < 2 ^ 64 := Nat.or_lt_two_pow (gn_lt h _) (gn_lt h _)
theorem firstIn_le {n : Nat} {p : Pr} {u : Fi} (hc : u.m.length = n) (hb : ∀ x ∈ u.m, x < 2 ^ 64) (hp : p.head.toNat < n) : FiLe n u (firstIn u p) := by
  unfold firstIn
  split
  · exact ⟨hc, hb, Nat.le_refl _, fun h => .inl h⟩
  · rename_i ht
    have h1 := lack_or (gn u.m p.head) (gn u.m (p.body.getD 0 0)) (gn_lt hb _) ht
    have h2 := lack_set u.m p.head.toNat (firstX u.m p) (by omega) h1
    exact ⟨by simp [hc], set_lt hb _ _ (firstX_lt hb), Nat.le_of_lt h2, fun _ => .inr h2⟩
theorem firstAll_le {n : Nat} (l : List Pr) : ∀ {u : Fi}, u.m.length = n → (∀ x ∈ u.m, x < 2 ^ 64) → (∀ p ∈ l, p.head.toNat < n) → FiLe n u (l.foldl firstIn u) := by
  induction l with
  | nil => intro u hc hb _; exact ⟨hc, hb, Nat.le_refl _, fun h => .inl h⟩
  | cons p l ih =>
    intro u hc hb hs
    have h1 := firstIn_le hc hb (hs p (by simp))
    exact h1.trans (ih h1.c h1.b (fun s hs' => hs s (by simp [hs'])))
theorem firstRound_le {n : Nat} {ps : List Pr} {u : Fi} (hc : u.m.length = n) (hb : ∀ x ∈ u.m, x < 2 ^ 64) (hp : ∀ p ∈ ps, p.head.toNat < n) :
    (firstRound ps u).m.length = n ∧ (∀ x ∈ (firstRound ps u).m, x < 2 ^ 64) ∧ ((firstRound ps u).more = true → lack (firstRound ps u).m < lack u.m) := by
  have h := firstAll_le (n := n) ps (u := ⟨u.m, false⟩) hc hb hp
  refine ⟨h.c, h.b, fun hm => ?_⟩
  rcases h.new hm with h1 | h1
  · cases h1
  · exact h1
theorem firstLoop_done (ps : List Pr) (k : Nat) (u : Fi) (h : u.more = false) : firstLoop ps k u = u := by
  cases k with
  | zero => rfl
  | succ k => simp [firstLoop, h]
theorem firstLoop_go (ps : List Pr) (k : Nat) (u : Fi) (h : u.more = true) : firstLoop ps (k + 1) u = firstLoop ps k (firstRound ps u) := by simp [firstLoop, h]
theorem u64s_gn (xs : List Nat) (i : Nat) (h : i < xs.length) : (u64s xs)[i]? = some (.int .u64 ((gn xs (i : Int) : Nat) : Int)) := u64s_at xs i h
end Go.Proofs.YtaooejidkeojjaaDoor.H
namespace Go.Proofs.YtaooejidkeojjaaDoor.H
set_option linter.unusedVariables false
set_option linter.unusedSimpArgs false
theorem first0_lt (t r : Nat) (h : t ≤ 32) : ∀ x ∈ (List.range t).map (fun s => 2 ^ s) ++ List.replicate r 0, x < 2 ^ 64 := by
  intro x hx
  rcases List.mem_append.1 hx with hx | hx
  · obtain ⟨s, hs, rfl⟩ := List.mem_map.1 hx
    have := List.mem_range.1 hs
    exact Nat.pow_lt_pow_right (by decide) (by omega)
  · have := (List.mem_replicate.1 hx).2
    omega
theorem firstLoop_goes (ps : List Pr) (k : Nat) : ∀ u, firstLoop ps k u = goes Fi.more (firstRound ps) k u := by
  induction k with
  | zero => intro u; rfl
  | succ k ih => intro u; simp only [firstLoop, goes]; split <;> simp [ih]
theorem gn_set {m : List Nat} {i : Int} {x : Nat} (hi : 0 ≤ i) (h : i.toNat < m.length) (s : Int) (hs : 0 ≤ s) : gn (m.set i.toNat x) s = if s = i then x else gn m s := by
  unfold gn
  rw [List.getD_eq_getElem?_getD, List.getD_eq_getElem?_getD, List.getElem?_set]
  by_cases e : s = i
  · subst e; simp [h]
  · have : ¬ i.toNat = s.toNat := by omega
    simp [this, e]
inductive Beg (T : Nat) (ps : List Pr) : Int → Nat → Prop where
  | term {t : Nat} (h : t < T) : Beg T ps t t
  | head {p : Pr} {t : Nat} {y : Int} (hp : p ∈ ps) (hy : p.body[0]? = some y) (h : Beg T ps y t) : Beg T ps p.head t
theorem Beg.lt {T : Nat} {ps : List Pr} {s : Int} {t : Nat} (hb : Beg T ps s t) : t < T := by
  induction hb with
  | term h => exact h
  | head _ _ _ ih => exact ih
theorem firstX_some {m : List Nat} {p : Pr} {y : Int} (hy : p.body[0]? = some y) : firstX m p = (gn m p.head ||| gn m y) := by
  unfold firstX
  rw [List.getD_eq_getElem?_getD, hy]; rfl
theorem firstAll_still (l : List Pr) : ∀ u : Fi, (l.foldl firstIn u).more = false → u.more = false ∧ (l.foldl firstIn u).m = u.m ∧ ∀ p ∈ l, firstX u.m p = gn u.m p.head := by
  induction l with
  | nil => intro u h; exact ⟨h, rfl, by simp⟩
  | cons p l ih =>
    intro u h
    obtain ⟨h1, h2, h3⟩ := ih (firstIn u p) h
    have e : firstX u.m p = gn u.m p.head := by
      apply Classical.byContradiction
      intro hc
      unfold firstIn at h1
      rw [if_neg hc] at h1
      cases h1
    have e2 : firstIn u p = u := by unfold firstIn; rw [if_pos e]
    rw [e2] at h1 h2 h3
    refine ⟨h1, by rw [List.foldl_cons, e2]; exact h2, fun q hq => ?_⟩
    rcases List.mem_cons.1 hq with rfl | hq
    · exact e
    · exact h3 q hq
structure FirstI (T n : Nat) (ps : List Pr) (u : Fi) : Prop where
  l : u.m.length = n
  b : ∀ x ∈ u.m, x < 2 ^ 64
  t : ∀ t : Nat, t < T → (gn u.m t).testBit t = true
  s : ∀ s : Int, 0 ≤ s → s.toNat < n → ∀ t, (gn u.m s).testBit t = true → Beg T ps s t
theorem firstIn_I {T n : Nat} {ps : List Pr} {u : Fi} {p : Pr} (hp : p ∈ ps) (hin : PrIn n p) (hne : 0 < p.body.length) (h : FirstI T n ps u) : FirstI T n ps (firstIn u p) := by
  have hle := firstIn_le (p := p) h.l h.b hin.2.1
  obtain ⟨y, hy⟩ : ∃ y, p.body[0]? = some y := ⟨_, List.getElem?_eq_getElem hne⟩
  have hym : y ∈ p.body := List.mem_of_getElem? hy
  have hyn := hin.2.2 y hym
  by_cases e : firstX u.m p = gn u.m p.head
  · have e2 : firstIn u p = u := by unfold firstIn; rw [if_pos e]
    rw [e2]; exact h
  · have e2 : firstIn u p = ⟨u.m.set p.head.toNat (firstX u.m p), true⟩ := by unfold firstIn; rw [if_neg e]
    refine ⟨hle.c, hle.b, fun t ht => ?_, fun s hs hsn t ht => ?_⟩
    · rw [e2]
      dsimp only
      rw [gn_set hin.1 (by rw [h.l]; exact hin.2.1) _ (by omega)]
      split
      · rename_i e3
        rw [firstX_some hy, Nat.testBit_or, ← e3, h.t t ht, Bool.true_or]
      · exact h.t t ht
    · rw [e2] at ht
      dsimp only at ht
      rw [gn_set hin.1 (by rw [h.l]; exact hin.2.1) _ hs] at ht
      split at ht
      · rename_i e3
        rw [firstX_some hy, Nat.testBit_or, Bool.or_eq_true] at ht
        rcases ht with h1 | h1
        · rw [e3]; exact h.s p.head hin.1 hin.2.1 t h1
        · rw [e3]; exact .head hp hy (h.s y hyn.1 hyn.2 t h1)
      · exact h.s s hs hsn t ht
theorem firstAll_I {T n : Nat} {ps : List Pr} (l : List Pr) (hl : ∀ p ∈ l, p ∈ ps) (hin : ∀ p ∈ ps, PrIn n p) (hne : ∀ p ∈ ps, 0 < p.body.length) : ∀ u : Fi, FirstI T n ps u → FirstI T n ps (l.foldl firstIn u) := by
  induction l with
  | nil => intro u h; exact h
  | cons p l ih =>
    intro u h
    exact ih (fun q hq => hl q (by simp [hq])) _ (firstIn_I (hl p (by simp)) (hin p (hl p (by simp))) (hne p (hl p (by simp))) h)
theorem gn_first0 {T n : Nat} (s : Int) (hs : 0 ≤ s) : gn ((List.range T).map (fun s => 2 ^ s) ++ List.replicate (n - T) 0) s = if s.toNat < T then 2 ^ s.toNat else 0 := by
  unfold gn
  rw [List.getD_eq_getElem?_getD]
  by_cases h : s.toNat < T
  · rw [List.getElem?_append_left (by simpa using h)]
    simp [h]
  · rw [List.getElem?_append_right (by simpa using h)]
    simp only [List.length_map, List.length_range, h, if_false, List.getElem?_replicate]
    split <;> rfl
structure GrFit (g : Gr) : Prop where
  ok : GrOk g
  ne : ∀ p ∈ g.ps, 0 < p.body.length
theorem GrFit.pin {g : Gr} (h : GrFit g) : ∀ p ∈ g.ps, PrIn g.S.toNat p := by
  intro p hp
  have h1 := h.ok.pr p hp
  have h2 := h.ok.t0
  have h3 := h.ok.s0
  exact ⟨by omega, by omega, fun s hs => by have := h1.2.2 s hs; omega⟩
theorem first_spec {g : Gr} (h : GrFit g) : (firstEnd g).length = g.S.toNat ∧ (∀ x ∈ firstEnd g, x < 2 ^ 64) ∧
    ∀ s : Int, 0 ≤ s → s < g.S → ∀ t, (gn (firstEnd g) s).testBit t = true ↔ Beg g.T.toNat g.ps s t := by
  have hT := h.ok.t1
  have hS := h.ok.s0
  have hT0 := h.ok.t0
  have hpin := h.pin
  have I0 : FirstI g.T.toNat g.S.toNat g.ps ⟨first0 g, true⟩ := by
    refine ⟨by simp [first0]; omega, first0_lt _ _ (by omega), fun t ht => ?_, fun s hs hsn t ht => ?_⟩
    · unfold first0
      dsimp only
      rw [gn_first0 _ (by omega), if_pos (by simpa using ht)]
      simp [Nat.testBit_two_pow]
    · unfold first0 at ht
      dsimp only at ht
      rw [gn_first0 _ hs] at ht
      split at ht
      · rename_i h1
        rw [Nat.testBit_two_pow] at ht
        simp at ht
        subst ht
        have := Beg.term (ps := g.ps) h1
        rwa [Int.toNat_of_nonneg hs] at this
      · simp at ht
  have hround : ∀ u, FirstI g.T.toNat g.S.toNat g.ps u → FirstI g.T.toNat g.S.toNat g.ps (firstRound g.ps u) :=
    fun u hu => firstAll_I g.ps (fun _ h => h) hpin h.ne _ ⟨hu.l, hu.b, hu.t, hu.s⟩
  obtain ⟨v, hv, e, hm⟩ := goes_end Fi.more (firstRound g.ps) (fun u => lack u.m) (FirstI g.T.toNat g.S.toNat g.ps) hround
    (fun u hu hm => (firstRound_le (n := g.S.toNat) hu.l hu.b (fun p hp => (hpin p hp).2.1)).2.2 hm) (64 * g.S.toNat + 1) ⟨first0 g, true⟩ I0
    (by have := lack_le (first0 g); have h1 := I0.l; dsimp only at h1 ⊢; rw [h1] at this; omega) rfl
  have hend : firstEnd g = (firstRound g.ps v).m := by unfold firstEnd; rw [firstLoop_goes, e]
  obtain ⟨_, h2, h3⟩ := firstAll_still g.ps ⟨v.m, false⟩ hm
  have hfin := hround v hv
  have hsame : firstEnd g = v.m := by rw [hend]; exact h2
  refine ⟨by rw [hend]; exact hfin.l, by rw [hend]; exact hfin.b, fun s hs hsS t => ⟨fun ht => ?_, fun ht => ?_⟩⟩
  · rw [hend] at ht
    exact hfin.s s hs (by omega) t ht
  · rw [hsame]
    have : ∀ s t, Beg g.T.toNat g.ps s t → (gn v.m s).testBit t = true := by
      intro s t hb
      induction hb with
      | term h => exact hv.t _ h
      | head hp hy _ ih =>
        have := h3 _ hp
        rw [firstX_some hy] at this
        dsimp only at this
        rw [← this, Nat.testBit_or, ih, Bool.or_true]
    exact this s t ht
end Go.Proofs.YtaooejidkeojjaaDoor.H
namespace Go.Proofs.YtaooejidkeojjaaDoor.H
set_option linter.unusedVariables false
set_option linter.unusedSimpArgs false
def bodyX (g : Gr) (p : Nat) : List Int := if p = g.ps.length then [g.st] else bodyAt g p
def offS (g : Gr) : Nat → Nat
  | 0 => 0
  | p + 1 => offS g p + (bodyX g p).length + 1
def nSp (g : Gr) : Nat := offS g (g.ps.length + 1)
def spotsTo (g : Gr) : Nat → List (Nat × Nat)
  | 0 => []
  | p + 1 => spotsTo g p ++ (List.range ((bodyX g p).length + 1)).map fun d => (p, d)
def spots (g : Gr) : List (Nat × Nat) := spotsTo g (g.ps.length + 1)
theorem spotsTo_len (g : Gr) : ∀ p, (spotsTo g p).length = offS g p := by
  intro p
  induction p with
  | zero => rfl
  | succ p ih => simp only [spotsTo, offS, List.length_append, ih, List.length_map, List.length_range]; omega
theorem spots_len (g : Gr) : (spots g).length = nSp g := spotsTo_len g _
theorem offS_mono {g : Gr} {p q : Nat} (h : p ≤ q) : offS g p ≤ offS g q := by
  obtain ⟨k, rfl⟩ := Nat.le.dest h
  clear h
  induction k with
  | zero => exact Nat.le_refl _
  | succ k ih => exact Nat.le_trans ih (by show offS g (p + k) ≤ offS g (p + k) + _ + 1; omega)
theorem offS_lt {g : Gr} {p q : Nat} (h : p < q) : offS g p + (bodyX g p).length + 1 ≤ offS g q := offS_mono (g := g) (p := p + 1) h
theorem spotsTo_at {g : Gr} {p d : Nat} (hd : d ≤ (bodyX g p).length) : ∀ q, p < q → (spotsTo g q)[offS g p + d]? = some (p, d) := by
  intro q hq
  induction q with
  | zero => omega
  | succ q ih =>
    unfold spotsTo
    by_cases e : p = q
    · subst e
      rw [List.getElem?_append_right (by rw [spotsTo_len]; omega), spotsTo_len, Nat.add_sub_cancel_left, List.getElem?_map, List.getElem?_range (by omega)]
      rfl
    · have := offS_lt (g := g) (show p < q by omega)
      rw [List.getElem?_append_left (by rw [spotsTo_len]; omega)]
      exact ih (by omega)
theorem spots_at {g : Gr} {p d : Nat} (hp : p ≤ g.ps.length) (hd : d ≤ (bodyX g p).length) : (spots g)[offS g p + d]? = some (p, d) := spotsTo_at hd _ (by omega)
theorem off_lt {g : Gr} {p d : Nat} (hp : p ≤ g.ps.length) (hd : d ≤ (bodyX g p).length) : offS g p + d < nSp g := by
  have := offS_lt (g := g) (show p < g.ps.length + 1 by omega)
  unfold nSp; omega
theorem spots_of {g : Gr} {n : Nat} (hn : n < nSp g) : ∃ p d, p ≤ g.ps.length ∧ d ≤ (bodyX g p).length ∧ n = offS g p + d := by
  have key : ∀ q, n < offS g q → ∃ p d, p < q ∧ d ≤ (bodyX g p).length ∧ n = offS g p + d := by
    intro q
    induction q with
    | zero => intro h; exact absurd h (Nat.not_lt_zero _)
    | succ q ih =>
      intro h
      by_cases hq : n < offS g q
      · obtain ⟨p, d, h1, h2, h3⟩ := ih hq
        exact ⟨p, d, by omega, h2, h3⟩
      · have h' : n < offS g q + (bodyX g q).length + 1 := h
        exact ⟨q, n - offS g q, by omega, by omega, by omega⟩
  obtain ⟨p, d, h1, h2, h3⟩ := key _ hn
  exact ⟨p, d, by omega, h2, h3⟩
theorem off_inj {g : Gr} {p d q e : Nat} (hd : d ≤ (bodyX g p).length) (he : e ≤ (bodyX g q).length) (h : offS g p + d = offS g q + e) : p = q ∧ d = e := by
  rcases Nat.lt_trichotomy p q with k | k | k
  · have := offS_lt (g := g) k; omega
  · subst k; exact ⟨rfl, by omega⟩
  · have := offS_lt (g := g) k; omega
def nextS (g : Gr) (n : Nat) : Int :=
  match (spots g)[n]? with
  | some (p, d) => if d < (bodyX g p).length then (bodyX g p).getD d 0 else -1
  | none => -1
theorem nextS_at {g : Gr} {p d : Nat} (hp : p ≤ g.ps.length) (hd : d < (bodyX g p).length) : nextS g (offS g p + d) = (bodyX g p).getD d 0 := by
  unfold nextS
  rw [spots_at hp (by omega)]
  exact if_pos hd
theorem nextS_end {g : Gr} {p : Nat} (hp : p ≤ g.ps.length) : nextS g (offS g p + (bodyX g p).length) = -1 := by
  unfold nextS
  rw [spots_at hp (Nat.le_refl _)]
  exact if_neg (Nat.lt_irrefl _)
theorem nextS_start {g : Gr} {p : Nat} (hp : p ≤ g.ps.length) (h : 0 < (bodyX g p).length) : nextS g (offS g p) = (bodyX g p).getD 0 0 := nextS_at (d := 0) hp h
theorem nextS_cases {g : Gr} {n : Nat} (hn : n < nSp g) : (∃ p, p ≤ g.ps.length ∧ n = offS g p + (bodyX g p).length ∧ nextS g n = -1) ∨ (∃ p d, p ≤ g.ps.length ∧ d < (bodyX g p).length ∧ n = offS g p + d ∧ nextS g n = (bodyX g p).getD d 0) := by
  obtain ⟨p, d, hp, hd, rfl⟩ := spots_of hn
  by_cases h : d < (bodyX g p).length
  · exact .inr ⟨p, d, hp, h, rfl, nextS_at hp h⟩
  · obtain rfl : d = (bodyX g p).length := by omega
    exact .inl ⟨p, hp, rfl, nextS_end hp⟩
theorem bodyX_in {g : Gr} (ok : GrOk g) {p d : Nat} (hp : p ≤ g.ps.length) (hd : d < (bodyX g p).length) : 0 ≤ (bodyX g p).getD d 0 ∧ (bodyX g p).getD d 0 < g.S := by
  unfold bodyX at *
  split
  · rename_i e
    rw [if_pos e] at hd
    have : d = 0 := by simpa using hd
    subst this
    have h1 := ok.st0
    have h2 := ok.st1
    have h3 := ok.t0
    exact ⟨by show 0 ≤ g.st; omega, h2⟩
  · rename_i e
    rw [if_neg e] at hd
    have hp' : p < g.ps.length := by omega
    rw [bodyAt_get hp'] at *
    have := (ok.pr _ (List.getElem_mem hp')).2.2 _ (List.getElem_mem hd)
    rw [List.getD_eq_getElem?_getD, List.getElem?_eq_getElem hd]
    exact this
theorem nextS_lt {g : Gr} (ok : GrOk g) (n : Nat) : -1 ≤ nextS g n ∧ nextS g n < g.S := by
  have h3 := ok.t0
  have h4 := ok.s0
  by_cases hn : n < nSp g
  · rcases nextS_cases hn with ⟨p, hp, _, e⟩ | ⟨p, d, hp, hd, _, e⟩
    · rw [e]; omega
    · rw [e]; have := bodyX_in ok hp hd; omega
  · unfold nextS
    rw [List.getElem?_eq_none (by rw [spots_len]; omega)]
    show -1 ≤ (-1 : Int) ∧ (-1 : Int) < g.S
    omega
structure Cs where
  out : List Nat
  todo : List Nat
def clIn (g : Gr) (sym : Int) (t : Nat) (u : Cs) (p : Nat) : Cs :=
  if headAt g p = sym ∧ u.out.getD (offS g p) 0 ||| t ≠ u.out.getD (offS g p) 0 then ⟨u.out.set (offS g p) (u.out.getD (offS g p) 0 ||| t), u.todo ++ [offS g p]⟩ else u
def clThen (g : Gr) (F out : List Nat) (n : Nat) : Nat := if 0 ≤ nextS g (n + 1) then gn F (nextS g (n + 1)) else out.getD n 0
theorem clThen_congr {g : Gr} {F out out' : List Nat} {n : Nat} (e : out.getD n 0 = out'.getD n 0) : clThen g F out n = clThen g F out' n := by unfold clThen; rw [e]
def clStep (g : Gr) (F : List Nat) (u : Cs) : Cs :=
  match u.todo with
  | [] => u
  | n :: rest => if nextS g n < g.T then ⟨u.out, rest⟩ else (List.range g.ps.length).foldl (clIn g (nextS g n) (clThen g F u.out n)) ⟨u.out, rest⟩
def clMu (u : Cs) : Nat := 2 * lack u.out + u.todo.length
def clRun (g : Gr) (F : List Nat) : Nat → Cs → Cs
  | 0, u => u
  | k + 1, u => if u.todo = [] then u else clRun g F k (clStep g F u)
def clEnd (g : Gr) (F : List Nat) (u : Cs) : List Nat := (clRun g F (clMu u) u).out
def clOut0 (g : Gr) (core mask : List Nat) (k : Nat) : List Nat := (List.range k).foldl (fun o i => o.set (core.getD i 0) (mask.getD i 0)) (List.replicate (nSp g) 0)
def closeM (g : Gr) (F core mask : List Nat) : List Nat := clEnd g F ⟨clOut0 g core mask core.length, core⟩
structure CsOk (g : Gr) (u : Cs) : Prop where
  l : u.out.length = nSp g
  b : ∀ x ∈ u.out, x < 2 ^ 64
  t : ∀ n ∈ u.todo, n < nSp g
theorem getD_lt {xs : List Nat} (h : ∀ x ∈ xs, x < 2 ^ 64) (i : Nat) : xs.getD i 0 < 2 ^ 64 := by
  rw [List.getD_eq_getElem?_getD]
  cases hx : xs[i]? with
  | none => exact Nat.two_pow_pos 64
  | some x => exact h x (List.mem_of_getElem? hx)
theorem getD_set {xs : List Nat} {i : Nat} (hi : i < xs.length) (v j : Nat) : (xs.set i v).getD j 0 = if j = i then v else xs.getD j 0 := by
  rw [List.getD_eq_getElem?_getD, List.getElem?_set, List.getD_eq_getElem?_getD]
  by_cases e : i = j
  · subst e; simp [hi]
  · rw [if_neg e, if_neg (fun h => e h.symm)]
theorem off_head {g : Gr} {p : Nat} (hp : p < g.ps.length) : offS g p < nSp g := off_lt (d := 0) (by omega) (Nat.zero_le _)
theorem clIn_ok {g : Gr} {sym : Int} {t p : Nat} {u : Cs} (ht : t < 2 ^ 64) (hp : p < g.ps.length) (k : CsOk g u) : CsOk g (clIn g sym t u p) ∧ clMu (clIn g sym t u p) ≤ clMu u := by
  unfold clIn
  split
  · rename_i hc
    have hl : offS g p < u.out.length := by rw [k.l]; exact off_head hp
    have hb := getD_lt k.b (offS g p)
    refine ⟨⟨by simp [k.l], set_lt k.b _ _ (Nat.or_lt_two_pow hb ht), fun n hn => ?_⟩, ?_⟩
    · rcases List.mem_append.1 hn with h | h
      · exact k.t n h
      · rw [List.mem_singleton.1 h]; exact off_head hp
    · have h1 := lack_or (u.out.getD (offS g p) 0) t ht hc.2
      have h2 := lack_set u.out (offS g p) (u.out.getD (offS g p) 0 ||| t) hl h1
      unfold clMu
      simp only [List.length_append, List.length_cons, List.length_nil]
      omega
  · exact ⟨k, Nat.le_refl _⟩
theorem clAll_ok {g : Gr} {sym : Int} {t : Nat} (ht : t < 2 ^ 64) : ∀ (l : List Nat), (∀ p ∈ l, p < g.ps.length) → ∀ u : Cs, CsOk g u → CsOk g (l.foldl (clIn g sym t) u) ∧ clMu (l.foldl (clIn g sym t) u) ≤ clMu u := by
  intro l
  induction l with
  | nil => intro _ u k; exact ⟨k, Nat.le_refl _⟩
  | cons p l ih =>
    intro hl u k
    rw [List.foldl_cons]
    obtain ⟨k1, m1⟩ := clIn_ok (sym := sym) ht (hl p List.mem_cons_self) k
    obtain ⟨k2, m2⟩ := ih (fun x hx => hl x (List.mem_cons_of_mem _ hx)) _ k1
    exact ⟨k2, Nat.le_trans m2 m1⟩
theorem clThen_lt {g : Gr} {F out : List Nat} (hF : ∀ x ∈ F, x < 2 ^ 64) (ho : ∀ x ∈ out, x < 2 ^ 64) (n : Nat) : clThen g F out n < 2 ^ 64 := by
  unfold clThen
  split
  · exact gn_lt hF _
  · exact getD_lt ho _
theorem clStep_ok {g : Gr} {F : List Nat} (hF : ∀ x ∈ F, x < 2 ^ 64) {u : Cs} (k : CsOk g u) (hne : u.todo ≠ []) : CsOk g (clStep g F u) ∧ clMu (clStep g F u) < clMu u := by
  obtain ⟨out, todo⟩ := u
  cases todo with
  | nil => exact absurd rfl hne
  | cons n rest =>
    have kr : CsOk g ⟨out, rest⟩ := ⟨k.l, k.b, fun x hx => k.t x (List.mem_cons_of_mem _ hx)⟩
    have mr : clMu ⟨out, rest⟩ < clMu ⟨out, n :: rest⟩ := by unfold clMu; simp
    unfold clStep
    dsimp only
    split
    · exact ⟨kr, mr⟩
    · obtain ⟨k2, m2⟩ := clAll_ok (sym := nextS g n) (clThen_lt (g := g) hF k.b n) (List.range g.ps.length) (fun p hp => List.mem_range.1 hp) _ kr
      exact ⟨k2, Nat.lt_of_le_of_lt m2 mr⟩
theorem clRun_more {g : Gr} {F : List Nat} (hF : ∀ x ∈ F, x < 2 ^ 64) : ∀ (m : Nat) (u : Cs), clMu u ≤ m → CsOk g u → ∀ k, clMu u ≤ k → clRun g F k u = clRun g F (clMu u) u := by
  intro m
  induction m with
  | zero =>
    intro u hm k0 k hk
    have : u.todo = [] := by unfold clMu at hm; exact List.length_eq_zero_iff.1 (by omega)
    have any : ∀ k, clRun g F k u = u := by intro k; cases k with | zero => rfl | succ k => exact if_pos this
    rw [any, any]
  | succ m ih =>
    intro u hm k0 k hk
    by_cases e : u.todo = []
    · have any : ∀ k, clRun g F k u = u := by intro k; cases k with | zero => rfl | succ k => exact if_pos e
      rw [any, any]
    · obtain ⟨k1, m1⟩ := clStep_ok hF k0 e
      obtain ⟨j, hj⟩ : ∃ j, k = j + 1 := ⟨k - 1, by omega⟩
      obtain ⟨i, hi⟩ : ∃ i, clMu u = i + 1 := ⟨clMu u - 1, by omega⟩
      rw [hi, hj]
      unfold clRun
      rw [if_neg e, if_neg e, ih _ (by omega) k1 j (by omega), ih _ (by omega) k1 i (by omega)]
theorem clEnd_step {g : Gr} {F : List Nat} (hF : ∀ x ∈ F, x < 2 ^ 64) {u : Cs} (k : CsOk g u) (hne : u.todo ≠ []) : clEnd g F u = clEnd g F (clStep g F u) := by
  obtain ⟨k1, m1⟩ := clStep_ok hF k hne
  obtain ⟨i, hi⟩ : ∃ i, clMu u = i + 1 := ⟨clMu u - 1, by omega⟩
  unfold clEnd
  have : clRun g F (clMu u) u = clRun g F i (clStep g F u) := by rw [hi]; exact if_neg hne
  rw [this, clRun_more hF _ _ (Nat.le_refl _) k1 i (by omega)]
theorem clEnd_done {g : Gr} {F : List Nat} {u : Cs} (h : u.todo = []) : clEnd g F u = u.out := by
  unfold clEnd
  have any : ∀ k, clRun g F k u = u := by intro k; cases k with | zero => rfl | succ k => exact if_pos h
  rw [any]
inductive Cl (g : Gr) (F : List Nat) (B : Nat → Nat → Prop) : Nat → Nat → Prop where
  | base {n a : Nat} : B n a → Cl g F B n a
  | step {n a p b : Nat} : Cl g F B n a → p < g.ps.length → headAt g p = nextS g n → (if 0 ≤ nextS g (n + 1) then (gn F (nextS g (n + 1))).testBit b = true else b = a) → Cl g F B (offS g p) b
def ClD (g : Gr) (F out : List Nat) (n : Nat) : Prop := nextS g n < g.T ∨ ∀ p, p < g.ps.length → headAt g p = nextS g n → ∀ b, (clThen g F out n).testBit b = true → (out.getD (offS g p) 0).testBit b = true
structure ClI (g : Gr) (F : List Nat) (B : Nat → Nat → Prop) (u : Cs) : Prop where
  ok : CsOk g u
  snd : ∀ n a, (u.out.getD n 0).testBit a = true → Cl g F B n a
  bas : ∀ n a, B n a → (u.out.getD n 0).testBit a = true
  don : ∀ n a, (u.out.getD n 0).testBit a = true → n ∈ u.todo ∨ ClD g F u.out n
  nz : ∀ n ∈ u.todo, u.out.getD n 0 ≠ 0
theorem bit_of_ne {x : Nat} (h : x ≠ 0) : ∃ a, x.testBit a = true := by
  apply Classical.byContradiction
  intro hn
  refine h (Nat.eq_of_testBit_eq fun i => ?_)
  rw [Nat.zero_testBit]
  cases hb : x.testBit i with
  | false => rfl
  | true => exact absurd ⟨i, hb⟩ hn
theorem ne_of_bit {x a : Nat} (h : x.testBit a = true) : x ≠ 0 := by
  rintro rfl
  rw [Nat.zero_testBit] at h
  cases h
theorem clIn_nz {g : Gr} {sym : Int} {t p : Nat} {u : Cs} (hl : u.out.length = nSp g) (hp : p < g.ps.length) (h : ∀ n ∈ u.todo, u.out.getD n 0 ≠ 0) : ∀ n ∈ (clIn g sym t u p).todo, (clIn g sym t u p).out.getD n 0 ≠ 0 := by
  have hl' : offS g p < u.out.length := by rw [hl]; exact off_head hp
  unfold clIn
  split
  · rename_i hc
    intro n hn
    dsimp only at hn ⊢
    rw [getD_set hl']
    by_cases e : n = offS g p
    · rw [if_pos e]
      intro h0
      obtain ⟨h1, h2⟩ := Nat.or_eq_zero_iff.1 h0
      exact hc.2 (by rw [h0, h1])
    · rw [if_neg e]
      rcases List.mem_append.1 hn with hn | hn
      · exact h n hn
      · exact absurd (List.mem_singleton.1 hn) e
  · exact h
theorem clAll_nz {g : Gr} {sym : Int} {t : Nat} (ht : t < 2 ^ 64) : ∀ (l : List Nat), (∀ p ∈ l, p < g.ps.length) → ∀ u : Cs, CsOk g u → (∀ n ∈ u.todo, u.out.getD n 0 ≠ 0) → ∀ n ∈ (l.foldl (clIn g sym t) u).todo, (l.foldl (clIn g sym t) u).out.getD n 0 ≠ 0 := by
  intro l
  induction l with
  | nil => intro _ u _ h; exact h
  | cons p l ih =>
    intro hl u k h
    rw [List.foldl_cons]
    have hp := hl p List.mem_cons_self
    exact ih (fun x hx => hl x (List.mem_cons_of_mem _ hx)) _ (clIn_ok (sym := sym) ht hp k).1 (clIn_nz k.l hp h)
theorem clIn_mono {g : Gr} {sym : Int} {t p : Nat} {u : Cs} (hl : u.out.length = nSp g) (hp : p < g.ps.length) : (∀ n b, (u.out.getD n 0).testBit b = true → ((clIn g sym t u p).out.getD n 0).testBit b = true) ∧ (∀ n, n ∈ u.todo → n ∈ (clIn g sym t u p).todo) ∧
    (∀ n, (clIn g sym t u p).out.getD n 0 = u.out.getD n 0 ∨ n ∈ (clIn g sym t u p).todo) ∧ (headAt g p = sym → ∀ b, t.testBit b = true → ((clIn g sym t u p).out.getD (offS g p) 0).testBit b = true) := by
  have hl' : offS g p < u.out.length := by rw [hl]; exact off_head hp
  unfold clIn
  split
  · rename_i hc
    dsimp only
    refine ⟨fun n b h => ?_, fun n h => List.mem_append_left _ h, fun n => ?_, fun _ b h => ?_⟩
    · rw [getD_set hl']
      split
      · rename_i e; subst e; rw [Nat.testBit_or, h, Bool.true_or]
      · exact h
    · rw [getD_set hl']
      by_cases e : n = offS g p
      · right; subst e; exact List.mem_append_right _ (List.mem_singleton.2 rfl)
      · left; rw [if_neg e]
    · rw [getD_set hl', if_pos rfl, Nat.testBit_or, h, Bool.or_true]
  · rename_i hc
    refine ⟨fun n b h => h, fun n h => h, fun n => .inl rfl, fun hh b h => ?_⟩
    have e : u.out.getD (offS g p) 0 ||| t = u.out.getD (offS g p) 0 := by
      apply Classical.byContradiction
      intro hn
      exact hc ⟨hh, hn⟩
    rw [← e, Nat.testBit_or, h, Bool.or_true]
theorem clAll_mono {g : Gr} {sym : Int} {t : Nat} (ht : t < 2 ^ 64) : ∀ (l : List Nat), (∀ p ∈ l, p < g.ps.length) → ∀ u : Cs, CsOk g u → (∀ n b, (u.out.getD n 0).testBit b = true → ((l.foldl (clIn g sym t) u).out.getD n 0).testBit b = true) ∧ (∀ n, n ∈ u.todo → n ∈ (l.foldl (clIn g sym t) u).todo) ∧
    (∀ n, (l.foldl (clIn g sym t) u).out.getD n 0 = u.out.getD n 0 ∨ n ∈ (l.foldl (clIn g sym t) u).todo) ∧ (∀ p ∈ l, headAt g p = sym → ∀ b, t.testBit b = true → ((l.foldl (clIn g sym t) u).out.getD (offS g p) 0).testBit b = true) := by
  intro l
  induction l with
  | nil => intro _ u k; exact ⟨fun _ _ h => h, fun _ h => h, fun _ => .inl rfl, by simp⟩
  | cons p l ih =>
    intro hl u k
    rw [List.foldl_cons]
    obtain ⟨k1, _⟩ := clIn_ok (sym := sym) ht (hl p List.mem_cons_self) k
    obtain ⟨a1, a2, a3, a4⟩ := clIn_mono (sym := sym) (t := t) k.l (hl p List.mem_cons_self)
    obtain ⟨b1, b2, b3, b4⟩ := ih (fun x hx => hl x (List.mem_cons_of_mem _ hx)) _ k1
    refine ⟨fun n b h => b1 n b (a1 n b h), fun n h => b2 n (a2 n h), fun n => ?_, fun q hq hh b h => ?_⟩
    · rcases b3 n with e | e
      · rcases a3 n with e2 | e2
        · exact .inl (e.trans e2)
        · exact .inr (b2 n e2)
      · exact .inr e
    · rcases List.mem_cons.1 hq with rfl | hq
      · exact b1 _ _ (a4 hh b h)
      · exact b4 q hq hh b h
theorem clAll_snd {g : Gr} {F : List Nat} {B : Nat → Nat → Prop} {sym : Int} {t n0 : Nat} (ht : t < 2 ^ 64) (hs : sym = nextS g n0) (hT : ∀ b, t.testBit b = true → ∃ a, Cl g F B n0 a ∧ (if 0 ≤ nextS g (n0 + 1) then (gn F (nextS g (n0 + 1))).testBit b = true else b = a)) :
    ∀ (l : List Nat), (∀ p ∈ l, p < g.ps.length) → ∀ u : Cs, CsOk g u → (∀ n a, (u.out.getD n 0).testBit a = true → Cl g F B n a) → ∀ n a, ((l.foldl (clIn g sym t) u).out.getD n 0).testBit a = true → Cl g F B n a := by
  intro l
  induction l with
  | nil => intro _ u _ h; exact h
  | cons p l ih =>
    intro hl u k h
    rw [List.foldl_cons]
    have hp := hl p List.mem_cons_self
    obtain ⟨k1, _⟩ := clIn_ok (sym := sym) ht hp k
    refine ih (fun x hx => hl x (List.mem_cons_of_mem _ hx)) _ k1 fun n a hb => ?_
    have hl' : offS g p < u.out.length := by rw [k.l]; exact off_head hp
    unfold clIn at hb
    split at hb
    · rename_i hc
      dsimp only at hb
      rw [getD_set hl'] at hb
      split at hb
      · rename_i e
        subst e
        rw [Nat.testBit_or, Bool.or_eq_true] at hb
        rcases hb with hb | hb
        · exact h _ _ hb
        · obtain ⟨a', ha, hb'⟩ := hT a hb
          exact .step ha hp (hc.1.trans hs) hb'
      · exact h _ _ hb
    · exact h _ _ hb
theorem clStep_I {g : Gr} {F : List Nat} (hF : ∀ x ∈ F, x < 2 ^ 64) {B : Nat → Nat → Prop} {u : Cs} (k : ClI g F B u) (hne : u.todo ≠ []) (hT0 : 0 ≤ g.T) : ClI g F B (clStep g F u) := by
  obtain ⟨k1, _⟩ := clStep_ok hF k.ok hne
  obtain ⟨out, todo⟩ := u
  cases todo with
  | nil => exact absurd rfl hne
  | cons n rest =>
    have kr : CsOk g ⟨out, rest⟩ := ⟨k.ok.l, k.ok.b, fun x hx => k.ok.t x (List.mem_cons_of_mem _ hx)⟩
    unfold clStep at k1 ⊢
    dsimp only at k1 ⊢
    split at k1
    · rename_i hlt
      rw [if_pos hlt]
      refine ⟨k1, k.snd, k.bas, fun m a h => ?_, fun m hm => k.nz m (List.mem_cons_of_mem _ hm)⟩
      rcases k.don m a h with hm | hm
      · rcases List.mem_cons.1 hm with rfl | hm
        · exact .inr (.inl hlt)
        · exact .inl hm
      · exact .inr hm
    · rename_i hlt
      rw [if_neg hlt]
      have hl : ∀ p ∈ List.range g.ps.length, p < g.ps.length := fun p hp => List.mem_range.1 hp
      have ht := clThen_lt (g := g) hF k.ok.b n
      obtain ⟨a1, a2, a3, a4⟩ := clAll_mono (sym := nextS g n) ht _ hl ⟨out, rest⟩ kr
      refine ⟨k1, ?_, fun m a h => a1 m a (k.bas m a h), fun m a h => ?_, clAll_nz ht _ hl ⟨out, rest⟩ kr (fun m hm => k.nz m (List.mem_cons_of_mem _ hm))⟩
      · obtain ⟨a0, ha0⟩ := bit_of_ne (k.nz n List.mem_cons_self)
        · refine clAll_snd ht rfl (fun b hb => ?_) _ hl ⟨out, rest⟩ kr k.snd
          unfold clThen at hb
          by_cases hx : 0 ≤ nextS g (n + 1)
          · rw [if_pos hx] at hb
            exact ⟨a0, k.snd n a0 ha0, by rw [if_pos hx]; exact hb⟩
          · rw [if_neg hx] at hb
            exact ⟨b, k.snd n b hb, by rw [if_neg hx]⟩
      · rcases a3 m with e | e
        · have h' : (out.getD m 0).testBit a = true := by rw [e] at h; exact h
          rcases k.don m a h' with hm | hm
          · rcases List.mem_cons.1 hm with rfl | hm
            · right
              right
              intro p hp hh b hb
              rw [clThen_congr e] at hb
              exact a4 p (List.mem_range.2 hp) hh b hb
            · exact .inl (a2 m hm)
          · right
            rcases hm with hm | hm
            · exact .inl hm
            · right
              intro p hp hh b hb
              rw [clThen_congr e] at hb
              exact a1 _ _ (hm p hp hh b hb)
        · exact .inl e
theorem clEnd_fin {g : Gr} {F : List Nat} (heads : ∀ p, p < g.ps.length → g.T ≤ headAt g p) {B : Nat → Nat → Prop} (u : Cs) (e : u.todo = []) (k : ClI g F B u) : (clEnd g F u).length = nSp g ∧ (∀ x ∈ clEnd g F u, x < 2 ^ 64) ∧ ∀ n a, ((clEnd g F u).getD n 0).testBit a = true ↔ Cl g F B n a := by
  rw [clEnd_done e]
  refine ⟨k.ok.l, k.ok.b, fun n a => ⟨k.snd n a, fun h => ?_⟩⟩
  induction h with
  | base hb => exact k.bas _ _ hb
  | @step n a p b h1 hp hh hb ih =>
    rcases k.don n a ih with hm | hm
    · rw [e] at hm; exact absurd hm (by simp)
    · rcases hm with hm | hm
      · have := heads p hp; omega
      · refine hm p hp hh b ?_
        unfold clThen
        by_cases hx : 0 ≤ nextS g (n + 1)
        · rw [if_pos hx] at hb ⊢; exact hb
        · rw [if_neg hx] at hb ⊢; rw [hb]; exact ih
theorem clEnd_I {g : Gr} {F : List Nat} (hF : ∀ x ∈ F, x < 2 ^ 64) (hT0 : 0 ≤ g.T) (heads : ∀ p, p < g.ps.length → g.T ≤ headAt g p) {B : Nat → Nat → Prop} : ∀ (m : Nat) (u : Cs), clMu u ≤ m → ClI g F B u → (clEnd g F u).length = nSp g ∧ (∀ x ∈ clEnd g F u, x < 2 ^ 64) ∧ ∀ n a, ((clEnd g F u).getD n 0).testBit a = true ↔ Cl g F B n a := by
  intro m
  induction m with
  | zero =>
    intro u hm k
    have e : u.todo = [] := by unfold clMu at hm; exact List.length_eq_zero_iff.1 (by omega)
    exact clEnd_fin heads u e k
  | succ m ih =>
    intro u hm k
    by_cases e : u.todo = []
    · exact clEnd_fin heads u e k
    · rw [clEnd_step hF k.ok e]
      exact ih _ (by have := (clStep_ok hF k.ok e).2; omega) (clStep_I hF k e hT0)
end Go.Proofs.YtaooejidkeojjaaDoor.H
namespace Go.Proofs.YtaooejidkeojjaaDoor.H
set_option linter.unusedVariables false
set_option linter.unusedSimpArgs false
structure StOk (g : Gr) (core mask : List Nat) : Prop where
  nd : core.Nodup
  lt : ∀ n ∈ core, n < nSp g
  l : mask.length = core.length
  b : ∀ x ∈ mask, x < 2 ^ 64
  nz : ∀ x ∈ mask, x ≠ 0
def StB (core mask : List Nat) (n a : Nat) : Prop := ∃ i, i < core.length ∧ core.getD i 0 = n ∧ (mask.getD i 0).testBit a = true
theorem clOut0_succ (g : Gr) (core mask : List Nat) (k : Nat) : clOut0 g core mask (k + 1) = (clOut0 g core mask k).set (core.getD k 0) (mask.getD k 0) := by
  unfold clOut0
  rw [List.range_succ, List.foldl_append]; rfl
theorem clOut0_len (g : Gr) (core mask : List Nat) : ∀ k, (clOut0 g core mask k).length = nSp g := by
  intro k
  induction k with
  | zero => simp [clOut0]
  | succ k ih => rw [clOut0_succ, List.length_set, ih]
theorem clOut0_lt {g : Gr} {core mask : List Nat} (hb : ∀ x ∈ mask, x < 2 ^ 64) : ∀ k, ∀ x ∈ clOut0 g core mask k, x < 2 ^ 64 := by
  intro k
  induction k with
  | zero =>
    intro x hx
    have h0 : x ∈ List.replicate (nSp g) 0 := hx
    rw [List.eq_of_mem_replicate h0]
    exact Nat.two_pow_pos 64
  | succ k ih => rw [clOut0_succ]; exact set_lt ih _ _ (getD_lt hb _)
theorem clOut0_at {g : Gr} {core mask : List Nat} (h : StOk g core mask) : ∀ k, k ≤ core.length → ∀ n a, ((clOut0 g core mask k).getD n 0).testBit a = true ↔ ∃ i, i < k ∧ core.getD i 0 = n ∧ (mask.getD i 0).testBit a = true := by
  intro k
  induction k with
  | zero =>
    intro _ n a
    constructor
    · intro hb
      have : (clOut0 g core mask 0).getD n 0 = 0 := by
        show (List.replicate (nSp g) 0).getD n 0 = 0
        rw [List.getD_eq_getElem?_getD, List.getElem?_replicate]
        split <;> rfl
      rw [this, Nat.zero_testBit] at hb
      cases hb
    · rintro ⟨i, hi, _⟩; exact absurd hi (Nat.not_lt_zero _)
  | succ k ih =>
    intro hk n a
    have hck : core.getD k 0 < (clOut0 g core mask k).length := by
      rw [clOut0_len, List.getD_eq_getElem?_getD, List.getElem?_eq_getElem (by omega)]
      exact h.lt _ (List.getElem_mem _)
    rw [clOut0_succ, getD_set hck]
    by_cases e : n = core.getD k 0
    · rw [if_pos e]
      constructor
      · intro hb; exact ⟨k, by omega, e.symm, hb⟩
      · rintro ⟨i, hi, hn, hb⟩
        have : i = k := by
          rw [e, List.getD_eq_getElem?_getD, List.getD_eq_getElem?_getD, List.getElem?_eq_getElem (show i < core.length by omega), List.getElem?_eq_getElem (show k < core.length by omega)] at hn
          exact (List.getElem_inj h.nd).1 (by simpa using hn)
        rw [← this]; exact hb
    · rw [if_neg e, ih (by omega)]
      constructor
      · rintro ⟨i, hi, hn, hb⟩; exact ⟨i, by omega, hn, hb⟩
      · rintro ⟨i, hi, hn, hb⟩
        refine ⟨i, ?_, hn, hb⟩
        apply Classical.byContradiction
        intro hc
        have : i = k := by omega
        subst this
        exact e hn.symm
theorem close0_I {g : Gr} {F core mask : List Nat} (h : StOk g core mask) : ClI g F (StB core mask) ⟨clOut0 g core mask core.length, core⟩ := by
  have key := clOut0_at h core.length (Nat.le_refl _)
  refine ⟨⟨clOut0_len _ _ _ _, clOut0_lt h.b _, h.lt⟩, fun n a hb => ?_, fun n a hb => ?_, fun n a hb => ?_, fun n hn => ?_⟩
  · exact .base ((key n a).1 hb)
  · exact (key n a).2 hb
  · obtain ⟨i, hi, hn, _⟩ := (key n a).1 hb
    left
    show n ∈ core
    rw [← hn, List.getD_eq_getElem?_getD, List.getElem?_eq_getElem hi]
    exact List.getElem_mem hi
  · show (clOut0 g core mask core.length).getD n 0 ≠ 0
    obtain ⟨i, hi, rfl⟩ := List.getElem_of_mem (show n ∈ core from hn)
    have hm : mask.getD i 0 ≠ 0 := by
      rw [List.getD_eq_getElem?_getD, List.getElem?_eq_getElem (by rw [h.l]; exact hi)]
      exact h.nz _ (List.getElem_mem _)
    obtain ⟨a, ha⟩ := bit_of_ne hm
    exact ne_of_bit ((key core[i] a).2 ⟨i, hi, by rw [List.getD_eq_getElem?_getD, List.getElem?_eq_getElem hi]; rfl, ha⟩)
theorem close_spec {g : Gr} (ok : GrOk g) {F core mask : List Nat} (hF : ∀ x ∈ F, x < 2 ^ 64) (h : StOk g core mask) : (closeM g F core mask).length = nSp g ∧ (∀ x ∈ closeM g F core mask, x < 2 ^ 64) ∧
    ∀ n a, ((closeM g F core mask).getD n 0).testBit a = true ↔ Cl g F (StB core mask) n a :=
  clEnd_I hF (by have := ok.t0; omega) (fun p hp => by rw [headAt_get hp]; exact (ok.pr _ (List.getElem_mem hp)).1) _ _ (Nat.le_refl _) (close0_I h)
end Go.Proofs.YtaooejidkeojjaaDoor.H
namespace Go.Proofs.YtaooejidkeojjaaDoor.H
set_option linter.unusedVariables false
set_option linter.unusedSimpArgs false
structure StD where
  core : List Nat
  mask : List Nat
  led : List Int
def nxSel (g : Gr) (out : List Nat) (sym k : Nat) : List Nat := (List.range k).filter fun n => decide (out.getD n 0 ≠ 0 ∧ nextS g n = (sym : Int))
def nxCore (g : Gr) (out : List Nat) (sym : Nat) : List Nat := (nxSel g out sym (nSp g)).map (· + 1)
def nxMask (g : Gr) (out : List Nat) (sym : Nat) : List Nat := (nxSel g out sym (nSp g)).map fun n => out.getD n 0
def joinTo (a b : List Nat) (k : Nat) : List Nat := (List.range k).foldl (fun m i => m.set i (m.getD i 0 ||| b.getD i 0)) a
def joinM (a b : List Nat) : List Nat := joinTo a b b.length
def joinB (a b : List Nat) (k : Nat) : Bool := (List.range k).any fun i => decide (a.getD i 0 ||| b.getD i 0 ≠ a.getD i 0)
def findS (sts : List StD) (c : List Nat) : Option Nat := (List.range sts.length).find? fun i => decide ((sts.getD i ⟨[], [], []⟩).core = c)
structure GrS where
  sts : List StD
  fresh : List Nat
  full : Bool
def stAt (l : List StD) (i : Nat) : StD := l.getD i ⟨[], [], []⟩
def setTo (l : List StD) (i sym n : Nat) : List StD := l.set i { stAt l i with led := (stAt l i).led.set sym (n : Int) }
def setMask (l : List StD) (i : Nat) (m : List Nat) : List StD := l.set i { stAt l i with mask := m }
def growFind (g : Gr) (u : GrS) (c m : List Nat) : GrS × Nat :=
  match findS u.sts c with
  | some n => (u, n)
  | none => if u.sts.length = 512 then ({ u with full := true }, 0) else (⟨u.sts ++ [⟨c, m, List.replicate g.S.toNat (-1)⟩], u.fresh ++ [u.sts.length], false⟩, u.sts.length)
def growPut (at_ sym : Nat) (u : GrS) (n : Nat) (m : List Nat) : GrS :=
  ⟨setMask (setTo u.sts at_ sym n) n (joinM (stAt u.sts n).mask m), if joinB (stAt u.sts n).mask m m.length then u.fresh ++ [n] else u.fresh, false⟩
def growSym (g : Gr) (out : List Nat) (at_ : Nat) (u : GrS) (sym : Nat) : GrS :=
  if u.full then u else if nxCore g out sym = [] then u else
  if (growFind g u (nxCore g out sym) (nxMask g out sym)).1.full then (growFind g u (nxCore g out sym) (nxMask g out sym)).1 else
  growPut at_ sym (growFind g u (nxCore g out sym) (nxMask g out sym)).1 (growFind g u (nxCore g out sym) (nxMask g out sym)).2 (nxMask g out sym)
def growTo (g : Gr) (F : List Nat) (at_ : Nat) (sts : List StD) (k : Nat) : GrS := (List.range k).foldl (growSym g (closeM g F (stAt sts at_).core (stAt sts at_).mask) at_) ⟨sts, [], false⟩
def growM (g : Gr) (F : List Nat) (at_ : Nat) (sts : List StD) : GrS := growTo g F at_ sts g.S.toNat
structure OfS where
  sts : List StD
  todo : List Nat
  full : Bool
def ofStep (g : Gr) (F : List Nat) (u : OfS) : OfS :=
  match u.todo with
  | [] => u
  | at_ :: rest => ⟨(growM g F at_ u.sts).sts, rest ++ (growM g F at_ u.sts).fresh, (growM g F at_ u.sts).full⟩
def ofRun (g : Gr) (F : List Nat) : Nat → OfS → OfS
  | 0, u => u
  | k + 1, u => if u.full = true ∨ u.todo = [] then u else ofRun g F k (ofStep g F u)
def start0 (g : Gr) : OfS := ⟨[⟨[offS g g.ps.length], [2 ^ g.T.toNat], List.replicate g.S.toNat (-1)⟩], [0], false⟩
def lacks (l : List StD) : Nat := (l.map fun s => lack s.mask).sum
def ofMu (g : Gr) (u : OfS) : Nat := 2 * ((512 - u.sts.length) * (64 * nSp g + 1) + lacks u.sts) + u.todo.length
def statesM (g : Gr) : OfS := ofRun g (firstEnd g) (ofMu g (start0 g)) (start0 g)
end Go.Proofs.YtaooejidkeojjaaDoor.H
namespace Go.Proofs.YtaooejidkeojjaaDoor.H
open Go.RowKit
set_option linter.unusedVariables false
set_option linter.unusedSimpArgs false
theorem laidOutH : laidOutB Tryd.prog = true := by kernel_rfl
structure KeyEnc (P : Program) (K : TypeId) (κ : Type) where
  kv : κ → Value
  ok : κ → Prop
  lit : κ → Lit
  key : ∀ k, ok k → keyOf P K (kv k) = some (lit k)
  inj : ∀ a b, ok a → ok b → kv a = kv b → a = b
section
variable {P : Program} {K t e : TypeId} {κ : Type}
theorem KeyEnc.lit_inj (E : KeyEnc P K κ) (L : Maps.Keyed P K) {a b : κ} (ha : E.ok a) (hb : E.ok b) (h : E.lit a = E.lit b) : a = b :=
  E.inj a b ha hb (L.inj (E.key a ha) (by rw [h]; exact E.key b hb))
def MapI (E : KeyEnc P K κ) (e : TypeId) (box : List κ) (w : World) (b : Nat) (m : κ → Option Int) : Prop :=
  ∃ D : DataW Unit, w.ownsMap P K (plainElem P e) b (Maps.size D) D ∧ (∀ l, Maps.has D l = true → ∃ k ∈ box, E.ok k ∧ E.lit k = l) ∧
    ∀ k, E.ok k → (∀ z, D.atKey (E.lit k) z = match m k with | some v => .lit (.int .i64 v) | none => z) ∧ Maps.has D (E.lit k) = (m k).isSome
theorem nodup_sub {α : Type} : ∀ (l L : List α), l.Pairwise (· ≠ ·) → (∀ x ∈ l, x ∈ L) → l.length ≤ L.length := by
  intro l
  induction l with
  | nil => intro L _ _; simp
  | cons x l ih =>
    intro L hp hs
    classical
    have hx : x ∈ L := hs x (by simp)
    obtain ⟨s, t, rfl⟩ := List.append_of_mem hx
    have := ih (s ++ t) (List.pairwise_cons.1 hp).2 (fun y hy => by
      have hne := (List.pairwise_cons.1 hp).1 y hy
      have := hs y (List.mem_cons_of_mem _ hy)
      simp only [List.mem_append, List.mem_cons] at this ⊢
      rcases this with h | h | h
      · exact .inl h
      · exact absurd h.symm hne
      · exact .inr h)
    simp only [List.length_append, List.length_cons] at this ⊢
    omega
theorem own_size_le {E : KeyEnc P K κ} {box : List κ} {w : World} {b n : Nat} {D : DataW Unit} (L : Maps.Keyed P K) (h : w.ownsMap P K (plainElem P e) b n D) (hs : ∀ l, Maps.has D l = true → ∃ k ∈ box, E.ok k ∧ E.lit k = l) : Maps.size D ≤ box.length := by
  obtain ⟨es, rfl, hp, hk⟩ := h.canon L
  rw [Maps.size_eq]
  have := nodup_sub (es.map (·.1)) (box.map E.lit) (List.pairwise_map.2 (Maps.apart_of_rising hp)) (fun x hx => by
    obtain ⟨p, hpm, rfl⟩ := List.mem_map.1 hx
    have hh : Maps.has (.map es) p.1 = true := by
      rw [Maps.has_eq, List.any_eq_true]
      exact ⟨p, hpm, WideAt.sameKey_self (hk p hpm)⟩
    obtain ⟨k, hkb, _, hl⟩ := hs _ hh
    exact List.mem_map.2 ⟨k, hkb, hl⟩)
  simpa using this
theorem own_tight {w : World} {b n : Nat} {D : DataW Unit} {R : Value → Option (DataW Unit × List MemPlace)} (h : w.ownsMap P K R b n D) : w.ownsMap P K R b (Maps.size D) D := by
  obtain ⟨es, clock, hb, F, hs, rfl⟩ := h
  exact ⟨es, clock, hb, F, by rw [Maps.size_eq, length_sorted]; simp, rfl⟩
variable {E : KeyEnc P K κ} {box : List κ} {w w' : World} {b : Nat} {m : κ → Option Int}
theorem MapI.made (E : KeyEnc P K κ) (e : TypeId) (box : List κ) (w : World) : MapI E e box (w.alloc (.map #[] 0)) w.heap.size (fun _ => none) :=
  ⟨.map [], own_tight (World.ownsMap_made w P K _), fun l h => by simp [Maps.has] at h, fun k _ => ⟨fun z => rfl, rfl⟩⟩
theorem MapI.lt (h : MapI E e box w b m) : b < w.heap.size := by obtain ⟨D, h1, _⟩ := h; exact h1.lt
theorem MapI.move (h : MapI E e box w b m) (hb : w'.heap[b]? = w.heap[b]?) : MapI E e box w' b m := by
  obtain ⟨D, ⟨es, clock, h1, h2⟩, h3⟩ := h
  exact ⟨D, ⟨es, clock, hb.trans h1, h2⟩, h3⟩
theorem MapI.grown {row : Option Nat} (h : MapI E e box w b m) (hg : w.grownBy w' row) (hne : some b ≠ row) : MapI E e box w' b m := h.move (hg.block b h.lt hne)
theorem MapI.below {B : Nat} (h : MapI E e box w b m) (hb : Below B w w') (hB : b < B) : MapI E e box w' b m := h.move (hb.block b hB)
theorem MapI.alloc (h : MapI E e box w b m) (o : Obj) : MapI E e box (w.alloc o) b m := h.grown (World.grownBy_alloc w o none) (by simp)
theorem MapI.drew (h : MapI E e box w b m) : MapI E e box w.drew b m := h
theorem MapI.far (h : MapI E e box w b m) {p : Addr} (hp : b ≠ p.block) (u : Value) : MapI E e box (w.setCell p u) b m := h.move (Below.heap_setCell w p u b hp)
theorem MapI.look (h : MapI E e box w b m) (L : Maps.Keyed P K) (ht : P.underlying t = some (.map K e)) (he : P.underlying e = some (.int .i64)) (hz : (zeroValue e).run P w = .ok (.int .i64 0) w) (k : κ) (hk : E.ok k) :
    (Instr.lookup t (.map (some b)) (E.kv k) false).run P w = .ok (.int .i64 ((m k).getD 0)) w := by
  obtain ⟨D, h1, _, h3⟩ := h
  obtain ⟨c, hrun, hat, _⟩ := h1.lookup_int L ht he hz (E.key k hk)
  rw [(h3 k hk).1] at hat
  rw [hrun]
  cases hm : m k with
  | none => rw [hm] at hat; simp only [DataW.lit.injEq, Lit.int.injEq, true_and] at hat; rw [← hat]; rfl
  | some v => rw [hm] at hat; simp only [DataW.lit.injEq, Lit.int.injEq, true_and] at hat; rw [← hat]; rfl
noncomputable def put {κ : Type} (m : κ → Option Int) (k : κ) (v : Option Int) : κ → Option Int := fun x => @ite _ (x = k) (Classical.propDecidable _) v (m x)
theorem put_same {κ : Type} (m : κ → Option Int) (k : κ) (v : Option Int) : put m k v k = v := by simp [put]
theorem put_other {κ : Type} (m : κ → Option Int) {k x : κ} (v : Option Int) (h : x ≠ k) : put m k v x = m x := by simp [put, h]
theorem MapI.store (h : MapI E e box w b m) (L : Maps.Keyed P K) (ht : P.underlying t = some (.map K e)) (he : P.underlying e = some (.int .i64)) (hbox : box.length < maxLen) (k : κ) (hk : E.ok k) (hkb : k ∈ box) (v : Int) (hv : (Lit.int .i64 v).wf = true) :
    ∃ w', (Instr.mapUpdate t (.map (some b)) (E.kv k) (.int .i64 v)).run P w = .ok () w' ∧ MapI E e box w' b (put m k (some v)) ∧ w.grownBy w' (some b) := by
  obtain ⟨D, h1, h2, h3⟩ := h
  have hn := own_size_le L h1 h2
  obtain ⟨w', hrun, ho, hg⟩ := h1.update L ht (Nat.lt_of_le_of_lt hn hbox) (E.key k hk) (plainElem_int he hv)
  have hkl : WideAt.IsKeyLit (E.lit k) := L.key (E.key k hk)
  have hD := h1.isMap
  refine ⟨w', hrun, ⟨_, own_tight ho, fun l hl => ?_, fun x hx => ?_⟩, hg⟩
  · by_cases hlk : l = E.lit k
    · exact ⟨k, hkb, hk, hlk.symm⟩
    · rw [Maps.has_put_other hlk] at hl
      exact h2 l hl
  · by_cases hxk : x = k
    · subst hxk
      rw [put_same]
      exact ⟨fun z => Maps.atKey_put_same hD hkl _ z, Maps.has_put_same hD hkl _⟩
    · rw [put_other _ _ hxk]
      have hne : E.lit x ≠ E.lit k := fun e => hxk (E.lit_inj L hx hk e)
      exact ⟨fun z => by rw [Maps.atKey_put_other hne]; exact (h3 x hx).1 z, by rw [Maps.has_put_other hne]; exact (h3 x hx).2⟩
end
def I64 (x : Int) : Prop := (Lit.int .i64 x).wf = true
theorem i64_small {x : Int} (h0 : -1 ≤ x) (h1 : x ≤ 1073741825) : I64 x := by
  unfold I64 Lit.wf
  simp [IntKind.min, IntKind.max, IntKind.bits, IntKind.signed] <;> omega
def spV (k : Nat × Nat) : Value := .agg #[.int .i64 k.1, .int .i64 k.2]
def spL (k : Nat × Nat) : Lit := .string (keyBytes [.int .i64 k.1, .int .i64 k.2])
def spOk (k : Nat × Nat) : Prop := I64 k.1 ∧ I64 k.2
set_option maxRecDepth 100000
theorem spot_wide : (match Tryd.prog.underlying 84 with | some (.array _ _) | some (.struct _) => true | _ => false) = true := by kernel_rfl
theorem spot_row : (84 : TypeId) < Tryd.prog.types.size := of_decide_eq_true (by kernel_rfl)
theorem spot_law : Maps.Keyed Tryd.prog 84 := Maps.Keyed.of_law (deep_law_laid laidOutH (m := 2) (by omega) spot_row (by kernel_rfl) spot_wide)
theorem spot_cells : Tryd.prog.cellsOf 84 = 2 := by kernel_rfl
theorem spot_type : Tryd.prog.keyType 84 = true := by kernel_rfl
theorem int_cells : Tryd.prog.cellsOf 3 = 1 := by kernel_rfl
theorem spot_key (k : Nat × Nat) (h : spOk k) : keyOf Tryd.prog 84 (spV k) = some (spL k) := by
  obtain ⟨h1, h2⟩ := h
  obtain ⟨a, b⟩ := k
  unfold I64 at *
  dsimp only at *
  obtain ⟨n, hn⟩ : ∃ n, Tryd.prog.types.size = n + 1 := Nat.exists_eq_succ_of_ne_zero (fun h => by have := spot_row; rw [h] at this; exact absurd this (Nat.not_lt_zero _))
  unfold keyOf
  simp only [Tryd.underlying84]
  rw [hn]
  simp [spot_type, Value.formed, Tryd.underlying84, spot_cells, spV, spL, Value.cells, Program.keyLits, Tryd.underlying3, int_cells, h1, h2]
def spotE : KeyEnc Tryd.prog 84 (Nat × Nat) where
  kv := spV
  ok := spOk
  lit := spL
  key := spot_key
  inj := fun a b _ _ h => by
    obtain ⟨a1, a2⟩ := a
    obtain ⟨b1, b2⟩ := b
    simp [spV] at h
    exact Prod.ext (by omega) (by omega)
end Go.Proofs.YtaooejidkeojjaaDoor.H
namespace Go.Proofs.YtaooejidkeojjaaDoor.H
open Go.RowKit
set_option linter.unusedVariables false
set_option linter.unusedSimpArgs false
structure Mx where
  g : Gr
  A : Option Addr
  c : Nat
  F : List Nat
  mB : Nat
  gF : Nat
  nB : Nat
  gS : Nat
  cs : Nat
  B0 : Nat
def numOf (g : Gr) (k : Nat × Nat) : Option Int := if k.1 ≤ g.ps.length ∧ k.2 ≤ (bodyX g k.1).length then some ((offS g k.1 + k.2 : Nat) : Int) else none
structure MxOk (x : Mx) : Prop where
  ok : GrOk x.g
  ne : ∀ p ∈ x.g.ps, 0 < p.body.length
  c : x.g.ps.length ≤ x.c
  b : ∀ p ∈ x.g.ps, p.body.length ≤ 8
  fl : x.F.length = x.g.S.toNat
  fb : ∀ y ∈ x.F, y < 2 ^ 64
  cs : nSp x.g ≤ x.cs
structure Mk (x : Mx) (w : World) : Prop where
  c0 : w.cell? ⟨x.mB, 0, none⟩ = some (.int .i64 x.g.T)
  c1 : w.cell? ⟨x.mB, 1, none⟩ = some (.int .i64 x.g.S)
  c2 : w.cell? ⟨x.mB, 2, none⟩ = some (.int .i64 x.g.st)
  c3 : w.cell? ⟨x.mB, 3, none⟩ = some (.slice x.A x.g.ps.length x.c)
  c4 : w.cell? ⟨x.mB, 4, none⟩ = some (.slice (some ⟨x.gF, 0, none⟩) x.F.length x.F.length)
  c5 : w.cell? ⟨x.mB, 5, none⟩ = some (.map (some x.nB))
  c6 : w.cell? ⟨x.mB, 6, none⟩ = some (.slice (some ⟨x.gS, 0, none⟩) (nSp x.g) x.cs)
  rp : RdP w x.B0 x.A x.g.ps
  f : Blk w x.gF 86 (u64s x.F)
  nm : MapI spotE 3 (spots x.g) w x.nB (numOf x.g)
  sp : ∀ n p d, (spots x.g)[n]? = some (p, d) → w.cell? ⟨x.gS, n * 2, none⟩ = some (.int .i64 (p : Nat)) ∧ w.cell? ⟨x.gS, n * 2 + 1, none⟩ = some (.int .i64 (d : Nat))
  lm : x.mB < w.heap.size
  ls : x.gS < w.heap.size
  l0 : x.B0 ≤ w.heap.size
theorem Mk.below {x : Mx} {w w' : World} (k : Mk x w) (hb : Below w.heap.size w w') : Mk x w' :=
  ⟨cell_below k.c0 hb k.lm, cell_below k.c1 hb k.lm, cell_below k.c2 hb k.lm, cell_below k.c3 hb k.lm, cell_below k.c4 hb k.lm, cell_below k.c5 hb k.lm, cell_below k.c6 hb k.lm,
    k.rp.below (hb.mono k.l0), k.f.below hb k.f.lt, k.nm.below hb k.nm.lt, fun n p d h => ⟨cell_below (k.sp n p d h).1 hb k.ls, cell_below (k.sp n p d h).2 hb k.ls⟩,
    by have := hb.size; have := k.lm; omega, by have := hb.size; have := k.ls; omega, by have := hb.size; have := k.l0; omega⟩
theorem bodyX_le {x : Mx} (hx : MxOk x) (p : Nat) (hp : p ≤ x.g.ps.length) : (bodyX x.g p).length ≤ 8 := by
  unfold bodyX
  split
  · simp
  · rename_i e
    have hp' : p < x.g.ps.length := by omega
    rw [bodyAt_get hp']
    exact hx.b _ (List.getElem_mem hp')
set_option maxRecDepth 100000 in
set_option maxHeartbeats 4000000 in
theorem body_wk (g : Gr) (A0 : Option Addr) (c0 mB B0 p : Nat) (hp : p ≤ g.ps.length) (w : World) (q2 : w.cell? ⟨mB, 2, none⟩ = some (.int .i64 g.st)) (q3 : w.cell? ⟨mB, 3, none⟩ = some (.slice A0 g.ps.length c0)) (rp : RdP w B0 A0 g.ps) (l0 : B0 ≤ w.heap.size) :
    Calls Tryd.prog 55 #[.pointer (some ⟨mB, 0, none⟩), .int .i64 p] w fun e w' => ∃ A c, e = .returned (.slice A (bodyX g p).length c) ∧ Rd eI 1 w' w'.heap.size A (bodyX g p) ∧ (bodyX g p).length ≤ c ∧ Below w.heap.size w w' := by
  by_cases hpl : p < g.ps.length
  · have e : bodyX g p = g.ps[p].body := by unfold bodyX; rw [if_neg (by omega), bodyAt_get hpl]
    rw [e]
    obtain ⟨ad, Ab, cb, hA, hb, c0, c1, c2, hlb, hrb⟩ := rp p hpl
    rw [hA] at q3
    have R := Keep.mk (hrb.mono l0)
    have LB := Keep.mk hlb
    have i1 : (0:Int) ≤ p := by omega
    have i2 : (p : Int) < g.ps.length := by omega
    have i3 : ((p : Int) == g.ps.length) = false := by simp only [beq_eq_false_iff_ne]; omega
    clear rp hrb hlb e hA
    generalize g.ps[p] = pr at *
    obtain ⟨hd, bd, rt⟩ := pr
    dsimp only at *
    go_enter Tryd.func55, Tryd.ntmps55
    go_wp2
    go_ret
    exact ⟨Ab, cb, rfl, R.out, LB.out, Below.refl _ _⟩
  · have e0 : p = g.ps.length := by omega
    have e : bodyX g p = [g.st] := by unfold bodyX; rw [if_pos e0]
    rw [e]
    have i3 : ((p : Int) == g.ps.length) = true := by simp [e0]
    clear rp e e0 hpl
    go_enter Tryd.func55, Tryd.ntmps55
    go_wp2
    go_ret
    refine ⟨some ⟨w.heap.size, 0, none⟩, 1, rfl, fun i hi => ⟨_, rfl, (Blk.new w 3 #[.int .i64 g.st]).lt, fun j u hj => ?_⟩, by simp, (Below.refl _ _).alloc (Nat.le_refl _) _⟩
    obtain rfl : i = 0 := by simpa using hi
    cases j with
    | zero =>
      have hu : Value.int .i64 g.st = u := by simpa [eI] using hj
      rw [← hu]
      exact (Blk.new w 3 #[.int .i64 g.st]).cell 0
    | succ j => simp [eI] at hj
theorem body_tab (x : Mx) (hx : MxOk x) (p : Nat) (hp : p ≤ x.g.ps.length) (w : World) (hw : Mk x w) :
    Calls Tryd.prog 55 #[.pointer (some ⟨x.mB, 0, none⟩), .int .i64 p] w fun e w' => ∃ A c, e = .returned (.slice A (bodyX x.g p).length c) ∧ Rd eI 1 w' w'.heap.size A (bodyX x.g p) ∧ (bodyX x.g p).length ≤ c ∧ Below w.heap.size w w' :=
  body_wk x.g x.A x.c x.mB x.B0 p hp w hw.c2 hw.c3 hw.rp hw.l0
set_option maxRecDepth 100000 in
set_option maxHeartbeats 4000000 in
theorem next_tab (x : Mx) (hx : MxOk x) (n : Nat) (hn : n < nSp x.g) (w : World) (hw : Mk x w) :
    Calls Tryd.prog 58 #[.pointer (some ⟨x.mB, 0, none⟩), .int .i64 n] w fun e w' => e = .returned (.int .i64 (nextS x.g n)) ∧ Below w.heap.size w w' := by
  obtain ⟨p, d, hp, hd, e⟩ := spots_of hn
  have hs := spots_at hp hd
  rw [← e] at hs
  have K1 := Keep.mk fun W (hW : Below w.heap.size w W) => body_tab x hx p hp W (hw.below hW)
  have EN : Keep (nextS x.g n = if d < (bodyX x.g p).length then (bodyX x.g p).getD d 0 else -1) := ⟨by unfold nextS; rw [hs]⟩
  generalize nextS x.g n = NX at *
  obtain ⟨s0, s1⟩ := hw.sp n p d hs
  have q6 := hw.c6
  have i1 : (0:Int) ≤ n := by omega
  have i2 : (n : Int) < nSp x.g := by omega
  clear hw hs e
  generalize nSp x.g = NS at *
  generalize bodyX x.g p = bd at *
  obtain ⟨wb, hwb⟩ : ∃ wb : World, wb = w.alloc (.cells #[.int .i64 p, .int .i64 d] 84) := ⟨_, rfl⟩
  have B0 : Keep (Below w.heap.size w wb) := ⟨by rw [hwb]; exact (Below.refl _ _).alloc (Nat.le_refl _) _⟩
  have BS : Keep (Blk wb w.heap.size 84 #[.int .i64 p, .int .i64 d]) := ⟨by rw [hwb]; exact Blk.new _ _ _⟩
  go_enter Tryd.func58, Tryd.ntmps58
  go_upto_region 2 with fail
  rw [← hwb]
  clear hwb s0 s1 q6
  have r0 := BS.out.cell 0
  have r1 := BS.out.cell 1
  simp at r0 r1
  have nb : w.heap.size < wb.heap.size := BS.out.lt
  go_cut [20] (fun s20 wx => s20 = .bool (decide (d < bd.length)) ∧ Keep (Below wb.heap.size wb wx))
  case first =>
    go_region_held3 (fun w' => w'.cell? ⟨w.heap.size, 0, none⟩ = some (.int .i64 p) ∧ w'.cell? ⟨w.heap.size, 1, none⟩ = some (.int .i64 d))
      (first | exact ⟨r0, r1⟩ | exact ⟨t0, t1⟩) (first
      | (go_at_call 55; refine (K1.out _ (below_drew1 B0.out)).mono ?_; rintro e w9 ⟨A9, c9, rfl, R9, l9, hb9⟩; have Z9 : Keep (Below wb.heap.size wb w9) := ⟨below_step (below_drew1 (Below.refl _ _)) hb9 (Nat.le_refl _)⟩; have t0 := cell_below r0 Z9.out nb; have t1 := cell_below r1 Z9.out nb; clear hb9 R9 l9))
    all_goals (
      go_wp2_with fail
      go_meet
      exact ⟨by simp, Z9⟩)
  case rest =>
  obtain ⟨rfl, Z⟩ := hcut
  have r0 := cell_below r0 Z.out nb
  have r1 := cell_below r1 Z.out nb
  have B1 : Keep (Below w.heap.size w wc) := ⟨below_step B0.out Z.out B0.out.size⟩
  have nb2 : w.heap.size < wc.heap.size := by have := Z.out.size; omega
  obtain ⟨wo, rfl⟩ : ∃ wo : World, wo = wc := ⟨_, rfl⟩
  by_cases hdl : d < bd.length
  · have EN2 : Keep (NX = bd.getD d 0) := ⟨by rw [EN.out, if_pos hdl]⟩
    have HD := Keep.mk hdl
    rw [decide_eq_true hdl]
    have j1 : (0:Int) ≤ d := by omega
    have j2 : (d : Int) < bd.length := by omega
    clear EN Z hdl
    go_upto_region 3 with fail
    go_cut [4] (fun s4 wx => s4 = .int .i64 NX ∧ Keep (Below w.heap.size w wx))
    case first =>
      have HG : Keep (∀ h : d < bd.length, bd[d] = NX) := ⟨fun h => by rw [EN2.out, List.getD_eq_getElem?_getD, List.getElem?_eq_getElem h]; rfl⟩
      go_region_law (first
        | (go_simp; go_at_call 55; refine (K1.out _ (below_drew1 B1.out)).mono ?_; rintro e w9 ⟨A9, c9, rfl, R9, l9, hb9⟩; obtain ⟨a9, rfl, h9, k9⟩ := R9.int d HD.out; rw [HG.out] at k9; have Z9 : Keep (Below wo.heap.size wo w9) := ⟨below_step (below_drew1 (Below.refl _ _)) hb9 (Nat.le_refl _)⟩; have t0 := cell_below r0 Z9.out nb2; have t1 := cell_below r1 Z9.out nb2; clear hb9 R9))
      all_goals (
        go_wp2_with fail
        go_meet
        exact ⟨rfl, ⟨by first | exact below_step B1.out Z9.out B1.out.size | exact below_drew1 (below_step B1.out Z9.out B1.out.size)⟩⟩)
    case rest =>
    obtain ⟨rfl, Z⟩ := hcut
    go_wp2
    go_ret
    exact ⟨rfl, Z.out⟩
  · have EN2 : Keep (NX = -1) := ⟨by rw [EN.out, if_neg hdl]⟩
    rw [decide_eq_false hdl]
    clear EN hdl
    go_wp2
    go_ret
    exact ⟨by rw [EN2.out]; rfl, B1.out⟩
end Go.Proofs.YtaooejidkeojjaaDoor.H
namespace Go.Proofs.YtaooejidkeojjaaDoor.H
open Go.RowKit
set_option linter.unusedVariables false
set_option linter.unusedSimpArgs false
set_option maxRecDepth 100000
theorem run_append_none_c {P : Program} {w : World} (base : Nat) (t ty e : TypeId) (i : TypeInfo) (size : Nat) (ht : P.underlying t = some (.slice e)) (hi : P.info? e = some i)
    (v : Value) (n : Nat) (xs : List Value) (c : Nat) (hown : w.ownsRow base e size v n xs) :
    (Builtin.append_ #[t, t] ty #[v, .slice none 0 c]).run P w = .ok v w := by
  rcases hown.2 with ⟨rfl, rfl⟩ | ⟨g, cap, cur, rfl, _, _, hnc, _⟩
  · simp [Builtin.append_, run_underlying ht, sizeOf, typeInfo, hi, Builtin.lenOf, Builtin.firstCells]
  · simp [Builtin.append_, run_underlying ht, sizeOf, typeInfo, hi, Builtin.lenOf, Builtin.firstCells, hnc, storeCells]
theorem wpl_own_none_c {P : Program} {w : World} {ops : Array Oper} {rest : List Oper} {o : Oper} {a : Act} {Q : Exit → Act → World → Prop} (hgd : o.guard = none) (s x : Operand) (t : TypeId)
    (ho : o.op = .call { callee := .builtin .append, args := #[s, x], argTypes := #[t, t] })
    (base : Nat) (e : TypeId) (i : TypeInfo) (size : Nat) (ht : P.underlying t = some (.slice e)) (hi : P.info? e = some i)
    (v : Value) (n : Nat) (xs : List Value) (c : Nat) (hs : a.eval s = v) (hown : w.ownsRow base e size v n xs) (hx : a.eval x = .slice none 0 c)
    (h : wpList P ops Q rest (a.put o.dst v) w) : wpList P ops Q (o :: rest) a w := by
  refine wpList_plain hgd fun K hK => ?_
  have hrun := run_append_none_c (P := P) (w := w) base t o.type e i size ht hi v n xs c hown
  unfold Oper.wp
  simp [execOp, ho, resolve, invoke, builtin, hs, hx, hrun, Result.andThen]
  exact hK _ _ h
theorem wpl_append_rd2 {ops : Array Oper} {rest : List Oper} {o : Oper} {a : Act} {Q : Exit → Act → World → Prop} (w : World) (hgd : o.guard = none) (s x : Operand)
    (ho : o.op = .call { callee := .builtin .append, args := #[s, x], argTypes := #[44, 44] })
    (B : Nat) (v : Value) (xs : List Int) (hs : a.eval s = v) (hown : OwnI w B v xs) (A : Option Addr) (c : Nat) (ys : List Int) (hx : a.eval x = .slice A ys.length c)
    (hr : Rd eI 1 w w.heap.size A ys)
    (hl : xs.length + ys.length < 8796093022208) (hbase : B ≤ w.heap.size)
    (h : ∀ v' w', Grew w w' B v v' xs (xs ++ ys) → wpList Tryd.prog ops Q rest (a.put o.dst v') w') : wpList Tryd.prog ops Q (o :: rest) a w := by
  obtain ⟨i0, hi0, hz0, hz1, hz2⟩ := info_parts info_int
  cases A with
  | none =>
    have hy : ys = [] := by
      cases ys with
      | nil => rfl
      | cons y ys => obtain ⟨ad, e, _⟩ := hr 0 (by simp); cases e
    subst hy
    refine wpl_own_none_c hgd s x 44 ho B 3 i0 1 Tryd.underlying44 hi0 v xs.length _ c hs hown hx (h v w ⟨by simpa using hown, Below.refl _ _, fun _ _ _ hb _ => hb⟩)
  | some ad =>
    refine wpList_append_own w hgd s x 44 ho B 3 i0 (.int .i64 0) 1 8 Tryd.underlying44 hi0 hz0 hz1 hz2 rfl (by decide) v xs.length (xs.map (Value.int .i64)) hs hown ad ys.length c (ys.map (Value.int .i64)) hx (by simp)
      (fun j u hu => ?_) (fun u hu => by obtain ⟨z, _, rfl⟩ := List.mem_map.1 hu; rfl) (by simp only [maxLen]; omega) (by omega) hbase (fun v' w' h1 h2 _ => h v' w' ⟨?_, ?_, ?_⟩)
    · have hj : j < ys.length := by have := (List.getElem?_eq_some_iff.1 hu).1; simpa using this
      obtain ⟨ad', e, _, hc⟩ := hr.int j hj
      injection e with e
      subst e
      rw [hc, ← hu]
      simp [hj]
    · unfold OwnI
      rw [List.map_append, List.length_append]
      exact h1
    · exact (Below.refl _ _).grown h2 hbase (fun b hb => hown.blk b hb)
    · intro b t cs hb ht
      exact hb.grown h2 (hown.blk_ne hb ht)
end Go.Proofs.YtaooejidkeojjaaDoor.H
namespace Go.Proofs.YtaooejidkeojjaaDoor.H
open Go.RowKit
set_option linter.unusedVariables false
set_option linter.unusedSimpArgs false
theorem OwnI.start {w : World} {B : Nat} (hB : B ≤ w.heap.size) : OwnI (w.alloc (.cells #[] 3)) B (.slice (some ⟨w.heap.size, 0, none⟩) 0 0) [] :=
  ⟨by simp, .inr ⟨w.heap.size, 0, #[], rfl, hB, heap_alloc_new w _, Nat.le_refl _, by simp [maxLen], by simp, by simp⟩⟩
set_option maxRecDepth 100000 in
set_option maxHeartbeats 4000000 in
theorem clone_any (A : Addr) (c : Nat) (l : List Int) (w : World) (hr : Rd eI 1 w w.heap.size (some A) l) (hl : l.length < 8796093022208) :
    Calls Tryd.prog 63 #[.slice (some A) l.length c] w fun e w' => ∃ v, e = .returned v ∧ OwnI w' w.heap.size v l ∧ Below w.heap.size w w' := by
  have HR := Keep.mk hr
  clear hr
  obtain ⟨wb, hwb⟩ : ∃ wb : World, wb = w.alloc (.cells #[] 3) := ⟨_, rfl⟩
  have B0 : Keep (Below w.heap.size w wb) := ⟨by rw [hwb]; exact (Below.refl _ _).alloc (Nat.le_refl _) _⟩
  have O0 : Keep (OwnI wb w.heap.size (.slice (some ⟨w.heap.size, 0, none⟩) 0 0) []) := ⟨by rw [hwb]; exact OwnI.start (Nat.le_refl _)⟩
  have R0 := Keep.mk ((HR.out.below B0.out).mono B0.out.size)
  go_enter Tryd.func63, Tryd.ntmps63
  have heq := Lib.run_eql_slice_nil (P := Tryd.prog) w 44 3 (some A) l.length c 0 0 Tryd.underlying44
  simp at heq
  have HL := Keep.mk hl
  go_upto_region 3 with fail
  go_wp2_with (at_builtin; refine wpl_append_rd2 _ rfl (.tmp 5) (.tmp 6) rfl w.heap.size (.slice (some ⟨w.heap.size, 0, none⟩) 0 0) [] rfl ?c1 (some A) c l rfl ?c2 (by simpa using HL.out) ?c3 ?_)
  case c1 => rw [← hwb]; exact O0.out
  case c2 => rw [← hwb]; exact R0.out
  case c3 => rw [← hwb]; exact B0.out.size
  rw [← hwb]
  intro v' w1 hG
  have O1 := Keep.mk hG.own
  have B1 : Keep (Below w.heap.size w w1) := ⟨B0.out.trans hG.low⟩
  obtain ⟨A8, c8, e8, _⟩ := hG.own.open_
  subst e8
  clear hG
  go_wp2
  go_ret
  exact ⟨_, rfl, O1.out, B1.out⟩
structure Sta (w : World) (b : Nat) (gc gm gt : Nat) (s : StD) : Prop where
  blk : ∃ cc cm ct, Blk w b 89 #[.slice (some ⟨gc, 0, none⟩) s.core.length cc, .slice (some ⟨gm, 0, none⟩) s.core.length cm, .slice (some ⟨gt, 0, none⟩) s.led.length ct] ∧ s.core.length ≤ cc ∧ s.core.length ≤ cm ∧ s.led.length ≤ ct
  core : ∃ cs, Blk w gc 3 cs ∧ ∀ (i n : Nat), s.core[i]? = some n → cs[i]? = some (.int .i64 (n : Nat))
  mask : ∃ cs, Blk w gm 86 cs ∧ ∀ (i n : Nat), s.mask[i]? = some n → cs[i]? = some (.int .u64 (n : Nat))
  led : ∃ cs, Blk w gt 3 cs ∧ ∀ (i : Nat) (n : Int), s.led[i]? = some n → cs[i]? = some (.int .i64 n)
  len : s.mask.length = s.core.length
theorem joinTo_succ (a b : List Nat) (k : Nat) : joinTo a b (k + 1) = (joinTo a b k).set k ((joinTo a b k).getD k 0 ||| b.getD k 0) := by
  unfold joinTo
  rw [List.range_succ, List.foldl_append]; rfl
theorem joinTo_len (a b : List Nat) : ∀ k, (joinTo a b k).length = a.length := by
  intro k
  induction k with
  | zero => rfl
  | succ k ih => rw [joinTo_succ, List.length_set, ih]
theorem joinTo_later (a b : List Nat) : ∀ k i, k ≤ i → (joinTo a b k).getD i 0 = a.getD i 0 := by
  intro k
  induction k with
  | zero => intro i _; rfl
  | succ k ih =>
    intro i hi
    rw [joinTo_succ, List.getD_eq_getElem?_getD, List.getElem?_set, if_neg (by omega), ← List.getD_eq_getElem?_getD]
    exact ih i (by omega)
theorem joinB_succ (a b : List Nat) (k : Nat) : joinB a b (k + 1) = (joinB a b k || decide (a.getD k 0 ||| b.getD k 0 ≠ a.getD k 0)) := by
  unfold joinB
  rw [List.range_succ, List.any_append]; simp
def PreM (w : World) (g : Nat) (m : List Nat) : Prop := ∃ cs, Blk w g 86 cs ∧ ∀ (i n : Nat), m[i]? = some n → cs[i]? = some (.int .u64 (n : Nat))
theorem PreM.cell {w : World} {g : Nat} {m : List Nat} (h : PreM w g m) {i : Nat} (hi : i < m.length) : w.cell? ⟨g, i, none⟩ = some (.int .u64 (m.getD i 0 : Nat)) := by
  obtain ⟨cs, hb, hc⟩ := h
  rw [hb.cell i]
  refine hc i _ ?_
  rw [List.getD_eq_getElem?_getD, List.getElem?_eq_getElem hi]; rfl
theorem PreM.frozen {w : World} {g : Nat} {m : List Nat} (h : PreM w g m) (i : Nat) : w.frozen? ⟨g, i, none⟩ = false := by
  obtain ⟨cs, hb, hc⟩ := h
  exact hb.frozen i
theorem PreM.put {w : World} {g : Nat} {m : List Nat} (h : PreM w g m) {i : Nat} (hi : i < m.length) (v : Nat) : PreM (w.setCell ⟨g, i, none⟩ (.int .u64 (v : Nat))) g (m.set i v) := by
  obtain ⟨cs, hb, hc⟩ := h
  refine ⟨_, hb.set_ i _, fun j n hj => ?_⟩
  rw [List.getElem?_set] at hj
  rw [Array.getElem?_setIfInBounds]
  by_cases e : i = j
  · subst e
    rw [if_pos rfl, if_pos hi] at hj
    have hcs : i < cs.size := by
      have h0 := hc i m[i] (List.getElem?_eq_getElem hi)
      exact (Array.getElem?_eq_some_iff.1 h0).1
    rw [if_pos rfl, if_pos hcs, Option.some.inj hj]
  · rw [if_neg e] at hj
    rw [if_neg e]
    exact hc j n hj
theorem PreM.far {w : World} {g : Nat} {m : List Nat} (h : PreM w g m) {p : Addr} (hp : g ≠ p.block) (u : Value) : PreM (w.setCell p u) g m := by
  obtain ⟨cs, hb, hc⟩ := h
  exact ⟨cs, hb.far hp u, hc⟩
theorem PreM.drewN {w : World} {g : Nat} {m : List Nat} (h : PreM w g m) (n : Nat) : PreM (w.drewN n) g m := h
theorem joinTo_self (a : List Nat) : ∀ k, joinTo a a k = a := by
  intro k
  induction k with
  | zero => rfl
  | succ k ih =>
    rw [joinTo_succ, ih, Nat.or_self]
    refine List.ext_getElem? fun i => ?_
    rw [List.getElem?_set]
    split
    · rename_i e
      subst e
      split
      · rename_i h; rw [List.getD_eq_getElem?_getD, List.getElem?_eq_getElem h]; rfl
      · rename_i h; rw [List.getElem?_eq_none (by omega)]
    · rfl
theorem grownBy_set {w w' : World} {g : Nat} (h : w.grownBy w' (some g)) (i : Nat) (u : Value) : w.grownBy (w'.setCell ⟨g, i, none⟩ u) (some g) :=
  ⟨h.os, h.tape, h.output, by rw [World.size_setCell]; exact h.size, fun k hk hne => (Below.heap_setCell w' ⟨g, i, none⟩ u k (fun e => hne (by rw [e]))).trans (h.block k hk hne)⟩
theorem grownBy_drewN {w w' : World} {row : Option Nat} (h : w.grownBy w' row) (n : Nat) : w.grownBy (w'.drewN n) row := ⟨h.os, h.tape, h.output, h.size, h.block⟩
set_option maxRecDepth 100000 in
set_option maxHeartbeats 4000000 in
theorem joins_any (w : World) (b gm g2 : Nat) (ms m : List Nat) (cm c2 : Nat) (hq : w.cell? ⟨b, 1, none⟩ = some (.slice (some ⟨gm, 0, none⟩) ms.length cm)) (hbm : b ≠ gm) (hbl : b < w.heap.size) (h1 : PreM w gm ms) (h2 : PreM w g2 m)
    (hl : m.length = ms.length) (hb : ∀ y ∈ m, y < 2 ^ 64) (hb2 : ∀ y ∈ ms, y < 2 ^ 64) (hlen : m.length < 10000) (hne : g2 ≠ gm ∨ m = ms) :
    Calls Tryd.prog 62 #[.pointer (some ⟨b, 0, none⟩), .slice (some ⟨g2, 0, none⟩) m.length c2] w fun e w' => e = .returned (.bool (joinB ms m m.length)) ∧ PreM w' gm (joinM ms m) ∧ w.grownBy w' (some gm) := by
  have HB := Keep.mk hb
  have HB2 := Keep.mk hb2
  have HNE := Keep.mk hne
  have HL := Keep.mk hl
  have HJ : Keep (joinM ms m = joinTo ms m m.length) := ⟨rfl⟩
  generalize joinM ms m = JM at *
  have P1 : Keep (PreM w gm (joinTo ms m 0)) := ⟨h1⟩
  have P2 := Keep.mk h2
  have G0 : Keep (w.grownBy w (some gm)) := ⟨⟨rfl, rfl, rfl, Nat.le_refl _, fun _ _ _ => rfl⟩⟩
  clear hb hb2 hne hl h1 h2
  go_enter Tryd.func62, Tryd.ntmps62
  go_wp2
  go_loopg [5, 10] m.length (fun gg s5 s10 wr => ∃ k : Nat, k ≤ m.length ∧ m.length - k ≤ gg ∧ s10 = .int .i64 k ∧ s5 = .bool (joinB ms m k) ∧ Keep (PreM wr gm (joinTo ms m k)) ∧ Keep (PreM wr g2 m) ∧ Keep (w.grownBy wr (some gm)))
  case atStart => exact ⟨0, Nat.zero_le _, by omega, rfl, rfl, P1, P2, G0⟩
  case round =>
  clear P1 P2 G0
  obtain ⟨k, hk, hg, rfl, rfl, P1, P2, G⟩ := hrel
  by_cases hlt : k < m.length
  rotate_left
  · have ek : k = m.length := by omega
    subst ek
    clear hlt
    go_wp2
    go_ret
    exact ⟨rfl, by rw [HJ.out]; exact P1.out, G.out⟩
  have k0 : (0:Int) ≤ k := by omega
  have k1 : (k : Int) < m.length := by omega
  have k2 : (k : Int) < ms.length := by have := HL.out; omega
  have hkm : k < ms.length := by have := HL.out; omega
  have q1 : wr.cell? ⟨b, 1, none⟩ = some (.slice (some ⟨gm, 0, none⟩) ms.length cm) := by
    rw [← hq]
    unfold World.cell?
    rw [G.out.block b hbl (fun e => hbm (Option.some.inj e))]
  have c2' := P2.out.cell hlt
  have c1 := P1.out.cell (i := k) (by rw [joinTo_len]; exact hkm)
  rw [joinTo_later ms m k k (Nat.le_refl _)] at c1
  have f1 := P1.out.frozen k
  have HS := Keep.mk (joinTo_succ ms m k)
  rw [joinTo_later ms m k k (Nat.le_refl _)] at HS
  have hx := getD_lt HB2.out k
  have hy := getD_lt HB.out k
  have or1 := or64 _ _ hx hy
  have JB : Keep (joinB ms m (k + 1) = (joinB ms m k || ((ms.getD k 0 ||| m.getD k 0 : Nat) : Int) != (ms.getD k 0 : Int))) := ⟨by
    rw [joinB_succ]
    congr 1
    by_cases e : ms.getD k 0 ||| m.getD k 0 = ms.getD k 0
    · rw [e]; simp
    · rw [decide_eq_true e]; symm; rw [bne_iff_ne]; omega⟩
  have FIN : Keep (∀ W : World, PreM W gm (joinTo ms m k) → PreM W g2 m → w.grownBy W (some gm) → PreM (W.setCell ⟨gm, k, none⟩ (.int .u64 ((ms.getD k 0 ||| m.getD k 0 : Nat) : Int))) gm (joinTo ms m (k + 1)) ∧ PreM (W.setCell ⟨gm, k, none⟩ (.int .u64 ((ms.getD k 0 ||| m.getD k 0 : Nat) : Int))) g2 m ∧ w.grownBy (W.setCell ⟨gm, k, none⟩ (.int .u64 ((ms.getD k 0 ||| m.getD k 0 : Nat) : Int))) (some gm)) := ⟨fun W a1 a2 a3 => by
    refine ⟨by rw [HS.out]; exact a1.put (by rw [joinTo_len]; exact hkm) _, ?_, grownBy_set a3 _ _⟩
    by_cases e : g2 = gm
    · have em : m = ms := HNE.out.resolve_left (fun h => h e)
      subst e
      rw [em, Nat.or_self]
      have := a1.put (i := k) (by rw [joinTo_len]; exact hkm) (ms.getD k 0)
      rw [em, joinTo_self] at this
      have e2 : ms.set k (ms.getD k 0) = ms := by
        have := joinTo_succ ms ms k
        rw [joinTo_self, joinTo_self, Nat.or_self] at this
        exact this.symm
      rw [e2] at this
      exact this
    · exact a2.far e _⟩
  generalize hX : ms.getD k 0 = X at *
  generalize hY : m.getD k 0 = Y at *
  generalize X ||| Y = Z at *
  clear hx hy hX hY hq
  cases hJ : joinB ms m k with
  | true =>
    rw [hJ] at JB
    have JB2 : Keep (joinB ms m (k + 1) = true) := ⟨by rw [JB.out]; rfl⟩
    clear hJ JB
    go_wp2
    go_quiet (fail)
    have FT := FIN.out _ (P1.out.drewN nq) (P2.out.drewN nq) (grownBy_drewN G.out nq)
    have F1 := Keep.mk FT.1
    have F2 := Keep.mk FT.2.1
    have F3 := Keep.mk FT.2.2
    clear FT FIN
    go_wp2
    go_roundg (m.length - (k + 1))
    case measure => omega
    case rel => exact ⟨k + 1, by omega, by omega, by go_num, by rw [JB2.out], F1, F2, F3⟩
  | false =>
    rw [hJ, Bool.false_or] at JB
    clear hJ
    go_wp2
    go_quiet (fail)
    have FT := FIN.out _ (P1.out.drewN nq) (P2.out.drewN nq) (grownBy_drewN G.out nq)
    have F1 := Keep.mk FT.1
    have F2 := Keep.mk FT.2.1
    have F3 := Keep.mk FT.2.2
    clear FT FIN
    go_wp2
    go_roundg (m.length - (k + 1))
    case measure => omega
    case rel => exact ⟨k + 1, by omega, by omega, by go_num, by rw [JB.out], F1, F2, F3⟩
end Go.Proofs.YtaooejidkeojjaaDoor.H
namespace Go.Proofs.YtaooejidkeojjaaDoor.H
open Go.RowKit Go.Proofs.YtaooejidkeojjaaDoorW.PrintWords
set_option linter.unusedVariables false
set_option linter.unusedSimpArgs false
set_option maxRecDepth 100000
def QI (w : World) (B : Nat) (v : Value) (xs : List Int) : Prop := QRow w B 3 1 v xs.length (xs.map (Value.int .i64))
theorem QI.of_own {w : World} {B : Nat} {v : Value} {xs : List Int} (h : OwnI w B v xs) : QI w B v xs := q_of_own h
theorem QI.block {w : World} {B : Nat} {v : Value} {xs : List Int} (h : QI w B v xs) (k : Nat) (hk : v.ownBlock = some k) : B ≤ k ∧ k < w.heap.size ∧ ∃ cs, Blk w k 3 cs := by
  obtain ⟨h1, cells, h2⟩ := q_typed h k hk
  exact ⟨h1, q_lt h k hk, cells, h2⟩
theorem QI.move {w w' : World} {B : Nat} {v : Value} {xs : List Int} (h : QI w B v xs) (hm : ∀ k, v.ownBlock = some k → w'.heap[k]? = w.heap[k]?) : QI w' B v xs := q_move h hm
theorem QI.below {w w' : World} {B : Nat} {v : Value} {xs : List Int} (h : QI w B v xs) (hb : Below w.heap.size w w') : QI w' B v xs := h.move fun k hk => hb.block k (h.block k hk).2.1
theorem QI.far {w : World} {B g : Nat} {v : Value} {xs : List Int} {t : TypeId} {cs : Array Value} (h : QI w B v xs) (hg : Blk w g t cs) (ht : t ≠ 3) (i : Nat) (u : Value) : QI (w.setCell ⟨g, i, none⟩ u) B v xs := by
  refine h.move fun k hk => Below.heap_setCell w ⟨g, i, none⟩ u k fun e => ?_
  obtain ⟨_, _, cs', hc⟩ := h.block k hk
  have e' : k = g := e
  subst e'
  unfold Blk at hc hg
  rw [hc] at hg
  injection hg with hg
  injection hg with _ h2
  exact ht h2.symm
theorem QI.slice {w : World} {B : Nat} {v : Value} {xs : List Int} (h : QI w B v xs) : ∃ A c, v = .slice A xs.length c ∧ xs.length ≤ c := q_slice h
theorem QI.head {w : World} {B : Nat} {A : Option Addr} {n c : Nat} {x : Int} {xs : List Int} (h : QI w B (.slice A n c) (x :: xs)) : ∃ ad, A = some ad ∧ w.cell? ad = some (.int .i64 x) ∧ ad.spot = none := by
  unfold QI at h
  have hn : n = (x :: xs).length := by
    obtain ⟨A', c', e, _⟩ := q_slice h
    injection e
  subst hn
  rcases h.2 with ⟨h0, _⟩ | ⟨g, off, cap, cur, he, _⟩
  · simp at h0
  · obtain ⟨ad, ha, hc⟩ := q_cells h (by simp)
    injection he with he1
    rw [ha] at he1
    injection he1 with he1
    refine ⟨ad, ha, ?_, by rw [he1]⟩
    have := hc 0 (.int .i64 x) rfl
    rw [he1] at this ⊢
    rw [add_at] at this
    simpa using this
theorem QI.tail {w : World} {B : Nat} {A : Option Addr} {n c : Nat} {x : Int} {xs : List Int} (h : QI w B (.slice A n c) (x :: xs)) : n = xs.length + 1 ∧ n ≤ c ∧ QI w B (.slice (if c = 1 then A else A.map (·.add 1)) xs.length (c - 1)) xs := by
  unfold QI at h
  have hn : n = (x :: xs).length ∧ n ≤ c := by
    obtain ⟨A', c', e, h1⟩ := q_slice h
    injection e with _ e1 e2
    exact ⟨e1, by omega⟩
  obtain ⟨hn, hc⟩ := hn
  subst hn
  refine ⟨rfl, hc, ?_⟩
  have := q_drop (k := 1) h (by simp)
  unfold QI
  simpa using this
theorem wpl_append_q {ops : Array Oper} {rest : List Oper} {o : Oper} {a : Act} {Q : Exit → Act → World → Prop} (w : World) (hgd : o.guard = none) (s x : Operand)
    (ho : o.op = .call { callee := .builtin .append, args := #[s, x], argTypes := #[44, 44] })
    (B : Nat) (v : Value) (xs : List Int) (hs : a.eval s = v) (hown : QI w B v xs) (A : Addr) (c : Nat) (ys : List Int) (hx : a.eval x = .slice (some A) ys.length c)
    (hr : Rd eI 1 w w.heap.size (some A) ys) (hne : 0 < ys.length)
    (hl : xs.length + ys.length < 8796093022208) (hbase : B ≤ w.heap.size)
    (h : ∀ v' w', QI w' B v' (xs ++ ys) → Below B w w' → (∀ g t cs, Blk w g t cs → t ≠ 3 → Blk w' g t cs) → w.grownBy w' v.ownBlock → wpList Tryd.prog ops Q rest (a.put o.dst v') w') : wpList Tryd.prog ops Q (o :: rest) a w := by
  obtain ⟨i0, hi0, hz0, hz1, hz2⟩ := info_parts info_int
  obtain ⟨v', w', hrun, hq, hg, _⟩ := q_append (P := Tryd.prog) w B 44 o.type 3 i0 (.int .i64 0) 1 8 Tryd.underlying44 hi0 hz0 hz1 hz2 rfl (by decide) v xs.length (xs.map (Value.int .i64)) hown A ys.length c (ys.map (Value.int .i64)) (by simp)
    (fun j u hu => by
      have hj : j < ys.length := by have := (List.getElem?_eq_some_iff.1 hu).1; simpa using this
      obtain ⟨ad', e, _, hc⟩ := hr.int j hj
      injection e with e
      subst e
      rw [hc, ← hu]
      simp [hj]) (fun u hu => by obtain ⟨z, _, rfl⟩ := List.mem_map.1 hu; rfl) hne (by simp only [maxLen]; omega) (by omega) hbase
  refine wpList_plain hgd fun K hK => ?_
  unfold Oper.wp execOp
  simp only [ho, resolve, invoke, builtin, Sem.run_bind, Sem.run_pure, Result.andThen_ok, List.map_toArray, List.map_cons, List.map_nil, hs, hx, hrun]
  refine hK _ _ (h v' w' ?_ ((Below.refl _ _).grown hg hbase (fun b hb => (hown.block b hb).1)) (fun g t cs hb ht => hb.grown hg fun e => ?_) hg)
  · unfold QI
    rw [List.map_append, List.length_append]
    exact hq
  · obtain ⟨_, _, cs', hc⟩ := hown.block g e.symm
    unfold Blk at hb hc
    rw [hc] at hb
    injection hb with hb
    injection hb with _ h2
    exact ht h2.symm
end Go.Proofs.YtaooejidkeojjaaDoor.H
namespace Go.Proofs.YtaooejidkeojjaaDoor.H
open Go.RowKit Go.Proofs.YtaooejidkeojjaaDoorW.PrintWords
set_option linter.unusedVariables false
set_option linter.unusedSimpArgs false
set_option maxRecDepth 100000
theorem info_looks : (Tryd.prog.info? 86).map (fun i => (i.zero, i.size, i.bytes)) = some (some (.int .u64 0), 1, 8) := by kernel_rfl
theorem zero_int (w : World) : (zeroValue 3).run Tryd.prog w = .ok (.int .i64 0) w := by kernel_rfl
def ints_ (l : List Nat) : List Int := l.map fun n : Nat => (n : Int)
theorem ints_len (l : List Nat) : (ints_ l).length = l.length := by simp [ints_]
structure ClW (w wr : World) (gO : Nat) (v : Value) (u : Cs) : Prop where
  b : Below w.heap.size w wr
  o : Blk wr gO 86 (u64s u.out)
  q : QI wr w.heap.size v (ints_ u.todo)
  ge : w.heap.size ≤ gO
theorem ClW.below {w wr w9 : World} {gO : Nat} {v : Value} {u : Cs} (k : ClW w wr gO v u) (hb : Below wr.heap.size wr w9) : ClW w w9 gO v u := ⟨below_step k.b hb k.b.size, k.o.below hb k.o.lt, k.q.below hb, k.ge⟩
theorem ClW.set {w wr : World} {gO : Nat} {v : Value} {u : Cs} (k : ClW w wr gO v u) (i y : Nat) : ClW w (wr.setCell ⟨gO, i, none⟩ (.int .u64 (y : Nat))) gO v ⟨u.out.set i y, u.todo⟩ := by
  refine ⟨k.b.setCell k.ge _, ?_, k.q.far k.o (by decide) i _, k.ge⟩
  have := k.o.set_ i (.int .u64 (y : Nat))
  rwa [u64s_set] at this
theorem u64s_getD {w : World} {g : Nat} {t : TypeId} {l : List Nat} (h : Blk w g t (u64s l)) {i : Nat} (hi : i < l.length) : w.cell? ⟨g, i, none⟩ = some (.int .u64 (l.getD i 0 : Nat)) := by rw [h.cell i, u64s_at l i hi]
theorem nSp_le {x : Mx} (hx : MxOk x) : nSp x.g ≤ 600 := by
  have key : ∀ p, p ≤ x.g.ps.length + 1 → offS x.g p ≤ 9 * p := by
    intro p
    induction p with
    | zero => intro _; exact Nat.le_refl _
    | succ p ih =>
      intro hp
      have h1 := ih (by omega)
      have h2 := bodyX_le hx p (by omega)
      show offS x.g p + (bodyX x.g p).length + 1 ≤ 9 * (p + 1)
      omega
  have h1 := key (x.g.ps.length + 1) (Nat.le_refl _)
  have h2 := hx.ok.n1
  unfold nSp
  omega
set_option maxRecDepth 100000 in
set_option maxHeartbeats 8000000 in
theorem close_tab (x : Mx) (hx : MxOk x) (b gc gm : Nat) (core mask : List Nat) (cc cm : Nat) (w : World) (hw : Mk x w) (hst : StOk x.g core mask) (h0 : w.cell? ⟨b, 0, none⟩ = some (.slice (some ⟨gc, 0, none⟩) core.length cc)) (h1 : w.cell? ⟨b, 1, none⟩ = some (.slice (some ⟨gm, 0, none⟩) mask.length cm))
    (hcr : ∀ i n, core[i]? = some n → w.cell? ⟨gc, i, none⟩ = some (.int .i64 (n : Nat))) (hm : PreM w gm mask) (hbl : b < w.heap.size) (hgc : gc < w.heap.size) (hcc : core.length ≤ cc) (hne : 0 < core.length) :
    Calls Tryd.prog 57 #[.pointer (some ⟨x.mB, 0, none⟩), .pointer (some ⟨b, 0, none⟩)] w fun e w' => ∃ gO, e = .returned (.slice (some ⟨gO, 0, none⟩) (nSp x.g) (nSp x.g)) ∧ Blk w' gO 86 (u64s (closeM x.g x.F core mask)) ∧ w.heap.size ≤ gO ∧ Below w.heap.size w w' := by
  have HM := Keep.mk hw
  have HST := Keep.mk hst
  have HC := Keep.mk hcr
  have HP := Keep.mk hm
  have HX := Keep.mk hx
  have hns := nSp_le hx
  have hcl : core.length ≤ nSp x.g := by
    have := nodup_sub core (List.range (nSp x.g)) hst.nd fun n hn => List.mem_range.2 (hst.lt n hn)
    rwa [List.length_range] at this
  have KN := Keep.mk fun W (hW : Below w.heap.size w W) n hn => next_tab x hx n hn W (hw.below hW)
  have HRES : Keep (closeM x.g x.F core mask = clEnd x.g x.F ⟨clOut0 x.g core mask core.length, core⟩) := ⟨rfl⟩
  generalize closeM x.g x.F core mask = RES at *
  have RC : Keep (Rd eI 1 w w.heap.size (some ⟨gc, 0, none⟩) (ints_ core)) := ⟨fun i hi => by
    rw [ints_len] at hi
    refine ⟨_, rfl, hgc, fun j u hj => ?_⟩
    cases j with
    | zero =>
      have hu : Value.int .i64 ((core[i] : Nat) : Int) = u := by simpa [eI, ints_] using hj
      have := hcr i core[i] (List.getElem?_eq_getElem hi)
      rw [← hu, ← this]
      congr 1
      simp [Addr.add]
      intro e
      exact e.symm
    | succ j => simp [eI] at hj⟩
  have q6 := hw.c6
  have hmk := @run_make_row' Tryd.prog 77 86 (.int .u64 0) 8 Tryd.underlying77 info_looks rfl .i64 .i64 (nSp x.g) (by omega) (by omega)
  simp only [madeCells_u64s] at hmk
  have KC := Keep.mk fun W (hW : Below w.heap.size w W) => clone_any ⟨gc, 0, none⟩ cc (ints_ core) W ((RC.out.below hW).mono hW.size) (by rw [ints_len]; omega)
  rw [ints_len] at KC
  clear hw hst hcr hm hx
  go_enter Tryd.func57, Tryd.ntmps57
  go_upto_region 2 with fail
  obtain ⟨W0, hW0⟩ : ∃ W0 : World, W0 = w.alloc (.cells (u64s (List.replicate (nSp x.g) 0)) 86) := ⟨_, rfl⟩
  rw [← hW0]
  have B0 : Keep (Below w.heap.size w W0) := ⟨by rw [hW0]; exact (Below.refl _ _).alloc (Nat.le_refl _) _⟩
  have O0 : Keep (Blk W0 w.heap.size 86 (u64s (List.replicate (nSp x.g) 0))) := ⟨by rw [hW0]; exact Blk.new _ _ _⟩
  obtain ⟨gO, hgO⟩ : ∃ g, g = w.heap.size := ⟨_, rfl⟩
  have HGO := Keep.mk hgO
  rw [← hgO] at O0 ⊢
  clear hW0 hmk q6 hgO
  have h0' := cell_below h0 B0.out hbl
  go_wp2_with fail
  refine (KC.out _ B0.out).mono ?_
  rintro e w1 ⟨v, rfl, ho, hb⟩
  have I0 : Keep (ClW w w1 gO v ⟨clOut0 x.g core mask 0, core⟩) := ⟨⟨below_step B0.out hb B0.out.size, O0.out.below hb O0.out.lt, (QI.of_own ho).move (fun _ _ => rfl) |> fun h => by
      have hB : w.heap.size ≤ W0.heap.size := B0.out.size
      exact q_lower h hB, by rw [HGO.out]; exact Nat.le_refl _⟩⟩
  clear KC O0 hb ho h0'
  have h0' := cell_below h0 I0.out.b hbl
  have c0 : (0:Int) ≤ core.length := by omega
  go_wp2_with fail
  go_loopg [32] core.length (fun gg s32 wr => ∃ k : Nat, k ≤ core.length ∧ core.length - k ≤ gg ∧ s32 = .int .i64 k ∧ Keep (ClW w wr gO v ⟨clOut0 x.g core mask k, core⟩))
  case atStart => exact ⟨0, Nat.zero_le _, by omega, rfl, I0⟩
  case round =>
  clear I0 h0'
  obtain ⟨k, hk, hg, rfl, I⟩ := hrel
  by_cases hlt : k < core.length
  · have k0 : (0:Int) ≤ k := by omega
    have k1 : (k : Int) < core.length := by omega
    have k2 : (k : Int) < mask.length := by have := HST.out.l; omega
    have ck := cell_below (HC.out k core[k] (List.getElem?_eq_getElem hlt)) I.out.b hgc
    have h1' := cell_below h1 I.out.b hbl
    have mk' : wr.cell? ⟨gm, k, none⟩ = some (.int .u64 (mask.getD k 0 : Nat)) := by
      have hk' : k < mask.length := by have := HST.out.l; omega
      exact cell_below (HP.out.cell hk') I.out.b (by obtain ⟨cs, hb, _⟩ := HP.out; exact hb.lt)
    have hn : core[k] < nSp x.g := HST.out.lt _ (List.getElem_mem hlt)
    have I2 : Keep (ClW w (wr.setCell ⟨gO, core[k], none⟩ (.int .u64 (mask.getD k 0 : Nat))) gO v ⟨clOut0 x.g core mask (k + 1), core⟩) := ⟨by
      have e : core.getD k 0 = core[k] := by rw [List.getD_eq_getElem?_getD, List.getElem?_eq_getElem hlt]; rfl
      have := I.out.set core[k] (mask.getD k 0)
      rw [clOut0_succ, e]
      exact this⟩
    have co := u64s_getD I.out.o (i := core[k]) (by rw [clOut0_len]; exact hn)
    have fo := I.out.o.frozen core[k]
    generalize core[k] = n at *
    have n0 : (0:Int) ≤ n := by omega
    have n1 : (n : Int) < nSp x.g := by omega
    clear I
    go_wp2
    go_roundg (core.length - (k + 1))
    case measure => omega
    case rel => exact ⟨k + 1, by omega, by omega, by go_num, I2⟩
  have ek : k = core.length := by omega
  subst ek
  have C0 := Keep.mk (close0_I (F := x.F) HST.out)
  have kF := Keep.mk HX.out.fb
  have I1 : Keep (ClW w wr gO v ⟨clOut0 x.g core mask core.length, core⟩) := I
  have OK0 := Keep.mk C0.out.ok
  clear I hlt C0
  go_wp2
  have MU := Keep.mk (Nat.le_refl (clMu ⟨clOut0 x.g core mask core.length, core⟩))
  have U0B : Keep (clMu ⟨clOut0 x.g core mask core.length, core⟩ ≤ 100000) := ⟨by
    have a1 := lack_le (clOut0 x.g core mask core.length)
    rw [clOut0_len] at a1
    unfold clMu
    dsimp only
    omega⟩
  generalize hu0 : (⟨clOut0 x.g core mask core.length, core⟩ : Cs) = u0 at *
  clear hu0
  go_loopg [6] (clMu u0) (fun gg s6 wr => ∃ u : Cs, clMu u ≤ gg ∧ Keep (ClW w wr gO s6 u) ∧ Keep (CsOk x.g u) ∧ Keep (clEnd x.g x.F u = RES) ∧ Keep (clMu u ≤ 100000))
  case atStart => exact ⟨u0, Nat.le_refl _, I1, OK0, ⟨HRES.out.symm⟩, U0B⟩
  case round =>
  clear I1 OK0 MU U0B
  obtain ⟨u, hmu, I, OK, FI, UB⟩ := hrel
  obtain ⟨out, todo⟩ := u
  obtain ⟨A6, c6, e6, l6⟩ := I.out.q.slice
  rw [ints_len] at e6 l6
  dsimp only at e6 l6
  subst e6
  cases todo with
  | nil =>
    have E : Keep (RES = out) := ⟨by rw [← FI.out]; exact clEnd_done rfl⟩
    go_wp2
    go_ret
    refine ⟨gO, rfl, by rw [E.out]; exact I.out.o, by rw [HGO.out]; exact Nat.le_refl _, I.out.b⟩
  | cons n rest =>
  have MU2 := Keep.mk (clStep_ok kF.out OK.out (by simp)).2
  have UB2 : Keep (clMu (clStep x.g x.F ⟨out, n :: rest⟩) ≤ 100000) := ⟨by have := MU2.out; have := UB.out; omega⟩
  have ES : Keep (clEnd x.g x.F (clStep x.g x.F ⟨out, n :: rest⟩) = RES) := ⟨by rw [← clEnd_step kF.out OK.out (by simp)]; exact FI.out⟩
  have OK2 := Keep.mk (clStep_ok kF.out OK.out (by simp)).1
  have hn : n < nSp x.g := OK.out.t n List.mem_cons_self
  have OKL : Keep (out.length = nSp x.g) := ⟨OK.out.l⟩
  have OKB : Keep (∀ y ∈ out, y < 2 ^ 64) := ⟨OK.out.b⟩
  have OKT : Keep (∀ y ∈ rest, y < nSp x.g) := ⟨fun y hy => OK.out.t y (List.mem_cons_of_mem _ hy)⟩
  have hq := I.out.q
  have eints : ints_ (n :: rest) = (n : Int) :: ints_ rest := rfl
  dsimp only at hq
  rw [eints] at hq
  obtain ⟨ad, rfl, hcell, hspot⟩ := hq.head
  obtain ⟨_, hcap, hqt⟩ := hq.tail
  rw [ints_len] at hqt
  have hcl6 : rest.length + 1 ≤ c6 := by simpa using l6
  have hlen : (0 : Int) < ((rest.length + 1 : Nat) : Int) := by omega
  have NXr := nextS_lt HX.out.ok n
  generalize hL : (n :: rest).length = L at *
  have hL2 : L = rest.length + 1 := by rw [← hL]; rfl
  have hLn : 0 < L := by omega
  have hLi : (0 : Int) < (L : Int) := by omega
  have hLc : L ≤ c6 := by omega
  have LL := Keep.mk hL2
  clear hL hL2 hlen hcl6 l6 eints
  go_upto_region 11 with fail
  have hq2 : QI wr w.heap.size (.slice (if c6 = 1 then some ad else some ⟨ad.block, ad.off + 1, none⟩) (ints_ rest).length (c6 - 1)) (ints_ rest) := by
    have e : (if c6 = 1 then some ad else (some ad).map (·.add 1)) = (if c6 = 1 then some ad else some ⟨ad.block, ad.off + 1, none⟩) := by
      obtain ⟨a1, a2, a3⟩ := ad
      have a3' : a3 = none := hspot
      subst a3'
      split
      · rfl
      · simp [Addr.add]
    rw [e] at hqt
    rw [ints_len]
    exact hqt
  obtain ⟨vr, hvr⟩ : ∃ vr : Value, vr = (.slice (if c6 = 1 then some ad else some ⟨ad.block, ad.off + 1, none⟩) (ints_ rest).length (c6 - 1)) := ⟨_, rfl⟩
  rw [← hvr] at hq2 ⊢
  have IR : Keep (ClW w wr gO vr ⟨out, rest⟩) := ⟨I.out.b, I.out.o, hq2, I.out.ge⟩
  clear hq2 hq hqt hvr I hcell hspot hcap LL hLn hLi hLc OK
  go_wp2_with fail
  refine (KN.out _ IR.out.b n hn).mono ?_
  rintro e w2 ⟨rfl, hb⟩
  have I2 := Keep.mk (IR.out.below hb)
  clear IR hb
  have hM2 := HM.out.below I2.out.b
  have m0 := hM2.c0
  have ESd : Keep (clStep x.g x.F ⟨out, n :: rest⟩ = if nextS x.g n < x.g.T then ⟨out, rest⟩ else (List.range x.g.ps.length).foldl (clIn x.g (nextS x.g n) (clThen x.g x.F out n)) ⟨out, rest⟩) := ⟨rfl⟩
  have HN1 : Keep (¬ nextS x.g n < x.g.T → n + 1 < nSp x.g) := ⟨fun hT => by
    rcases nextS_cases hn with ⟨p, hp, e1, e2⟩ | ⟨p, d, hp, hd, e1, e2⟩
    · have := HX.out.ok.t0; omega
    · rw [e1]; exact off_lt (d := d + 1) hp hd⟩
  have HTH : Keep (clThen x.g x.F out n = if 0 ≤ nextS x.g (n + 1) then gn x.F (nextS x.g (n + 1)) else out.getD n 0) := ⟨rfl⟩
  have HOL : Keep (out.length = nSp x.g) := ⟨by
    have := I2.out.o; exact OKL.out⟩
  have HNS : Keep (-1 ≤ nextS x.g (n + 1) ∧ nextS x.g (n + 1) < x.g.S) := ⟨nextS_lt HX.out.ok _⟩
  generalize hSY : nextS x.g n = SY at *
  by_cases hT : SY < x.g.T
  · have U : Keep (clStep x.g x.F ⟨out, n :: rest⟩ = ⟨out, rest⟩) := ⟨by rw [ESd.out, if_pos hT]⟩
    clear hM2
    go_wp2
    go_roundg (clMu (clStep x.g x.F ⟨out, n :: rest⟩))
    case measure => have := MU2.out; omega
    case rel => exact ⟨_, Nat.le_refl _, by rw [U.out]; exact I2, OK2, ES, UB2⟩
  have n1lt := HN1.out hT
  have U : Keep (clStep x.g x.F ⟨out, n :: rest⟩ = (List.range x.g.ps.length).foldl (clIn x.g SY (clThen x.g x.F out n)) ⟨out, rest⟩) := ⟨by rw [ESd.out, if_neg hT]⟩
  have hTl := clThen_lt (g := x.g) HX.out.fb OKB.out n
  have CO := u64s_getD I2.out.o (i := n) (by rw [OKL.out]; exact hn)
  have n0 : (0:Int) ≤ n := by omega
  have n2 : (n : Int) < nSp x.g := by omega
  have w1 : IntKind.i64.wrap ((n : Int) + 1) = ((n + 1 : Nat) : Int) := by rw [IntKind.wrap_i64]; omega
  have KN1 := Keep.mk fun W (hW : Below w.heap.size w W) => KN.out W hW (n + 1) n1lt
  have HTL := Keep.mk hTl
  generalize hthen : clThen x.g x.F out n = TH at *
  have hSN : x.g.S.toNat = x.F.length := HX.out.fl.symm
  have hFL : Keep (x.g.S = (x.F.length : Int)) := ⟨by have := HX.out.ok.s0; have := HX.out.ok.t0; omega⟩
  generalize nextS x.g (n + 1) = BH at *
  generalize out.getD n 0 = OV at *
  generalize n + 1 = n1 at *
  clear ESd HN1 hTl hM2 hSN
  go_wp2_with fail
  refine (KN1.out _ I2.out.b).mono ?_
  rintro e w3 ⟨rfl, hb⟩
  have I3 := Keep.mk (I2.out.below hb)
  clear I2 hb CO m0 KN1
  go_upto_if 75 with fail
  go_cut [11] (fun s11 wx => s11 = .int .u64 (TH : Nat) ∧ wx = w3)
  case first =>
    by_cases hBH : 0 ≤ BH
    · have ETH : Keep (TH = gn x.F BH) := ⟨by rw [HTH.out, if_pos hBH]⟩
      have hM3 := HM.out.below I3.out.b
      have m4 := hM3.c4
      have b1 : BH < (x.F.length : Int) := by have := HNS.out.2; have := hFL.out; omega
      have cF : w3.cell? ⟨x.gF, BH.toNat, none⟩ = some (.int .u64 (gn x.F BH : Nat)) := by
        have := u64s_getD hM3.f (i := BH.toNat) (by omega)
        exact this
      rw [← ETH.out] at cF
      clear hM3 ETH HTH
      go_wp2_with fail
      go_meet
      exact ⟨rfl, rfl⟩
    · have ETH : Keep (OV = TH) := ⟨by rw [HTH.out, if_neg hBH]⟩
      clear HTH
      go_wp2_with fail
      go_meet
      exact ⟨by rw [ETH.out], rfl⟩
  case rest =>
  obtain ⟨rfl, rfl⟩ := hcut
  have hM3 := HM.out.below I3.out.b
  have m3 := hM3.c3
  obtain ⟨ad0, hA0⟩ : ∃ ad0, x.A = some ad0 := by
    obtain ⟨ad0, _, _, e, _⟩ := HM.out.rp 0 HX.out.ok.n0
    exact ⟨ad0, e⟩
  rw [hA0] at m3
  have HA0 := Keep.mk hA0
  clear hA0 hM3
  go_wp2
  have J0 : Keep (ClW w wc gO vr ((List.range 0).foldl (clIn x.g SY TH) ⟨out, rest⟩)) := I3
  have K0 : Keep (CsOk x.g ⟨out, rest⟩) := ⟨OKL.out, OKB.out, OKT.out⟩
  clear I3 m3
  go_loopg [6, 89] x.g.ps.length (fun gg s6 s89 wr => ∃ p : Nat, p ≤ x.g.ps.length ∧ x.g.ps.length - p ≤ gg ∧ s89 = .int .i64 p ∧ Keep (ClW w wr gO s6 ((List.range p).foldl (clIn x.g SY TH) ⟨out, rest⟩)))
  case atStart => exact ⟨0, Nat.zero_le _, by omega, rfl, J0⟩
  case round =>
  clear J0
  obtain ⟨p, hp, hgp, rfl, I⟩ := hrel
  by_cases hpl : p < x.g.ps.length
  rotate_left
  · have ep : p = x.g.ps.length := by omega
    have I2 : Keep (ClW w wr gO u6 (clStep x.g x.F ⟨out, n :: rest⟩)) := ⟨by rw [U.out, ← ep]; exact I.out⟩
    have c1 : ¬ ((p : Int) < x.g.ps.length) := by omega
    clear I ep hpl
    go_wp2
    go_roundg (clMu (clStep x.g x.F ⟨out, n :: rest⟩))
    case measure => have := MU2.out; omega
    case rel => exact ⟨_, Nat.le_refl _, I2, OK2, ES, UB2⟩
  have SS : Keep ((List.range (p + 1)).foldl (clIn x.g SY TH) ⟨out, rest⟩ = clIn x.g SY TH ((List.range p).foldl (clIn x.g SY TH) ⟨out, rest⟩) p) := ⟨by rw [List.range_succ, List.foldl_append]; rfl⟩
  have KM : Keep (clMu ((List.range p).foldl (clIn x.g SY TH) ⟨out, rest⟩) ≤ clMu ⟨out, n :: rest⟩) := ⟨Nat.le_trans (clAll_ok (sym := SY) HTL.out (List.range p) (fun q hq => by have := List.mem_range.1 hq; omega) ⟨out, rest⟩ K0.out).2 (by unfold clMu; simp)⟩
  have KP := Keep.mk (clAll_ok (sym := SY) HTL.out (List.range p) (fun q hq => by have := List.mem_range.1 hq; omega) ⟨out, rest⟩ K0.out).1
  generalize (List.range p).foldl (clIn x.g SY TH) ⟨out, rest⟩ = u at I SS KP KM
  obtain ⟨o1, t1⟩ := u
  have p0 : (0:Int) ≤ p := by omega
  have p1 : (p : Int) < x.g.ps.length := by omega
  have hn64 := HX.out.ok.n1
  obtain ⟨ad, Ab, cb, hA, hb, c0, c1, c2, hlb, hrb⟩ := HM.out.rp p hpl
  have hl0 := HM.out.l0
  have na : (ad.add (p * 3)).block < w.heap.size := by rw [add_block]; omega
  replace c0 := cell_below c0 I.out.b na
  replace c1 := cell_below c1 I.out.b na
  replace c2 := cell_below c2 I.out.b na
  have eh : headAt x.g p = x.g.ps[p].head := headAt_get hpl
  have EA : ad0 = ad := by have := HA0.out; rw [this] at hA; exact Option.some.inj hA
  subst EA
  clear hrb hlb hA hb hl0
  generalize x.g.ps[p] = pr at *
  obtain ⟨hd, bd, rt⟩ := pr
  dsimp only at *
  obtain ⟨wb, hwb⟩ : ∃ wb : World, wb = wr.alloc (.cells #[.int .i64 hd, .slice Ab bd.length cb, .bool rt] 49) := ⟨_, rfl⟩
  have I1 : Keep (ClW w wb gO u6 ⟨o1, t1⟩) := ⟨by rw [hwb]; exact I.out.below ((Below.refl _ _).alloc (Nat.le_refl _) _)⟩
  have BY : Keep (Blk wb wr.heap.size 49 #[.int .i64 hd, .slice Ab bd.length cb, .bool rt]) := ⟨by rw [hwb]; exact Blk.new _ _ _⟩
  have hM3 := HM.out.below I.out.b
  have m5 := (HM.out.below I1.out.b).c5
  have m3 := hM3.c3
  rw [HA0.out] at m3
  go_upto_region 20 with fail
  rw [← hwb]
  have y0 := BY.out.cell 0
  simp at y0
  have LK : (Instr.lookup 78 (.map (some x.nB)) (.agg #[.int .i64 (p : Nat), .int .i64 0]) false).run Tryd.prog wb = .ok (.int .i64 (offS x.g p : Nat)) wb := by
    have := (HM.out.below I1.out.b).nm.look spot_law Tryd.underlying78 Tryd.underlying3 (zero_int _) (p, 0) ⟨i64_small (by show (-1:Int) ≤ (p : Int); omega) (by show (p : Int) ≤ 1073741825; have := HX.out.ok.n1; omega), i64_small (by show (-1:Int) ≤ ((0:Nat):Int); omega) (by show ((0:Nat):Int) ≤ 1073741825; omega)⟩
    have e : numOf x.g (p, 0) = some ((offS x.g p : Nat) : Int) := if_pos ⟨Nat.le_of_lt hpl, Nat.zero_le _⟩
    rw [e] at this
    exact this
  have hk := off_head hpl
  have CK := u64s_getD I1.out.o (i := offS x.g p) (by rw [KP.out.l]; exact hk)
  have FK := I1.out.o.frozen (offS x.g p)
  have or1 := or64 _ _ (getD_lt KP.out.b (offS x.g p)) HTL.out
  have CI : Keep (clIn x.g SY TH ⟨o1, t1⟩ p = if hd = SY ∧ o1.getD (offS x.g p) 0 ||| TH ≠ o1.getD (offS x.g p) 0 then ⟨o1.set (offS x.g p) (o1.getD (offS x.g p) 0 ||| TH), t1 ++ [offS x.g p]⟩ else ⟨o1, t1⟩) := ⟨by unfold clIn; rw [eh]⟩
  generalize offS x.g p = k at *
  generalize hOK : o1.getD k 0 = OK1 at *
  generalize hZ : OK1 ||| TH = Z at *
  have k0 : (0:Int) ≤ k := by omega
  have k1 : (k : Int) < nSp x.g := by omega
  clear hwb c0 c1 c2 m3 hM3 I eh na
  go_upto_region 21 with fail
  by_cases hc : hd = SY ∧ Z ≠ OK1
  · have E2 : Keep ((List.range (p + 1)).foldl (clIn x.g SY TH) ⟨out, rest⟩ = ⟨o1.set k Z, t1 ++ [k]⟩) := ⟨by rw [SS.out, CI.out, if_pos hc]⟩
    have t1' : ((hd : Int) == SY) = true := by simp [hc.1]
    have t2' : ((Z : Int) != (OK1 : Int)) = true := by rw [bne_iff_ne]; have := hc.2; omega
    clear hc
    go_cut [117] (fun s117 wx => s117 = .bool true ∧ ∃ m, wx = wb.drewN m)
    case first =>
      go_quiet (fail)
      go_wp2_with fail
      go_meet
      exact ⟨rfl, _, rfl⟩
    case rest =>
    obtain ⟨rfl, m, hwc⟩ := hcut
    have I3 : Keep (ClW w wc gO u6 ⟨o1, t1⟩) := ⟨by rw [hwc]; exact I1.out.below (below_drewN (Below.refl _ _) m)⟩
    have CK' : wc.cell? ⟨gO, k, none⟩ = some (.int .u64 (OK1 : Nat)) := by rw [hwc]; exact CK
    have FK' := I3.out.o.frozen k
    obtain ⟨wd, rfl⟩ : ∃ wd : World, wd = wc := ⟨_, rfl⟩
    clear hwc I1 BY CK FK y0 m5 LK
    have I4 := Keep.mk (I3.out.set k Z)
    have hlt : (ints_ t1).length + 1 < 8796093022208 := by
      rw [ints_len]
      have a1 := KM.out
      have a2 : t1.length ≤ clMu ⟨o1, t1⟩ := by unfold clMu; simp
      have a3 := UB.out
      omega
    go_upto_region 23 with fail
    obtain ⟨we, hwe⟩ : ∃ we : World, we = wd.setCell ⟨gO, k, none⟩ (.int .u64 (Z : Nat)) := ⟨_, rfl⟩
    rw [← hwe] at I4 ⊢
    clear hwe
    have SZ : Keep (w.heap.size ≤ we.heap.size) := ⟨I4.out.b.size⟩
    obtain ⟨wf, hwf⟩ : ∃ wf : World, wf = we.alloc (.cells #[.int .i64 (k : Nat)] 3) := ⟨_, rfl⟩
    have I5 : Keep (ClW w wf gO u6 ⟨o1.set k Z, t1⟩) := ⟨by rw [hwf]; exact I4.out.below ((Below.refl _ _).alloc (Nat.le_refl _) _)⟩
    have RK : Keep (Rd eI 1 wf wf.heap.size (some ⟨we.heap.size, 0, none⟩) [(k : Int)]) := ⟨by
      have hb : Blk wf we.heap.size 3 #[.int .i64 (k : Nat)] := by rw [hwf]; exact Blk.new _ _ _
      intro i hi
      refine ⟨_, rfl, hb.lt, fun j u hj => ?_⟩
      obtain rfl : i = 0 := by simpa using hi
      cases j with
      | zero =>
        have hu : Value.int .i64 (k : Nat) = u := by simpa [eI] using hj
        rw [← hu]
        exact hb.cell 0
      | succ j => simp [eI] at hj⟩
    have HL := Keep.mk hlt
    have SZF : Keep (wf.heap.size = we.heap.size + 1) := ⟨by rw [hwf]; exact World.size_alloc _ _⟩
    clear hlt
    go_wp2_with (at_builtin; refine wpl_append_q _ rfl (.tmp 125) (.tmp 127) rfl w.heap.size _ _ rfl ?c1 ⟨we.heap.size, 0, none⟩ 1 [(k : Int)] rfl ?c2 (by simp) (by simpa using HL.out) ?c3 ?_)
    case c1 => rw [← hwf]; exact I5.out.q
    case c2 => rw [← hwf]; first | exact RK.out | (rw [← SZF.out]; exact RK.out)
    case c3 => have := SZ.out; first | omega | (rw [← hwf, SZF.out]; omega)
    rw [← hwf]
    intro v' w9 hq hb hblk hg
    have I6 : Keep (ClW w w9 gO v' ⟨o1.set k Z, t1 ++ [k]⟩) := ⟨(I5.out.b).trans hb, hblk _ _ _ I5.out.o (by decide), by
      have e : ints_ (t1 ++ [k]) = ints_ t1 ++ [(k : Int)] := by simp [ints_]
      show QI _ _ _ (ints_ (t1 ++ [k]))
      rw [e]; exact hq, I5.out.ge⟩
    clear hq hb hblk hg
    go_wp2
    go_roundg (x.g.ps.length - (p + 1))
    case measure => omega
    case rel => exact ⟨p + 1, by omega, by omega, by go_num, by rw [E2.out]; exact I6⟩
  · have E2 : Keep ((List.range (p + 1)).foldl (clIn x.g SY TH) ⟨out, rest⟩ = ⟨o1, t1⟩) := ⟨by rw [SS.out, CI.out, if_neg hc]⟩
    go_cut [117] (fun s117 wx => s117 = .bool false ∧ ∃ m, wx = wb.drewN m)
    case first =>
      by_cases hh : hd = SY
      · have t1' : ((hd : Int) == SY) = true := by simp [hh]
        have hz : Z = OK1 := by
          apply Classical.byContradiction
          intro h
          exact hc ⟨hh, h⟩
        have t2' : ((Z : Int) != (OK1 : Int)) = false := by rw [hz]; simp
        clear hc hh hz
        go_quiet (fail)
        go_wp2_with fail
        go_meet
        exact ⟨rfl, _, rfl⟩
      · have t1' : ((hd : Int) == SY) = false := by simp only [beq_eq_false_iff_ne]; exact hh
        clear hc hh
        go_quiet (fail)
        go_wp2_with fail
        go_meet
        exact ⟨rfl, _, rfl⟩
    case rest =>
    obtain ⟨rfl, m, hwc⟩ := hcut
    have I3 : Keep (ClW w wc gO u6 ⟨o1, t1⟩) := ⟨by rw [hwc]; exact I1.out.below (below_drewN (Below.refl _ _) m)⟩
    obtain ⟨wd, rfl⟩ : ∃ wd : World, wd = wc := ⟨_, rfl⟩
    clear hwc I1 BY
    go_wp2
    go_roundg (x.g.ps.length - (p + 1))
    case measure => omega
    case rel => exact ⟨p + 1, by omega, by omega, by go_num, by rw [E2.out]; exact I3⟩
end Go.Proofs.YtaooejidkeojjaaDoor.H
namespace Go.Proofs.YtaooejidkeojjaaDoor.H
open Go.RowKit
set_option linter.unusedVariables false
set_option linter.unusedSimpArgs false
set_option maxRecDepth 100000
set_option maxHeartbeats 4000000 in
theorem mul64_one (n : Nat) (hn : n < 100000) (w : World) : Calls Tryd.prog 85 #[.int .u64 1, .int .u64 (n : Nat)] w fun e w' => e = .returned (.tuple #[.int .u64 0, .int .u64 (n : Nat)]) ∧ w' = w := by
  have a1 : bits .and .u64 (n : Int) 4294967295 = n := by
    have a1 := and64 n 4294967295 (by omega) (by omega)
    have e1 : n &&& 4294967295 = n := by
      have := Nat.and_two_pow_sub_one_eq_mod n 32
      rw [show (2:Nat) ^ 32 - 1 = 4294967295 from rfl] at this
      rw [this]; omega
    rw [e1] at a1
    exact a1
  have a2 : bits .and .u64 1 4294967295 = 1 := by decide
  have a3 : bits .and .u64 0 4294967295 = 0 := by decide
  have s1 : (n : Int) / 4294967296 = 0 := by omega
  have w1 : IntKind.u64.wrap (n : Int) = n := wraps_u64 _ (by omega) (by omega)
  have w0 : IntKind.u64.wrap 0 = 0 := by decide
  go_enter Tryd.func85, Tryd.ntmps85
  go_wp2
  go_ret2
  exact ⟨by simp [a1, w1, s1, w0, a3], rfl⟩
set_option maxHeartbeats 4000000 in
theorem mul_one (n : Nat) (hn : n < 100000) (w : World) : Calls Tryd.prog 76 #[.int .u64 1, .int .u64 (n : Nat)] w fun e w' => e = .returned (.tuple #[.int .u64 0, .int .u64 (n : Nat)]) ∧ w' = w := by
  have K := Keep.mk (mul64_one n hn w)
  go_enter Tryd.func76, Tryd.ntmps76
  go_wp2_with fail
  refine K.out.mono ?_
  rintro e w' ⟨rfl, rfl⟩
  go_wp2
  go_ret2
  exact ⟨rfl, rfl⟩
def repL (n k : Nat) (y : Int) : List Value := (List.replicate k y ++ List.replicate (n - k) 0).map (Value.int .i64)
theorem repL_len (n k : Nat) (y : Int) (h : k ≤ n) : (repL n k y).length = n := by simp [repL]; omega
theorem repL_splice {n k m : Nat} {y : Int} (h : k + m ≤ n) : splice (repL n k y) k ((List.replicate m y).map (Value.int .i64)) = repL n (k + m) y := by
  unfold splice repL
  simp only [List.map_append, List.map_replicate, List.length_replicate]
  rw [List.take_left' (by simp), List.drop_append, List.length_replicate, List.drop_eq_nil_of_le (by simp), List.nil_append, List.drop_replicate, show k + m - k = m from by omega, ← List.append_assoc, List.replicate_append_replicate, show n - k - m = n - (k + m) from by omega]
theorem repL_at {n k j : Nat} {y : Int} (h : j < k) (hn : k ≤ n) : (repL n k y)[j]? = some (.int .i64 y) := by
  unfold repL
  rw [List.getElem?_map, List.getElem?_append_left (by simpa using h), List.getElem?_replicate, if_pos h]
  rfl
set_option maxHeartbeats 8000000 in
theorem repeat_one (a : Addr) (y : Int) (c n : Nat) (hn0 : 0 < n) (hn : n < 100000) (w : World) (hc : w.cell? a = some (.int .i64 y)) (ha : a.block < w.heap.size) :
    Calls Tryd.prog 56 #[.slice (some a) 1 c, .int .i64 (n : Nat)] w fun e w' => ∃ g, e = .returned (.slice (some ⟨g, 0, none⟩) n n) ∧ Blk w' g 3 (ints .i64 (List.replicate n y)) ∧ w.heap.size ≤ g ∧ Below w.heap.size w w' := by
  have KM := Keep.mk fun W => mul_one n hn W
  have n0 : ¬ ((n : Int) < 0) := by omega
  have w1 : IntKind.u64.wrap (n : Int) = n := wraps_u64 _ (by omega) (by omega)
  have w2 : IntKind.i64.wrap (n : Int) = n := by rw [IntKind.wrap_i64]; omega
  have n1 : ¬ (9223372036854775807 < (n : Int)) := by omega
  have hmk := @run_make_row' Tryd.prog 44 3 (.int .i64 0) 8 Tryd.underlying44 info_int rfl .i64 .i64 n (by omega) (by omega)
  simp only [madeCells_ints] at hmk
  go_enter Tryd.func56, Tryd.ntmps56
  go_wp2_with fail
  refine (KM.out _).mono ?_
  rintro e w' ⟨rfl, rfl⟩
  go_upto_region 7 with fail
  obtain ⟨w0, hw0⟩ : ∃ w0 : World, w0 = w'.alloc (.cells (ints .i64 (List.replicate n 0)) 3) := ⟨_, rfl⟩
  rw [← hw0]
  have B0 : Keep (Below w'.heap.size w' w0) := ⟨by rw [hw0]; exact (Below.refl _ _).alloc (Nat.le_refl _) _⟩
  have G0 : Keep (w0.heap[w'.heap.size]? = some (.cells (repL n 0 y).toArray 3 (0, 0))) := ⟨by
    rw [hw0]
    have := Blk.new w' 3 (ints .i64 (List.replicate n 0))
    unfold Blk at this
    rw [this]
    simp [repL, ints]⟩
  have C0 : Keep (w0.cell? a = some (.int .i64 y)) := ⟨cell_below hc B0.out ha⟩
  obtain ⟨g, hg⟩ : ∃ g, g = w'.heap.size := ⟨_, rfl⟩
  have HG := Keep.mk hg
  rw [← hg] at G0 ⊢
  clear hw0 hmk hg hc w1 w2
  go_step
  go_step
  go_simp
  go_step
  go_step
  go_simp
  go_step
  refine wpList_copy_splice rfl (.tmp 31) (.tmp 32) 44 44 rfl 3 Tryd.underlying44 (by kernel_rfl) (some ⟨g, 0, none⟩) (some a) n n 1 c rfl rfl g 0 (repL n 0 y) 3 G0.out [.int .i64 y] ?c1 ?c2 ?c3 ?c4 w'.heap.size w' B0.out ?c5 ?_
  case c1 => show (1 : Nat) = Nat.min 1 n; exact (Nat.min_eq_left hn0).symm
  case c2 =>
    intro _
    refine ⟨rfl, a, rfl, fun j v hj => ?_⟩
    cases j with
    | zero =>
      have hv : Value.int .i64 y = v := by simpa using hj
      rw [← hv, ← C0.out]
      congr 1
    | succ j => simp at hj
  case c3 => rw [repL_len n 0 y (Nat.zero_le _)]; exact hn0
  case c4 => intro v hv; rw [List.mem_singleton.1 hv]; rfl
  case c5 => rw [HG.out]; exact Nat.le_refl _
  intro w2 hG2 hB2
  have G1 : Keep (w2.heap[g]? = some (.cells (repL n 1 y).toArray 3 (0, 0))) := ⟨by
    have h := repL_splice (n := n) (k := 0) (m := 1) (y := y) (by omega)
    have h2 := hG2.out
    rw [← h]
    exact h2⟩
  have B1 := Keep.mk hB2
  clear hG2 hB2 G0 C0 B0
  have hsl : goInt ([Value.int .i64 y] : List Value).length = .int .i64 1 := rfl
  rw [hsl]
  go_wp2
  go_loopg [8] n (fun gg s8 wr => ∃ k : Nat, 0 < k ∧ k ≤ n ∧ n - k ≤ gg ∧ s8 = .int .i64 k ∧ Keep (wr.heap[g]? = some (.cells (repL n k y).toArray 3 (0, 0))) ∧ Keep (Below w'.heap.size w' wr))
  case atStart => exact ⟨1, by omega, hn0, by omega, rfl, G1, B1⟩
  case round =>
  clear G1 B1
  obtain ⟨k, hk0, hk, hg, rfl, G, B⟩ := hrel
  by_cases hlt : k < n
  rotate_left
  · have ek : k = n := by omega
    subst ek
    go_wp2
    go_ret
    refine ⟨g, rfl, ?_, by rw [HG.out]; exact Nat.le_refl _, B.out⟩
    have := G.out
    unfold Blk
    rw [this]
    simp [repL, ints]
  have k1 : (k : Int) < n := by omega
  have k2 : (k : Int) ≤ n := by omega
  have k3 : (0 : Int) ≤ k := by omega
  obtain ⟨m, hm⟩ : ∃ m, m = Nat.min k (n - k) := ⟨_, rfl⟩
  have hm1 : m ≤ k := by rw [hm]; exact Nat.min_le_left _ _
  have hm2 : m ≤ n - k := by rw [hm]; exact Nat.min_le_right _ _
  have hm0 : 0 < m := by rw [hm]; exact Nat.lt_min.2 ⟨hk0, by omega⟩
  have hkm : IntKind.i64.wrap ((k : Int) + m) = k + m := by rw [IntKind.wrap_i64]; omega
  have hmi : (m : Int) = k.min (n - k) := by rw [hm]
  have HCL : Keep (goInt ((List.replicate m (Value.int .i64 y)).length) = .int .i64 m) := ⟨by rw [List.length_replicate]; rfl⟩
  have HCN : Keep ((List.replicate m (Value.int .i64 y)).length = Nat.min k (n - k)) := ⟨by rw [List.length_replicate, hm]⟩
  have SRC : Keep (∀ W : World, W.heap = wr.heap → ∀ j v, (List.replicate m (Value.int .i64 y))[j]? = some v → W.cell? (Addr.add ⟨g, 0, none⟩ j) = some v) := ⟨fun W hW j v hj => by
    have hjm : j < m := by
      rcases Nat.lt_or_ge j m with h | h
      · exact h
      · rw [List.getElem?_eq_none (by simpa using h)] at hj; cases hj
    rw [List.getElem?_replicate, if_pos hjm] at hj
    rw [← hj]
    have hG := G.out
    rw [← hW] at hG
    have h1 : W.cell? ⟨g, j, none⟩ = (repL n k y).toArray[j]? := by simp [World.cell?, hG]
    rw [show (Addr.add ⟨g, 0, none⟩ j) = ⟨g, j, none⟩ from by simp [Addr.add]; omega, h1, List.getElem?_toArray]
    exact repL_at (by omega) (by omega)⟩
  clear hm hmi
  go_wp2_with fail
  go_region_law (refine step_copy_splice rfl (.tmp 41) (.tmp 44) 44 44 rfl 3 Tryd.underlying44 (by kernel_rfl) (some ⟨g, k, none⟩) (some ⟨g, 0, none⟩) (n - k) (n - k) k n (by simp [Act.eval, Act.put]; omega) (by simp [Act.eval, Act.put]) g k (repL n k y) 3 G.out (List.replicate m (.int .i64 y)) HCN.out (fun _ => ⟨rfl, ⟨g, 0, none⟩, rfl, SRC.out _ rfl⟩) (by rw [List.length_replicate, repL_len n k y hk]; omega) (fun v hv => by rw [List.eq_of_mem_replicate hv]; rfl) w'.heap.size w' (B.out.drew) (by rw [HG.out]; exact Nat.le_refl _) ?_; intro w4 hg4 hb4; rw [HCL.out])
  have G2 : Keep (w4.heap[g]? = some (.cells (repL n (k + m) y).toArray 3 (0, 0))) := ⟨by
    have h := repL_splice (n := n) (k := k) (m := m) (y := y) (by omega)
    rw [List.map_replicate] at h
    rw [← h]
    exact hg4.out⟩
  have B2 := Keep.mk hb4
  clear hg4 hb4
  go_wp2
  go_roundg (n - (k + m))
  case measure => omega
  exact ⟨k + m, by omega, by omega, by omega, rfl, G2, B2⟩
theorem one_cell (w : World) (v : Value) (t : TypeId) : (w.alloc (.cells #[v] t)).cell? ⟨w.heap.size, 0, none⟩ = some v := by
  have h := Blk.new w t #[v]
  exact h.cell 0
set_option maxHeartbeats 4000000 in
theorem nowhere_ (n : Nat) (hn0 : 0 < n) (hn : n < 100000) (w : World) :
    Calls Tryd.prog 34 #[.int .i64 (n : Nat)] w fun e w' => ∃ g, e = .returned (.slice (some ⟨g, 0, none⟩) n n) ∧ Blk w' g 3 (ints .i64 (List.replicate n (-1))) ∧ w.heap.size ≤ g ∧ Below w.heap.size w w' := by
  have hb0 : Below w.heap.size w (w.alloc (.cells #[.int .i64 (-1)] 3)) := (Below.refl _ _).alloc (Nat.le_refl _) _
  have hl0 : w.heap.size < (w.alloc (.cells #[.int .i64 (-1)] 3)).heap.size := (Blk.new w 3 #[.int .i64 (-1)]).lt
  have K := Keep.mk (repeat_one ⟨w.heap.size, 0, none⟩ (-1) 1 n hn0 hn (w.alloc (.cells #[.int .i64 (-1)] 3)) (one_cell w _ _) hl0)
  have B0 := Keep.mk hb0
  clear hb0 hl0
  go_enter Tryd.func34, Tryd.ntmps34
  go_wp2_with fail
  refine K.out.mono ?_
  rintro e w' ⟨g, rfl, hB, hg, hb⟩
  have hs := B0.out.size
  have hb2 : Below w.heap.size w w' := B0.out.trans (hb.mono hs)
  have hg2 : w.heap.size ≤ g := Nat.le_trans hs hg
  have KK := Keep.mk (And.intro hB (And.intro hg2 hb2))
  clear hB hg hb hs hb2 hg2
  go_wp2
  go_ret
  exact ⟨g, rfl, KK.out⟩
end Go.Proofs.YtaooejidkeojjaaDoor.H
namespace Go.Proofs.YtaooejidkeojjaaDoor.H
open Go.RowKit
set_option linter.unusedVariables false
set_option linter.unusedSimpArgs false
set_option maxRecDepth 100000
set_option maxHeartbeats 4000000 in
theorem indexFuncS (gL cL : Nat) (bs : List Nat) (g : Nat) (lb : Array Value) (q : Nat → Bool) (w : World)
    (hl : bs.length ≤ 100000) (hlt : gL < w.heap.size) (h : ∀ i (hi : i < bs.length), w.cell? ⟨gL, i, none⟩ = some (.pointer (some ⟨bs[i], 0, none⟩)))
    (eg : ∀ args w, (callFunc g args).run Tryd.prog w = .ok (.enter g args) w)
    (hp : ∀ i (hi : i < bs.length) W, Below w.heap.size w W → Calls Tryd.prog g (#[.pointer (some ⟨bs[i], 0, none⟩)] ++ lb) W fun e w' => e = .returned (.bool (q i)) ∧ Below w.heap.size w w') :
    Calls Tryd.prog 59 #[.slice (some ⟨gL, 0, none⟩) bs.length cL, .func (.func g) #[] lb] w fun e w' => e = .returned (.int .i64 (idxOf q (List.range bs.length))) ∧ Below w.heap.size w w' := by
  have HC := Keep.mk h
  have HP := Keep.mk hp
  have HG := Keep.mk hlt
  clear h hp hlt
  go_enter Tryd.func59, Tryd.ntmps59
  go_wp2
  go_loopg [5, 8] bs.length (fun gg _ s8 wr => ∃ k : Nat, k ≤ bs.length ∧ bs.length - k ≤ gg ∧ s8 = .int .i64 k ∧ Keep (Below w.heap.size w wr) ∧ Keep (∀ j, j < k → q j = false))
  case atStart => exact ⟨0, Nat.zero_le _, by omega, rfl, ⟨Below.refl _ w⟩, ⟨fun j hj => absurd hj (Nat.not_lt_zero _)⟩⟩
  case round =>
    obtain ⟨k, hk, hg, rfl, BW, HA⟩ := hrel
    by_cases hlt : k < bs.length
    · have hc' := cell_below (HC.out k hlt) BW.out HG.out
      have hcall := HP.out k hlt wr BW.out
      have i1 : (0:Int) ≤ k := by omega
      have i2 : (k : Int) < bs.length := by omega
      have i3 : IntKind.i64.wrap ((k : Int) + 1) = (k : Int) + 1 := by rw [IntKind.wrap_i64]; omega
      generalize hx : bs[k] = x at *
      clear hx
      cases hq : q k with
      | true =>
        rw [hq] at hcall
        have Hq := Lib.hid hq
        clear hq
        go_wp2_with (go_at_fn g; refine hcall.mono ?_; rintro e w' ⟨rfl, hb'⟩)
        go_ret
        refine ⟨?_, hb'⟩
        rw [idxOf_hit (k := k) (by simpa using hlt) (by simpa using Hq.out) (fun j hj => by simpa using HA.out j hj)]
        rfl
      | false =>
        rw [hq] at hcall
        have Hq := Lib.hid hq
        clear hq
        go_wp2_with (go_at_fn g; refine hcall.mono ?_; rintro e w' ⟨rfl, hb'⟩)
        go_roundg (bs.length - (k + 1))
        case measure => omega
        case rel =>
          refine ⟨k + 1, by omega, by omega, rfl, ⟨hb'⟩, ⟨fun j hjk => ?_⟩⟩
          by_cases e : j = k
          · subst e; exact Hq.out
          · exact HA.out j (by omega)
    · go_wp2
      go_ret
      refine ⟨?_, BW.out⟩
      rw [idxOf_miss (fun j hj => by have hj' : j < bs.length := by simpa using hj
                                     simpa using HA.out j (by omega))]
      rfl
set_option maxHeartbeats 4000000 in
theorem sameCore (b gc gX gN o gy : Nat) (xs ys : List Int) (cc cy : Nat) (w : World)
    (h0 : w.cell? ⟨b, 0, none⟩ = some (.slice (some ⟨gc, 0, none⟩) xs.length cc)) (hX : w.cell? ⟨gX, 0, none⟩ = some (.pointer (some ⟨gN, o, none⟩)))
    (hN : w.cell? ⟨gN, o, none⟩ = some (.slice (some ⟨gy, 0, none⟩) ys.length cy)) (hl : xs.length < 100000)
    (h1 : Rd eI 1 w w.heap.size (some ⟨gc, 0, none⟩) xs) (h2 : Rd eI 1 w w.heap.size (some ⟨gy, 0, none⟩) ys) :
    Calls Tryd.prog 60 #[.pointer (some ⟨b, 0, none⟩), .pointer (some ⟨gX, 0, none⟩)] w fun e w' => e = .returned (.bool (decide (xs = ys))) ∧ ∃ n, w' = w.drewN n := by
  have K := Keep.mk fun n => slicesEqual (some ⟨gc, 0, none⟩) (some ⟨gy, 0, none⟩) xs.length ys.length cc cy xs ys (w.drewN n) rfl rfl (by omega) h1 h2
  clear h1 h2
  go_enter Tryd.func60, Tryd.ntmps60
  go_wp2
  go_quiet ((go_at_call 61; exact Calls.quiet_of (K.out _)))
  go_wp2
  go_ret
  exact ⟨rfl, _, rfl⟩
end Go.Proofs.YtaooejidkeojjaaDoor.H
namespace Go.Proofs.YtaooejidkeojjaaDoor.H
open Go.RowKit
set_option linter.unusedVariables false
set_option linter.unusedSimpArgs false
set_option maxRecDepth 100000
def OwnR (w : World) (B : Nat) (t : TypeId) (v : Value) (cs : List Value) : Prop := w.ownsRow B t 1 v cs.length cs
theorem OwnR.nil (w : World) (B : Nat) (t : TypeId) : OwnR w B t (.slice none 0 0) [] := ⟨by simp, .inl ⟨rfl, rfl⟩⟩
theorem OwnR.block {w : World} {B : Nat} {t : TypeId} {v : Value} {cs : List Value} (h : OwnR w B t v cs) (k : Nat) (hk : v.ownBlock = some k) : B ≤ k ∧ k < w.heap.size ∧ ∃ c, Blk w k t c := by
  rcases h.2 with ⟨rfl, _⟩ | ⟨g, cap, cur, rfl, hB, hh, _⟩
  · simp [Value.ownBlock] at hk
  · have e : g = k := by simpa [Value.ownBlock] using hk
    subst e
    exact ⟨hB, (show Blk w g t cur from hh).lt, cur, hh⟩
theorem OwnR.move {w w' : World} {B : Nat} {t : TypeId} {v : Value} {cs : List Value} (h : OwnR w B t v cs) (hm : ∀ k, v.ownBlock = some k → w'.heap[k]? = w.heap[k]?) : OwnR w' B t v cs := by
  refine ⟨h.1, ?_⟩
  rcases h.2 with h0 | ⟨g, cap, cur, hv, hB, hh, hr⟩
  · exact .inl h0
  · exact .inr ⟨g, cap, cur, hv, hB, (hm g (by rw [hv]; rfl)).trans hh, hr⟩
theorem OwnR.below {w w' : World} {B : Nat} {t : TypeId} {v : Value} {cs : List Value} (h : OwnR w B t v cs) (hb : Below w.heap.size w w') : OwnR w' B t v cs := h.move fun k hk => hb.block k (h.block k hk).2.1
theorem OwnR.ne {w : World} {B : Nat} {t u : TypeId} {v : Value} {cs : List Value} {g : Nat} {c : Array Value} (h : OwnR w B t v cs) (hg : Blk w g u c) (ht : u ≠ t) (k : Nat) (hk : v.ownBlock = some k) : k ≠ g := by
  rintro rfl
  obtain ⟨_, _, c', hc⟩ := h.block k hk
  unfold Blk at hc hg
  rw [hc] at hg
  injection hg with hg
  injection hg with _ h2
  exact ht h2.symm
theorem OwnR.open_ {w : World} {B : Nat} {t : TypeId} {v : Value} {cs : List Value} (h : OwnR w B t v cs) :
    ∃ A c, v = .slice A cs.length c ∧ cs.length ≤ c ∧ c ≤ maxLen ∧ (0 < cs.length → ∃ g cur, A = some ⟨g, 0, none⟩ ∧ v.ownBlock = some g ∧ Blk w g t cur ∧ ∀ (i : Nat) (u : Value), cs[i]? = some u → cur[i]? = some u) := by
  rcases h.2 with ⟨rfl, h0⟩ | ⟨g, cap, cur, rfl, hB, hh, hnc, hc, hs, ht⟩
  · exact ⟨none, 0, by rw [h0], by omega, by simp [maxLen], fun h1 => by omega⟩
  · refine ⟨some ⟨g, 0, none⟩, cap, rfl, hnc, hc, fun _ => ⟨g, cur, rfl, rfl, hh, fun i u hu => ?_⟩⟩
    have hi : i < cs.length := (List.getElem?_eq_some_iff.1 hu).1
    have h3 : (cur.toList.take (cs.length * 1))[i]? = cs[i]? := by rw [ht]
    rw [List.getElem?_take, if_pos (by omega)] at h3
    simp only [Array.getElem?_toList] at h3
    rw [h3, hu]
structure Nx (w : World) (B gN : Nat) (K : Nat → Prop) (vC vM : Nat → Value) (cC cM : Nat → List Value) : Prop where
  blk : ∃ cs, Blk w gN 89 cs ∧ ∀ s, K s → cs[s * 3]? = some (vC s) ∧ cs[s * 3 + 1]? = some (vM s)
  oC : ∀ s, K s → OwnR w B 3 (vC s) (cC s)
  oM : ∀ s, K s → OwnR w B 86 (vM s) (cM s)
  aC : ∀ s t, K s → K t → s ≠ t → ∀ k, (vC s).ownBlock = some k → (vC t).ownBlock ≠ some k
  aM : ∀ s t, K s → K t → s ≠ t → ∀ k, (vM s).ownBlock = some k → (vM t).ownBlock ≠ some k
  gB : B ≤ gN
def upd {α : Type} (f : Nat → α) (s : Nat) (v : α) : Nat → α := fun t => if t = s then v else f t
theorem upd_same {α : Type} (f : Nat → α) (s : Nat) (v : α) : upd f s v s = v := if_pos rfl
theorem upd_ne {α : Type} (f : Nat → α) {s t : Nat} (v : α) (h : t ≠ s) : upd f s v t = f t := if_neg h
section
variable {w w' : World} {B gN : Nat} {K : Nat → Prop} {vC vM : Nat → Value} {cC cM : Nat → List Value}
theorem Nx.move (h : Nx w B gN K vC vM cC cM) (hm : ∀ k, k < w.heap.size → w'.heap[k]? = w.heap[k]?) : Nx w' B gN K vC vM cC cM := by
  obtain ⟨cs, hb, hc⟩ := h.blk
  exact ⟨⟨cs, (hm gN hb.lt).trans hb, hc⟩, fun s hs => (h.oC s hs).move fun k hk => hm k ((h.oC s hs).block k hk).2.1, fun s hs => (h.oM s hs).move fun k hk => hm k ((h.oM s hs).block k hk).2.1, h.aC, h.aM, h.gB⟩
theorem Nx.below (h : Nx w B gN K vC vM cC cM) (hb : Below w.heap.size w w') : Nx w' B gN K vC vM cC cM := h.move fun k hk => hb.block k hk
theorem Nx.cellC (h : Nx w B gN K vC vM cC cM) {s : Nat} (hs : K s) : w.cell? ⟨gN, s * 3, none⟩ = some (vC s) := by
  obtain ⟨cs, hb, hc⟩ := h.blk
  rw [hb.cell]; exact (hc s hs).1
theorem Nx.cellM (h : Nx w B gN K vC vM cC cM) {s : Nat} (hs : K s) : w.cell? ⟨gN, s * 3 + 1, none⟩ = some (vM s) := by
  obtain ⟨cs, hb, hc⟩ := h.blk
  rw [hb.cell]; exact (hc s hs).2
theorem Nx.frozen (h : Nx w B gN K vC vM cC cM) (i : Nat) : w.frozen? ⟨gN, i, none⟩ = false := by
  obtain ⟨cs, hb, hc⟩ := h.blk
  exact hb.frozen i
theorem Nx.putC (h : Nx w B gN K vC vM cC cM) {s : Nat} (hs : K s) (v' : Value) (u : Value) (ho : w'.ownsRow B 3 1 v' ((cC s).length + 1) (cC s ++ [u])) (hg : w.grownBy w' (vC s).ownBlock)
    (ha : v'.ownBlock = (vC s).ownBlock ∨ v'.ownBlock = some w.heap.size) : Nx (w'.setCell ⟨gN, s * 3, none⟩ v') B gN K (upd vC s v') vM (upd cC s (cC s ++ [u])) cM := by
  obtain ⟨cs, hb, hc⟩ := h.blk
  have hbN : Blk w' gN 89 cs := hb.grown hg fun e => (h.oC s hs).ne hb (by decide) gN e.symm rfl
  have mv : ∀ k, k < w.heap.size → (vC s).ownBlock ≠ some k → k ≠ gN → (w'.setCell ⟨gN, s * 3, none⟩ v').heap[k]? = w.heap[k]? := fun k hk hn hN =>
    (Below.heap_setCell w' ⟨gN, s * 3, none⟩ v' k hN).trans (hg.block k hk fun e => hn e.symm)
  refine ⟨⟨_, hbN.set_ (s * 3) v', fun t ht => ⟨?_, ?_⟩⟩, fun t ht => ?_, fun t ht => ?_, fun a b hA hB hne k hk => ?_, h.aM, h.gB⟩
  · rw [Array.getElem?_setIfInBounds]
    have hsz : t * 3 < cs.size := (Array.getElem?_eq_some_iff.1 (hc t ht).1).1
    by_cases e : t = s
    · subst e; rw [if_pos rfl, if_pos hsz, upd_same]
    · rw [if_neg (by omega), upd_ne _ _ e]; exact (hc t ht).1
  · rw [Array.getElem?_setIfInBounds, if_neg (by omega)]
    exact (hc t ht).2
  · by_cases e : t = s
    · subst e
      rw [upd_same, upd_same]
      have ho' : OwnR w' B 3 v' (cC t ++ [u]) := by unfold OwnR; rw [List.length_append]; exact ho
      exact ho'.move fun k hk => Below.heap_setCell w' ⟨gN, t * 3, none⟩ v' k (ho'.ne hbN (by decide) k hk)
    · rw [upd_ne _ _ e, upd_ne _ _ e]
      exact (h.oC t ht).move fun k hk => mv k ((h.oC t ht).block k hk).2.1 (h.aC t s ht hs e k hk) ((h.oC t ht).ne hb (by decide) k hk)
  · exact (h.oM t ht).move fun k hk => mv k ((h.oM t ht).block k hk).2.1 (fun e => by
      obtain ⟨_, _, c, hc'⟩ := (h.oC s hs).block k e
      exact (h.oM t ht).ne hc' (by decide) k hk rfl) ((h.oM t ht).ne hb (by decide) k hk)
  · by_cases ea : a = s
    · subst ea
      rw [upd_same] at hk
      rw [upd_ne _ _ (Ne.symm hne)]
      rcases ha with e | e
      · exact h.aC a b hA hB hne k (by rw [← e]; exact hk)
      · intro e2
        have := ((h.oC b hB).block k e2).2.1
        rw [e] at hk
        injection hk with hk
        omega
    · rw [upd_ne _ _ ea] at hk
      by_cases eb : b = s
      · subst eb
        rw [upd_same]
        rcases ha with e | e
        · rw [e]; exact h.aC a b hA hB hne k hk
        · intro e2
          have := ((h.oC a hA).block k hk).2.1
          rw [e] at e2
          injection e2 with e2
          omega
      · rw [upd_ne _ _ eb]; exact h.aC a b hA hB hne k hk
theorem Nx.putM (h : Nx w B gN K vC vM cC cM) {s : Nat} (hs : K s) (v' : Value) (u : Value) (ho : w'.ownsRow B 86 1 v' ((cM s).length + 1) (cM s ++ [u])) (hg : w.grownBy w' (vM s).ownBlock)
    (ha : v'.ownBlock = (vM s).ownBlock ∨ v'.ownBlock = some w.heap.size) : Nx (w'.setCell ⟨gN, s * 3 + 1, none⟩ v') B gN K vC (upd vM s v') cC (upd cM s (cM s ++ [u])) := by
  obtain ⟨cs, hb, hc⟩ := h.blk
  have hbN : Blk w' gN 89 cs := hb.grown hg fun e => (h.oM s hs).ne hb (by decide) gN e.symm rfl
  have mv : ∀ k, k < w.heap.size → (vM s).ownBlock ≠ some k → k ≠ gN → (w'.setCell ⟨gN, s * 3 + 1, none⟩ v').heap[k]? = w.heap[k]? := fun k hk hn hN =>
    (Below.heap_setCell w' ⟨gN, s * 3 + 1, none⟩ v' k hN).trans (hg.block k hk fun e => hn e.symm)
  refine ⟨⟨_, hbN.set_ (s * 3 + 1) v', fun t ht => ⟨?_, ?_⟩⟩, fun t ht => ?_, fun t ht => ?_, h.aC, fun a b hA hB hne k hk => ?_, h.gB⟩
  · rw [Array.getElem?_setIfInBounds, if_neg (by omega)]
    exact (hc t ht).1
  · rw [Array.getElem?_setIfInBounds]
    have hsz : t * 3 + 1 < cs.size := (Array.getElem?_eq_some_iff.1 (hc t ht).2).1
    by_cases e : t = s
    · subst e; rw [if_pos rfl, if_pos hsz, upd_same]
    · rw [if_neg (by omega), upd_ne _ _ e]; exact (hc t ht).2
  · exact (h.oC t ht).move fun k hk => mv k ((h.oC t ht).block k hk).2.1 (fun e => by
      obtain ⟨_, _, c, hc'⟩ := (h.oM s hs).block k e
      exact (h.oC t ht).ne hc' (by decide) k hk rfl) ((h.oC t ht).ne hb (by decide) k hk)
  · by_cases e : t = s
    · subst e
      rw [upd_same, upd_same]
      have ho' : OwnR w' B 86 v' (cM t ++ [u]) := by unfold OwnR; rw [List.length_append]; exact ho
      exact ho'.move fun k hk => Below.heap_setCell w' ⟨gN, t * 3 + 1, none⟩ v' k (ho'.ne hbN (by decide) k hk)
    · rw [upd_ne _ _ e, upd_ne _ _ e]
      exact (h.oM t ht).move fun k hk => mv k ((h.oM t ht).block k hk).2.1 (h.aM t s ht hs e k hk) ((h.oM t ht).ne hb (by decide) k hk)
  · by_cases ea : a = s
    · subst ea
      rw [upd_same] at hk
      rw [upd_ne _ _ (Ne.symm hne)]
      rcases ha with e | e
      · exact h.aM a b hA hB hne k (by rw [← e]; exact hk)
      · intro e2
        have := ((h.oM b hB).block k e2).2.1
        rw [e] at hk
        injection hk with hk
        omega
    · rw [upd_ne _ _ ea] at hk
      by_cases eb : b = s
      · subst eb
        rw [upd_same]
        rcases ha with e | e
        · rw [e]; exact h.aM a b hA hB hne k hk
        · intro e2
          have := ((h.oM a hA).block k hk).2.1
          rw [e] at e2
          injection e2 with e2
          omega
      · rw [upd_ne _ _ eb]; exact h.aM a b hA hB hne k hk
theorem Nx.less {K2 : Nat → Prop} (h : Nx w B gN K vC vM cC cM) (hk : ∀ s, K2 s → K s) : Nx w B gN K2 vC vM cC cM := by
  obtain ⟨cs, hb, hc⟩ := h.blk
  exact ⟨⟨cs, hb, fun s hs => hc s (hk s hs)⟩, fun s hs => h.oC s (hk s hs), fun s hs => h.oM s (hk s hs), fun s t hs ht => h.aC s t (hk s hs) (hk t ht), fun s t hs ht => h.aM s t (hk s hs) (hk t ht), h.gB⟩
end
end Go.Proofs.YtaooejidkeojjaaDoor.H
