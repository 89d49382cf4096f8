import Derived.Test.YtadabkkkalgehaaProg
import Derived.Test.YtadabkkkalgehaaBase
import Derived.Maps.OwnOps
import Derived.Maps.OwnSet
import Derived.Maps.Ext
import Derived.DeepKeys4
import Derived.RowKit
import Derived.Test.YtadabkkkalgehaaDe
import Derived.StillTailTactics
/-
  Maps of the call's own whose elements are whole numbers: what they hold, as a plain function on keys.
-/
namespace Go.Proofs.Ytadabkkkalgehaa.H
open Go.RowKit
set_option linter.unusedVariables false
set_option linter.unusedSimpArgs false

theorem laidOutH : laidOutB Try.prog = true := by kernel_rfl

/-- A type of keys: how a key is written as a value, which keys there are (a list of them), what the reader tells of each. -/
structure KeyEnc (P : Program) (K : TypeId) (κ : Type) where
  kv : κ → Value
  ok : κ → Prop
  lit : κ → Lit
  key : ∀ k, ok k → keyOf P K (kv k) = some (lit k)
  inj : ∀ a b, ok a → ok b → kv a = kv b → a = b

section
variable {P : Program} {K t e : TypeId} {κ : Type}

theorem KeyEnc.lit_inj (E : KeyEnc P K κ) (L : Maps.Keyed P K) {a b : κ} (ha : E.ok a) (hb : E.ok b) (h : E.lit a = E.lit b) : a = b :=
  E.inj a b ha hb (L.inj (E.key a ha) (by rw [h]; exact E.key b hb))

/-- Block b of w is a map that holds m, all of whose keys are ok and lie in box. -/
def MapI (E : KeyEnc P K κ) (e : TypeId) (box : List κ) (w : World) (b : Nat) (m : κ → Option Int) : Prop :=
  ∃ D : DataW Unit, w.ownsMap P K (plainElem P e) b (Maps.size D) D ∧ (∀ l, Maps.has D l = true → ∃ k ∈ box, E.ok k ∧ E.lit k = l) ∧
    ∀ k, E.ok k → (∀ z, D.atKey (E.lit k) z = match m k with | some v => .lit (.int .i64 v) | none => z) ∧ Maps.has D (E.lit k) = (m k).isSome

theorem nodup_sub {α : Type} : ∀ (l L : List α), l.Pairwise (· ≠ ·) → (∀ x ∈ l, x ∈ L) → l.length ≤ L.length := by
  intro l
  induction l with
  | nil => intro L _ _; simp
  | cons x l ih =>
    intro L hp hs
    classical
    have hx : x ∈ L := hs x (by simp)
    obtain ⟨s, t, rfl⟩ := List.append_of_mem hx
    have := ih (s ++ t) (List.pairwise_cons.1 hp).2 (fun y hy => by
      have hne := (List.pairwise_cons.1 hp).1 y hy
      have := hs y (List.mem_cons_of_mem _ hy)
      simp only [List.mem_append, List.mem_cons] at this ⊢
      rcases this with h | h | h
      · exact .inl h
      · exact absurd h.symm hne
      · exact .inr h)
    simp only [List.length_append, List.length_cons] at this ⊢
    omega
theorem own_size_le {E : KeyEnc P K κ} {box : List κ} {w : World} {b n : Nat} {D : DataW Unit} (L : Maps.Keyed P K) (h : w.ownsMap P K (plainElem P e) b n D) (hs : ∀ l, Maps.has D l = true → ∃ k ∈ box, E.ok k ∧ E.lit k = l) : Maps.size D ≤ box.length := by
  obtain ⟨es, rfl, hp, hk⟩ := h.canon L
  rw [Maps.size_eq]
  have := nodup_sub (es.map (·.1)) (box.map E.lit) (List.pairwise_map.2 (Maps.apart_of_rising hp)) (fun x hx => by
    obtain ⟨p, hpm, rfl⟩ := List.mem_map.1 hx
    have hh : Maps.has (.map es) p.1 = true := by
      rw [Maps.has_eq, List.any_eq_true]
      exact ⟨p, hpm, WideAt.sameKey_self (hk p hpm)⟩
    obtain ⟨k, hkb, _, hl⟩ := hs _ hh
    exact List.mem_map.2 ⟨k, hkb, hl⟩)
  simpa using this
/-- The bound can always be the number of entries. -/
theorem own_tight {w : World} {b n : Nat} {D : DataW Unit} {R : Value → Option (DataW Unit × List MemPlace)} (h : w.ownsMap P K R b n D) : w.ownsMap P K R b (Maps.size D) D := by
  obtain ⟨es, clock, hb, F, hs, rfl⟩ := h
  exact ⟨es, clock, hb, F, by rw [Maps.size_eq, length_sorted]; simp, rfl⟩

variable {E : KeyEnc P K κ} {box : List κ} {w w' : World} {b : Nat} {m : κ → Option Int}
theorem MapI.made (E : KeyEnc P K κ) (e : TypeId) (box : List κ) (w : World) : MapI E e box (w.alloc (.map #[] 0)) w.heap.size (fun _ => none) :=
  ⟨.map [], own_tight (World.ownsMap_made w P K _), fun l h => by simp [Maps.has] at h, fun k _ => ⟨fun z => rfl, rfl⟩⟩
theorem MapI.lt (h : MapI E e box w b m) : b < w.heap.size := by obtain ⟨D, h1, _⟩ := h; exact h1.lt
theorem MapI.move (h : MapI E e box w b m) (hb : w'.heap[b]? = w.heap[b]?) : MapI E e box w' b m := by
  obtain ⟨D, ⟨es, clock, h1, h2⟩, h3⟩ := h
  exact ⟨D, ⟨es, clock, hb.trans h1, h2⟩, h3⟩
theorem MapI.grown {row : Option Nat} (h : MapI E e box w b m) (hg : w.grownBy w' row) (hne : some b ≠ row) : MapI E e box w' b m := h.move (hg.block b h.lt hne)
theorem MapI.below {B : Nat} (h : MapI E e box w b m) (hb : Below B w w') (hB : b < B) : MapI E e box w' b m := h.move (hb.block b hB)
theorem MapI.alloc (h : MapI E e box w b m) (o : Obj) : MapI E e box (w.alloc o) b m := h.grown (World.grownBy_alloc w o none) (by simp)
theorem MapI.drew (h : MapI E e box w b m) : MapI E e box w.drew b m := h
theorem MapI.drewN (h : MapI E e box w b m) (n : Nat) : MapI E e box (w.drewN n) b m := h
theorem MapI.far (h : MapI E e box w b m) {p : Addr} (hp : b ≠ p.block) (u : Value) : MapI E e box (w.setCell p u) b m := h.move (Below.heap_setCell w p u b hp)

/-- m[k] -/
theorem MapI.look (h : MapI E e box w b m) (L : Maps.Keyed P K) (ht : P.underlying t = some (.map K e)) (he : P.underlying e = some (.int .i64)) (hz : (zeroValue e).run P w = .ok (.int .i64 0) w) (k : κ) (hk : E.ok k) :
    (Instr.lookup t (.map (some b)) (E.kv k) false).run P w = .ok (.int .i64 ((m k).getD 0)) w := by
  obtain ⟨D, h1, _, h3⟩ := h
  obtain ⟨c, hrun, hat, _⟩ := h1.lookup_int L ht he hz (E.key k hk)
  rw [(h3 k hk).1] at hat
  rw [hrun]
  cases hm : m k with
  | none => rw [hm] at hat; simp only [DataW.lit.injEq, Lit.int.injEq, true_and] at hat; rw [← hat]; rfl
  | some v => rw [hm] at hat; simp only [DataW.lit.injEq, Lit.int.injEq, true_and] at hat; rw [← hat]; rfl
/-- v, ok := m[k] -/
theorem MapI.look_ok (h : MapI E e box w b m) (L : Maps.Keyed P K) (ht : P.underlying t = some (.map K e)) (he : P.underlying e = some (.int .i64)) (hz : (zeroValue e).run P w = .ok (.int .i64 0) w) (k : κ) (hk : E.ok k) :
    (Instr.lookup t (.map (some b)) (E.kv k) true).run P w = .ok (.tuple #[.int .i64 ((m k).getD 0), .bool (m k).isSome]) w := by
  obtain ⟨D, h1, _, h3⟩ := h
  have hw0 : (Lit.int .i64 0).wf = true := by decide
  obtain ⟨v, ps, hrun, hv⟩ := h1.look_ok L ht hz (plainElem_int he hw0) (E.key k hk)
  obtain ⟨c, rfl, hc, _⟩ := plainElem_int_inv he hv
  simp only [Prod.mk.injEq] at hc
  have hat := hc.1
  rw [(h3 k hk).1] at hat
  rw [hrun, (h3 k hk).2]
  cases hm : m k with
  | none => rw [hm] at hat; simp only [DataW.lit.injEq, Lit.int.injEq, true_and] at hat; rw [← hat]; rfl
  | some v => rw [hm] at hat; simp only [DataW.lit.injEq, Lit.int.injEq, true_and] at hat; rw [← hat]; rfl
noncomputable def put {κ : Type} (m : κ → Option Int) (k : κ) (v : Option Int) : κ → Option Int := fun x => @ite _ (x = k) (Classical.propDecidable _) v (m x)
theorem put_same {κ : Type} (m : κ → Option Int) (k : κ) (v : Option Int) : put m k v k = v := by simp [put]
theorem put_other {κ : Type} (m : κ → Option Int) {k x : κ} (v : Option Int) (h : x ≠ k) : put m k v x = m x := by simp [put, h]
/-- m[k] = v -/
theorem MapI.store (h : MapI E e box w b m) (L : Maps.Keyed P K) (ht : P.underlying t = some (.map K e)) (he : P.underlying e = some (.int .i64)) (hbox : box.length < maxLen) (k : κ) (hk : E.ok k) (hkb : k ∈ box) (v : Int) (hv : (Lit.int .i64 v).wf = true) :
    ∃ w', (Instr.mapUpdate t (.map (some b)) (E.kv k) (.int .i64 v)).run P w = .ok () w' ∧ MapI E e box w' b (put m k (some v)) ∧ w.grownBy w' (some b) := by
  obtain ⟨D, h1, h2, h3⟩ := h
  have hn := own_size_le L h1 h2
  obtain ⟨w', hrun, ho, hg⟩ := h1.update L ht (Nat.lt_of_le_of_lt hn hbox) (E.key k hk) (plainElem_int he hv)
  have hkl : WideAt.IsKeyLit (E.lit k) := L.key (E.key k hk)
  have hD := h1.isMap
  refine ⟨w', hrun, ⟨_, own_tight ho, fun l hl => ?_, fun x hx => ?_⟩, hg⟩
  · by_cases hlk : l = E.lit k
    · exact ⟨k, hkb, hk, hlk.symm⟩
    · rw [Maps.has_put_other hlk] at hl
      exact h2 l hl
  · by_cases hxk : x = k
    · subst hxk
      rw [put_same]
      exact ⟨fun z => Maps.atKey_put_same hD hkl _ z, Maps.has_put_same hD hkl _⟩
    · rw [put_other _ _ hxk]
      have hne : E.lit x ≠ E.lit k := fun e => hxk (E.lit_inj L hx hk e)
      exact ⟨fun z => by rw [Maps.atKey_put_other hne]; exact (h3 x hx).1 z, by rw [Maps.has_put_other hne]; exact (h3 x hx).2⟩
/-- delete(m, k) -/
theorem MapI.drop (h : MapI E e box w b m) (L : Maps.Keyed P K) (ht : P.underlying t = some (.map K e)) (k : κ) (hk : E.ok k) (ty : TypeId) :
    ∃ w', (Builtin.delete_ #[t, K] ty #[.map (some b), E.kv k]).run P w = .ok (.tuple #[]) w' ∧ MapI E e box w' b (put m k none) ∧ w.grownBy w' (some b) := by
  obtain ⟨D, h1, h2, h3⟩ := h
  obtain ⟨w', hrun, ho, hg⟩ := h1.drop L ht (E.key k hk) ty
  refine ⟨w', hrun, ⟨_, own_tight ho, fun l hl => ?_, fun x hx => ?_⟩, hg.grown⟩
  · by_cases hlk : l = E.lit k
    · rw [hlk, Maps.has_del_same] at hl; cases hl
    · rw [Maps.has_del_other hlk] at hl
      exact h2 l hl
  · by_cases hxk : x = k
    · subst hxk
      rw [put_same]
      exact ⟨fun z => Maps.atKey_del_same z, Maps.has_del_same⟩
    · rw [put_other _ _ hxk]
      have hne : E.lit x ≠ E.lit k := fun e => hxk (E.lit_inj L hx hk e)
      exact ⟨fun z => by rw [Maps.atKey_del_other hne]; exact (h3 x hx).1 z, by rw [Maps.has_del_other hne]; exact (h3 x hx).2⟩
end

/-! stretches: keys of four whole numbers -/
structure K4 where
  a : Int
  b : Int
  c : Int
  d : Int
def K4.v (k : K4) : Value := .agg #[.int .i64 k.a, .int .i64 k.b, .int .i64 k.c, .int .i64 k.d]
def I64 (x : Int) : Prop := (Lit.int .i64 x).wf = true
def K4.ok (k : K4) : Prop := I64 k.a ∧ I64 k.b ∧ I64 k.c ∧ I64 k.d
def K4.lit (k : K4) : Lit := .string (keyBytes [.int .i64 k.a, .int .i64 k.b, .int .i64 k.c, .int .i64 k.d])
theorem stretch_wide : (match Try.prog.underlying 74 with | some (.array _ _) | some (.struct _) => true | _ => false) = true := by kernel_rfl
theorem stretch_row : (74 : TypeId) < Try.prog.types.size := of_decide_eq_true (by kernel_rfl)
theorem stretch_law : Maps.Keyed Try.prog 74 := Maps.Keyed.of_law (deep_law_laid laidOutH (m := 2) (by omega) stretch_row (by kernel_rfl) stretch_wide)
theorem stretch_cells : Try.prog.cellsOf 74 = 4 := by kernel_rfl
theorem stretch_type : Try.prog.keyType 74 = true := by kernel_rfl
theorem int_cells : Try.prog.cellsOf 3 = 1 := by kernel_rfl
theorem stretch_key (k : K4) (h : k.ok) : keyOf Try.prog 74 k.v = some k.lit := by
  obtain ⟨h1, h2, h3, h4⟩ := h
  obtain ⟨a, b, c, d⟩ := k
  unfold I64 at *
  dsimp only at *
  obtain ⟨n, hn⟩ : ∃ n, Try.prog.types.size = n + 1 := Nat.exists_eq_succ_of_ne_zero (fun h => by have := stretch_row; rw [h] at this; exact absurd this (Nat.not_lt_zero _))
  unfold keyOf
  simp only [Try.underlying74]
  rw [hn]
  simp [stretch_type, Value.formed, Try.underlying74, stretch_cells, K4.v, K4.lit, Value.cells, Program.keyLits, Try.underlying3, int_cells, h1, h2, h3, h4]
def stretchE : KeyEnc Try.prog 74 K4 where
  kv := K4.v
  ok := K4.ok
  lit := K4.lit
  key := stretch_key
  inj := fun a b _ _ h => by
    obtain ⟨a1, a2, a3, a4⟩ := a
    obtain ⟨b1, b2, b3, b4⟩ := b
    simpa [K4.v] using h
end Go.Proofs.Ytadabkkkalgehaa.H
/-
  derive: the chart in memory.
-/
namespace Go.Proofs.Ytadabkkkalgehaa.H
open Go.RowKit
set_option linter.unusedVariables false
set_option linter.unusedSimpArgs false

theorem min_ints (k k' : IntKind) (x y : Int) : Builtin.min2 (.int k x) (.int k' y) = pure (.int k (if y < x then y else x)) := by simp only [Builtin.min2]
theorem min_pair (ats : Array TypeId) (ty : TypeId) (a b : Value) : Builtin.min_ ats ty #[a, b] = (Builtin.min2 a b >>= fun s => pure s) := by simp only [Builtin.min_, List.foldlM_cons, List.foldlM_nil]
/-- All keys that are ever asked. -/
def boxK : List K4 := (List.range 65).flatMap fun (a : Nat) => (List.range 64).flatMap fun (b : Nat) => (List.range 65).flatMap fun (c : Nat) => (List.range 65).map fun (d : Nat) => (⟨(a : Int) - 1, (b : Int), (c : Int), (d : Int)⟩ : K4)
theorem flatMap_len {α β : Type} {n : Nat} (l : List α) (f : α → List β) (h : ∀ x, (f x).length = n) : (l.flatMap f).length = l.length * n := by
  induction l with
  | nil => simp
  | cons x l ih => rw [List.flatMap_cons, List.length_append, h, ih, List.length_cons, Nat.add_mul]; omega
theorem boxK_len : boxK.length < maxLen := by
  unfold boxK
  rw [flatMap_len (n := 64 * (65 * 65)) _ _ (fun a => by rw [flatMap_len (n := 65 * 65) _ _ (fun b => by rw [flatMap_len (n := 65) _ _ (fun c => by rw [List.length_map, List.length_range]), List.length_range]), List.length_range])]
  rw [List.length_range]
  decide
theorem mem_boxK {a b c d : Int} (ha : -1 ≤ a ∧ a < 64) (hb : 0 ≤ b ∧ b < 64) (hc : 0 ≤ c ∧ c ≤ 64) (hd : 0 ≤ d ∧ d ≤ 64) : (⟨a, b, c, d⟩ : K4) ∈ boxK := by
  unfold boxK
  refine List.mem_flatMap.2 ⟨(a + 1).toNat, List.mem_range.2 (show (a + 1).toNat < 65 by omega), List.mem_flatMap.2 ⟨b.toNat, List.mem_range.2 (show b.toNat < 64 by omega), List.mem_flatMap.2 ⟨c.toNat, List.mem_range.2 (show c.toNat < 65 by omega), List.mem_map.2 ⟨d.toNat, List.mem_range.2 (show d.toNat < 65 by omega), ?_⟩⟩⟩⟩
  congr 1 <;> omega
theorem i64_small {x : Int} (h0 : -1 ≤ x) (h1 : x ≤ 1073741825) : I64 x := by
  unfold I64 Lit.wf
  simp [IntKind.min, IntKind.max, IntKind.bits, IntKind.signed] <;> omega

/-- Where a chart lies, and what it is of. -/
structure Cx where
  g : Gr
  row : List Int
  A : Option Addr
  c : Nat
  Ar : Option Addr
  cr : Nat
  cB : Nat
  kB : Nat
  aB : Nat
  B0 : Nat
def Cx.cells (x : Cx) : Array Value := #[.int .i64 x.g.T, .int .i64 x.g.S, .int .i64 x.g.st, .slice x.A x.g.ps.length x.c, .slice x.Ar x.row.length x.cr, .map (some x.kB), .map (some x.aB)]
/-- A chart in memory: what it knows (k) and what is ahead (a). -/
structure Ch (x : Cx) (w : World) (k a : K4 → Option Int) : Prop where
  blk : Blk w x.cB 71 x.cells
  rp : RdP w x.B0 x.A x.g.ps
  rr : Rd eI 1 w x.B0 x.Ar x.row
  mpk : MapI stretchE 3 boxK w x.kB k
  mpa : MapI stretchE 3 boxK w x.aB a
  nk : x.B0 ≤ x.kB
  na : x.B0 ≤ x.aB
  nc : x.B0 ≤ x.cB
  ck : x.cB ≠ x.kB
  ca : x.cB ≠ x.aB
  ka : x.kB ≠ x.aB
section
variable {x : Cx} {w w' : World} {k a : K4 → Option Int}
theorem Rd.grown {α : Type} {enc : α → List Value} {n : Nat} {B : Nat} {A : Option Addr} {xs : List α} {row : Option Nat} (h : Rd enc n w B A xs) (hg : w.grownBy w' row) (hr : ∀ b, row = some b → B ≤ b) (hB : B ≤ w.heap.size) : Rd enc n w' B A xs :=
  h.below ⟨hg.os, hg.tape, hg.output, by have := hg.size; omega, fun i hi => hg.block i (by omega) (fun e => by have := hr i e.symm; omega)⟩
theorem RdP.grown {B : Nat} {A : Option Addr} {ps : List Pr} {row : Option Nat} (h : RdP w B A ps) (hg : w.grownBy w' row) (hr : ∀ b, row = some b → B ≤ b) (hB : B ≤ w.heap.size) : RdP w' B A ps :=
  h.below ⟨hg.os, hg.tape, hg.output, by have := hg.size; omega, fun i hi => hg.block i (by omega) (fun e => by have := hr i e.symm; omega)⟩
/-- A step that leaves the chart's blocks as they are. -/
theorem Ch.still (h : Ch x w k a) (hb : Below w.heap.size w w') : Ch x w' k a :=
  ⟨h.blk.below hb h.blk.lt, h.rp.below (hb.mono (Nat.le_trans h.nc (Nat.le_of_lt h.blk.lt))), h.rr.below (hb.mono (Nat.le_trans h.nc (Nat.le_of_lt h.blk.lt))), h.mpk.below hb h.mpk.lt, h.mpa.below hb h.mpa.lt, h.nk, h.na, h.nc, h.ck, h.ca, h.ka⟩
theorem Ch.alloc (h : Ch x w k a) (o : Obj) : Ch x (w.alloc o) k a := h.still ((Below.refl _ _).alloc (Nat.le_refl _) o)
theorem Ch.drew (h : Ch x w k a) : Ch x w.drew k a := h.still (below_drew1 (Below.refl _ _))
theorem Ch.drewN (h : Ch x w k a) (n : Nat) : Ch x (w.drewN n) k a := h.still (below_drewN (Below.refl _ _) n)
/-- What is known is written. -/
theorem Ch.setK {k' : K4 → Option Int} (h : Ch x w k a) (hm : MapI stretchE 3 boxK w' x.kB k') (hg : w.grownBy w' (some x.kB)) : Ch x w' k' a :=
  have hB : x.B0 ≤ w.heap.size := Nat.le_trans h.nc (Nat.le_of_lt h.blk.lt)
  ⟨h.blk.grown hg (by simp [h.ck]), h.rp.grown hg (fun b e => by injection e with e; subst e; exact h.nk) hB, h.rr.grown hg (fun b e => by injection e with e; subst e; exact h.nk) hB, hm, h.mpa.grown hg (by simpa using fun e => h.ka e.symm), h.nk, h.na, h.nc, h.ck, h.ca, h.ka⟩
theorem Ch.setA {a' : K4 → Option Int} (h : Ch x w k a) (hm : MapI stretchE 3 boxK w' x.aB a') (hg : w.grownBy w' (some x.aB)) : Ch x w' k a' :=
  have hB : x.B0 ≤ w.heap.size := Nat.le_trans h.nc (Nat.le_of_lt h.blk.lt)
  ⟨h.blk.grown hg (by simp [h.ca]), h.rp.grown hg (fun b e => by injection e with e; subst e; exact h.na) hB, h.rr.grown hg (fun b e => by injection e with e; subst e; exact h.na) hB, h.mpk.grown hg (by simp [h.ka]), hm, h.nk, h.na, h.nc, h.ck, h.ca, h.ka⟩
theorem Ch.cell (h : Ch x w k a) (i : Nat) : w.cell? ⟨x.cB, i, none⟩ = x.cells[i]? := h.blk.cell i
theorem Ch.size (h : Ch x w k a) : x.B0 ≤ w.heap.size := Nat.le_trans h.nc (Nat.le_of_lt h.blk.lt)
end
theorem zero_int (w : World) : (zeroValue 3).run Try.prog w = .ok (.int .i64 0) w := by kernel_rfl
/-- The world has grown, but for what is known. -/
def Gk (x : Cx) (w w' : World) : Prop := w.grownBy w' (some x.kB)
theorem Gk.refl (x : Cx) (w : World) : Gk x w w := World.grownBy.refl w _
theorem Gk.trans {x : Cx} {a b c : World} (h : Gk x a b) (k : Gk x b c) : Gk x a c := World.grownBy.trans h k
theorem Gk.below {x : Cx} {w w' : World} (h : Below w.heap.size w w') : Gk x w w' := ⟨h.os, h.tape, h.output, h.size, fun i hi _ => h.block i hi⟩
theorem Gk.low {x : Cx} {w w' : World} (h : Gk x w w') (hk : x.B0 ≤ x.kB) (hB : x.B0 ≤ w.heap.size) : Below x.B0 w w' := ⟨h.os, h.tape, h.output, by have := h.size; omega, fun i hi => h.block i (by omega) (fun e => by injection e with e; omega)⟩
theorem Gk.blk {x : Cx} {w w' : World} {b : Nat} {t : TypeId} {cs : Array Value} (h : Gk x w w') (hb : Blk w b t cs) (hne : b ≠ x.kB) : Blk w' b t cs := hb.grown h (by simp [hne])
end Go.Proofs.Ytadabkkkalgehaa.H
