import Derived.Test.YtadabkkkalgehaaZ1
import Derived.Outline
namespace Go.Proofs.Ytadabkkkalgehaa.H
open Go.RowKit
set_option linter.unusedVariables false
set_option linter.unusedSimpArgs false
def Reach (g : Gr) (row : List Int) (b : List Int) : Nat → Nat → Nat → Prop
  | 0, f, q => q = f
  | i + 1, f, q => ∃ q', Reach g row b i f q' ∧ q' < q ∧ q ≤ row.length ∧ 0 < numS g row (b.getD i 0) q' q
def BodyN (g : Gr) (row : List Int) (P : Int → Nat → Prop) (p f : Nat) : Prop := ∃ i q, i < (bodyAt g p).length ∧ Reach g row (bodyAt g p) i f q ∧ P ((bodyAt g p).getD i 0) q
def BeN (g : Gr) (row : List Int) : Nat → Int → Nat → Prop
  | 0, s, f => f = row.length ∨ (s < g.T ∧ f + 1 = row.length ∧ row[f]? = some s)
  | n + 1, s, f => BeN g row n s f ∨ (¬ s < g.T ∧ ∃ p, p < g.ps.length ∧ headAt g p = s ∧ BodyN g row (BeN g row n) p f)
def Be (g : Gr) (row : List Int) (s : Int) (f : Nat) : Prop := ∃ n, BeN g row n s f
theorem BeN.le {g : Gr} {row : List Int} {n m : Nat} {s : Int} {f : Nat} (h : BeN g row n s f) (hm : n ≤ m) : BeN g row m s f := by
  obtain ⟨k, rfl⟩ := Nat.le.dest hm
  clear hm
  induction k with
  | zero => exact h
  | succ k ih => exact .inl ih
theorem Reach.range {g : Gr} {row b : List Int} : ∀ {i f q : Nat}, Reach g row b i f q → f ≤ row.length → f ≤ q ∧ q ≤ row.length := by
  intro i
  induction i with
  | zero => intro f q h hf; have : q = f := h; omega
  | succ i ih =>
    intro f q h hf
    obtain ⟨q', h1, h2, h3, _⟩ := h
    have := ih h1 hf
    omega
theorem least {P : Nat → Prop} {n : Nat} (h : P n) : ∃ m, m ≤ n ∧ P m ∧ ∀ k, k < m → ¬ P k := by
  induction n using Nat.strongRecOn with
  | _ n ih =>
    by_cases hx : ∃ k, k < n ∧ P k
    · obtain ⟨k, hk, hp⟩ := hx
      obtain ⟨m, h1, h2, h3⟩ := ih k hk hp
      exact ⟨m, by omega, h2, h3⟩
    · exact ⟨n, Nat.le_refl _, h, fun k hk hp => hx ⟨k, hk, hp⟩⟩
def keyA (s : Int) (f : Nat) : K4 := ⟨-1, s, (f : Int), 0⟩
theorem keyA_inj {s s' : Int} {f f' : Nat} (h : keyA s f = keyA s' f') : s = s' ∧ f = f' := by
  simp only [keyA, K4.mk.injEq, true_and, Int.natCast_inj, and_true] at h
  exact h
def AInv (x : Cx) (a : K4 → Option Int) : Prop := ∀ q v, a q = some v → ∃ (s : Int) (f : Nat), q = keyA s f ∧ x.g.T ≤ s ∧ s < x.g.S ∧ f < x.row.length ∧ (v = 0 ∨ (v = 1 ∧ Be x.g x.row s f))
def Stk (a : K4 → Option Int) (s : Int) (f : Nat) : Prop := a (keyA s f) = some 0
def SameStk (a b : K4 → Option Int) : Prop := ∀ s f, Stk a s f ↔ Stk b s f
theorem SameStk.refl (a : K4 → Option Int) : SameStk a a := fun _ _ => Iff.rfl
theorem SameStk.trans {a b c : K4 → Option Int} (h : SameStk a b) (k : SameStk b c) : SameStk a c := fun s f => (h s f).trans (k s f)
def asks : List (Nat × Nat) := (List.range 64).flatMap fun s => (List.range 65).map fun f => (s, f)
theorem mem_asks {s f : Nat} (hs : s < 64) (hf : f < 65) : (s, f) ∈ asks := List.mem_flatMap.2 ⟨s, List.mem_range.2 hs, List.mem_map.2 ⟨f, List.mem_range.2 hf, rfl⟩⟩
def free (a : K4 → Option Int) : Nat := (asks.filter fun q => !(decide (a (keyA q.1 q.2) = some 0))).length
theorem free_same {a b : K4 → Option Int} (h : SameStk a b) : free a = free b := by
  unfold free
  congr 2
  funext q
  have := h (q.1 : Int) q.2
  unfold Stk at this
  rw [decide_eq_decide.2 this]
theorem filter_lt {α : Type} {p q : α → Bool} (hpq : ∀ y, p y = true → q y = true) : ∀ (l : List α) (y : α), y ∈ l → p y = false → q y = true → (l.filter p).length < (l.filter q).length := by
  have le : ∀ l : List α, (l.filter p).length ≤ (l.filter q).length := by
    intro l
    induction l with
    | nil => simp
    | cons z l ih =>
      simp only [List.filter_cons]
      cases hz : p z with
      | true => rw [hpq z hz]; simp; exact ih
      | false => cases q z <;> simp <;> omega
  intro l
  induction l with
  | nil => intro y hy; simp at hy
  | cons z l ih =>
    intro y hy h1 h2
    simp only [List.filter_cons]
    rcases List.mem_cons.1 hy with rfl | hy
    · rw [h1, h2]; have := le l; simp; omega
    · have := ih y hy h1 h2
      cases hz : p z with
      | true => rw [hpq z hz]; simpa using this
      | false => cases q z <;> simp <;> omega
theorem free_put {a : K4 → Option Int} {s : Int} {f : Nat} (h0 : 0 ≤ s) (h1 : s < 64) (hf : f < 65) (h : a (keyA s f) ≠ some 0) : free (put a (keyA s f) (some 0)) < free a := by
  unfold free
  refine filter_lt (fun y hy => ?_) asks (s.toNat, f) (mem_asks (by omega) hf) ?_ ?_
  · by_cases e : keyA y.1 y.2 = keyA s f
    · rw [e]; simpa using h
    · rwa [put_other _ _ e] at hy
  · have e : keyA ((s.toNat : Nat) : Int) f = keyA s f := by rw [show ((s.toNat : Nat) : Int) = s from by omega]
    dsimp only
    rw [e, put_same]
    simp
  · have e : keyA ((s.toNat : Nat) : Int) f = keyA s f := by rw [show ((s.toNat : Nat) : Int) = s from by omega]
    dsimp only
    rw [e]
    simpa using h
structure Gb (x : Cx) (w w' : World) : Prop where
  os : w'.os = w.os
  tape : w'.tape = w.tape
  output : w'.output = w.output
  size : w.heap.size ≤ w'.heap.size
  block : ∀ i, i < w.heap.size → i ≠ x.kB → i ≠ x.aB → w'.heap[i]? = w.heap[i]?
theorem Gb.refl (x : Cx) (w : World) : Gb x w w := ⟨rfl, rfl, rfl, Nat.le_refl _, fun _ _ _ _ => rfl⟩
theorem Gb.trans {x : Cx} {a b c : World} (h : Gb x a b) (k : Gb x b c) : Gb x a c :=
  ⟨k.os.trans h.os, k.tape.trans h.tape, k.output.trans h.output, Nat.le_trans h.size k.size, fun i hi h1 h2 => (k.block i (Nat.lt_of_lt_of_le hi h.size) h1 h2).trans (h.block i hi h1 h2)⟩
theorem Gb.below {x : Cx} {w w' : World} (h : Below w.heap.size w w') : Gb x w w' := ⟨h.os, h.tape, h.output, h.size, fun i hi _ _ => h.block i hi⟩
theorem Gb.k {x : Cx} {w w' : World} (h : Gk x w w') : Gb x w w' := ⟨h.os, h.tape, h.output, h.size, fun i hi h1 _ => h.block i hi (fun e => by injection e with e; exact h1 e)⟩
theorem Gb.a {x : Cx} {w w' : World} (h : w.grownBy w' (some x.aB)) : Gb x w w' := ⟨h.os, h.tape, h.output, h.size, fun i hi _ h2 => h.block i hi (fun e => by injection e with e; exact h2 e)⟩
theorem Gb.low {x : Cx} {w w' : World} (h : Gb x w w') (hk : x.B0 ≤ x.kB) (ha : x.B0 ≤ x.aB) (hB : x.B0 ≤ w.heap.size) : Below x.B0 w w' := ⟨h.os, h.tape, h.output, by have := h.size; omega, fun i hi => h.block i (by omega) (by omega) (by omega)⟩
theorem Gb.blk {x : Cx} {w w' : World} {b : Nat} {t : TypeId} {cs : Array Value} (h : Gb x w w') (hb : Blk w b t cs) (h1 : b ≠ x.kB) (h2 : b ≠ x.aB) : Blk w' b t cs := (h.block b hb.lt h1 h2).trans hb
theorem Gb.own {x : Cx} {w w' : World} {B : Nat} {v : Value} {xs : List Int} (h : Gb x w w') (ho : OwnI w B v xs) (h1 : x.kB < B) (h2 : x.aB < B) : OwnI w' B v xs := by
  obtain ⟨e1, e2⟩ := ho
  refine ⟨e1, ?_⟩
  rcases e2 with h0 | ⟨g, cap, cur, hv, hB, hh, hr⟩
  · exact .inl h0
  · have hlt : g < w.heap.size := by
      rcases Nat.lt_or_ge g w.heap.size with h | h
      · exact h
      · rw [Array.getElem?_eq_none h] at hh; cases hh
    exact .inr ⟨g, cap, cur, hv, hB, (h.block g hlt (by omega) (by omega)).trans hh, hr⟩
def RetB (x : Cx) (s : Int) (f : Nat) (a : K4 → Option Int) (w : World) (e : Ending) (w' : World) : Prop :=
  ∃ r, e = .returned (.bool r) ∧ (∃ k' a', Ch x w' k' a' ∧ Kn x k' ∧ AInv x a' ∧ SameStk a' a) ∧ Gb x w w' ∧ (r = true → Be x.g x.row s f) ∧ (∀ n, BeN x.g x.row n s f → (∀ s' f', Stk a s' f' → ¬ BeN x.g x.row n s' f') → r = true)
def RetG (x : Cx) (p f : Nat) (a : K4 → Option Int) (w : World) (e : Ending) (w' : World) : Prop :=
  ∃ r, e = .returned (.bool r) ∧ (∃ k' a', Ch x w' k' a' ∧ Kn x k' ∧ AInv x a' ∧ SameStk a' a) ∧ Gb x w w' ∧ (r = true → ∃ n, BodyN x.g x.row (BeN x.g x.row n) p f) ∧ (∀ n, BodyN x.g x.row (BeN x.g x.row n) p f → (∀ s' f', Stk a s' f' → ¬ BeN x.g x.row n s' f') → r = true)
def BgnC (x : Cx) (N : Nat) : Prop := ∀ (s : Int) (f : Nat) (w : World) (k a : K4 → Option Int), 0 ≤ s → s < x.g.S → f ≤ x.row.length → free a ≤ N → Ch x w k a → Kn x k → AInv x a →
  Calls Try.prog 36 #[.pointer (some ⟨x.cB, 0, none⟩), .int .i64 s, .int .i64 f] w (RetB x s f a w)
def BngC (x : Cx) (N : Nat) : Prop := ∀ (p f : Nat) (w : World) (k a : K4 → Option Int), p < x.g.ps.length → f ≤ x.row.length → free a ≤ N → Ch x w k a → Kn x k → AInv x a →
  Calls Try.prog 46 #[.pointer (some ⟨x.cB, 0, none⟩), .int .i64 p, .int .i64 f] w (RetG x p f a w)
end Go.Proofs.Ytadabkkkalgehaa.H
namespace Go.Proofs.Ytadabkkkalgehaa.H
open Go.RowKit
set_option linter.unusedVariables false
set_option linter.unusedSimpArgs false
theorem Ch.low {x : Cx} {w w' : World} {k a : K4 → Option Int} {B : Nat} (h : Ch x w k a) (hb : Below B w w') (h1 : x.cB < B) (h2 : x.kB < B) (h3 : x.aB < B) : Ch x w' k a :=
  ⟨h.blk.below hb h1, h.rp.below (hb.mono (Nat.le_trans h.nc (Nat.le_of_lt h1))), h.rr.below (hb.mono (Nat.le_trans h.nc (Nat.le_of_lt h1))), h.mpk.below hb h2, h.mpa.below hb h3, h.nk, h.na, h.nc, h.ck, h.ca, h.ka⟩
def cast (l : List Nat) : List Int := l.map fun q : Nat => (q : Int)
theorem cast_get (l : List Nat) (i : Nat) (h : i < l.length) : (cast l)[i]'(by simpa [cast] using h) = (l[i] : Int) := by simp [cast]
theorem cast_len (l : List Nat) : (cast l).length = l.length := by simp [cast]
theorem cast_snoc (l : List Nat) (q : Nat) : cast (l ++ [q]) = cast l ++ [(q : Int)] := by simp [cast]
theorem OwnI.rd {w : World} {B n c : Nat} {A : Option Addr} {xs : List Int} (h : OwnI w B (.slice A n c) xs) : Rd eI 1 w w.heap.size A xs := by
  obtain ⟨A', c', e, _, _, hr, _⟩ := h.open_
  injection e with e1 e2 e3
  subst e1
  exact hr
theorem OwnI.low {w w' : World} {B B2 : Nat} {v : Value} {xs : List Int} (h : OwnI w B v xs) (hb : Below B2 w w') (hl : ∀ g, v.ownBlock = some g → g < B2) : OwnI w' B v xs := by
  obtain ⟨h1, h2⟩ := h
  refine ⟨h1, ?_⟩
  rcases h2 with h0 | ⟨g, cap, cur, hv, hB, hh, hr⟩
  · exact .inl h0
  · exact .inr ⟨g, cap, cur, hv, hB, (hb.block g (hl g (by rw [hv]; rfl))).trans hh, hr⟩
theorem OwnI.ltOf {w : World} {B B2 : Nat} {v : Value} {xs : List Int} (h : OwnI w B v xs) (hB : w.heap.size = B2) : ∀ g, v.ownBlock = some g → g < B2 := fun g hg => by rw [← hB]; exact (World.ownsRow.lt h g hg).2
def Go_ (x : Cx) (a : K4 → Option Int) (w wr : World) : Prop := (∃ k' a', Ch x wr k' a' ∧ Kn x k' ∧ AInv x a' ∧ SameStk a' a) ∧ Gb x w wr
theorem Go_.low {x : Cx} {a : K4 → Option Int} {w wr wr' : World} {B : Nat} (h : Go_ x a w wr) (hb : Below B wr wr') (h1 : x.cB < B) (h2 : x.kB < B) (h3 : x.aB < B) (hw : w.heap.size ≤ B) : Go_ x a w wr' := by
  obtain ⟨⟨k', a', c1, c2, c3, c4⟩, g⟩ := h
  exact ⟨⟨k', a', c1.low hb h1 h2 h3, c2, c3, c4⟩, ⟨hb.os.trans g.os, hb.tape.trans g.tape, hb.output.trans g.output, Nat.le_trans g.size hb.size, fun i hi e1 e2 => (hb.block i (by omega)).trans (g.block i hi e1 e2)⟩⟩
set_option maxRecDepth 100000 in
set_option maxHeartbeats 8000000 in
theorem beginning_walk (x : Cx) (hg : GrD x.g (rankOf x.g)) (hrow : x.row.length ≤ 64) (hb8 : ∀ q ∈ x.g.ps, q.body.length ≤ 8) (N : Nat) (ih : BgnC x N) : BngC x N := by
  intro p f w k a hp hf hN HC HK HA
  have q3 := HC.cell 3
  have q4 := HC.cell 4
  simp [Cx.cells] at q3 q4
  obtain ⟨ad, Ab, cb, eA, c1, hlb, hrb⟩ := HC.prod hp
  have hl8 : (bodyAt x.g p).length ≤ 8 := by rw [bodyAt_get hp]; exact hb8 _ (List.getElem_mem hp)
  rw [eA] at q3
  have i1 : (0 : Int) ≤ p := by omega
  have i2 : (p : Int) < x.g.ps.length := by omega
  have nb : (ad.add (p * 3)).block < w.heap.size := by have := cell_lt c1; exact this
  have nc := HC.blk.lt
  have nk := HC.mpk.lt
  have na := HC.mpa.lt
  have hB0 : Keep (x.B0 ≤ x.kB ∧ x.B0 ≤ x.aB ∧ x.B0 ≤ w.heap.size ∧ x.B0 ≤ x.cB) := ⟨HC.nk, HC.na, HC.size, HC.nc⟩
  have HQ4 : Keep (∀ W k' a', Ch x W k' a' → W.cell? ⟨x.cB, 4, none⟩ = some (.slice x.Ar x.row.length x.cr)) := ⟨fun W k' a' h => by have := h.cell 4; simpa [Cx.cells] using this⟩
  have IHB : Keep (∀ (s : Int) (q : Nat) (W : World) (k' a' : K4 → Option Int), 0 ≤ s → s < x.g.S → q ≤ x.row.length → SameStk a' a → Ch x W k' a' → Kn x k' → AInv x a' → Calls Try.prog 36 #[.pointer (some ⟨x.cB, 0, none⟩), .int .i64 s, .int .i64 q] W (RetB x s q a' W)) :=
    ⟨fun s q W k' a' h0 h1 h2 h3 hc hk ha => ih s q W k' a' h0 h1 h2 (by rw [free_same h3]; exact hN) hc hk ha⟩
  have IHS : Keep (∀ (s : Int) (q t : Nat) (W : World) (k' a' : K4 → Option Int), 0 ≤ s → s < x.g.S → q ≤ t → t ≤ x.row.length → Ch x W k' a' → Kn x k' → Calls Try.prog 32 #[.pointer (some ⟨x.cB, 0, none⟩), .int .i64 s, .int .i64 q, .int .i64 t] W (RetN x (numS x.g x.row s q t) a' W)) :=
    ⟨fun s q t W k' a' h0 h1 h2 h3 hc hk => symbol_any x hg hrow hb8 s q t W k' a' h0 h1 h2 h3 hc hk⟩
  have HY : Keep (∀ i, i < (bodyAt x.g p).length → 0 ≤ (bodyAt x.g p).getD i 0 ∧ (bodyAt x.g p).getD i 0 < x.g.S) := ⟨fun i hi => hg.body hp hi⟩
  have HR : Keep (Rd eI 1 w x.B0 Ab (bodyAt x.g p)) := ⟨hrb⟩
  have HPOST : Keep (∀ e w' r, e = .returned (.bool r) → Go_ x a w w' → (r = true → ∃ n, BodyN x.g x.row (BeN x.g x.row n) p f) → (∀ n, BodyN x.g x.row (BeN x.g x.row n) p f → (∀ s' f', Stk a s' f' → ¬ BeN x.g x.row n s' f') → r = true) → RetG x p f a w e w') :=
    ⟨fun e w' r h1 h2 h3 h4 => ⟨r, h1, h2.1, h2.2, h3, h4⟩⟩
  have HBD : Keep (∀ P, BodyN x.g x.row P p f ↔ ∃ i q, i < (bodyAt x.g p).length ∧ Reach x.g x.row (bodyAt x.g p) i f q ∧ P ((bodyAt x.g p).getD i 0) q) := ⟨fun P => Iff.rfl⟩
  have hrl : Keep (OwnI (w.alloc (.cells #[.int .i64 f] 3)) w.heap.size (.slice (some ⟨w.heap.size, 0, none⟩) 1 1) (cast [f])) := ⟨World.ownsRow_lit w #[.int .i64 f] 1 (Nat.le_refl _) (by simp [maxLen]) (by simp)⟩
  have G0 : Keep (Go_ x a w (w.alloc (.cells #[.int .i64 f] 3))) := ⟨⟨k, a, HC.alloc _, HK, HA, SameStk.refl a⟩, Gb.below ((Below.refl _ _).alloc (Nat.le_refl _) _)⟩
  have R0 : Keep (∀ q : Nat, q ∈ [f] ↔ Reach x.g x.row (bodyAt x.g p) 0 f q) := ⟨fun q => by simp [Reach]⟩
  have D0 : Keep (∀ j, j < 0 → ∀ q, Reach x.g x.row (bodyAt x.g p) j f q → ∀ n, BeN x.g x.row n ((bodyAt x.g p).getD j 0) q → (∀ s' f', Stk a s' f' → ¬ BeN x.g x.row n s' f') → False) := ⟨fun j hj => absurd hj (Nat.not_lt_zero _)⟩
  generalize hPost : RetG x p f a w = Post at *
  generalize bodyAt x.g p = b at *
  clear HC HK HA hrb ih hg hb8 hPost hN
  go_enter Try.func46, Try.ntmps46
  go_wp2
  clear c1 q3 q4 nb
  generalize hBB : w.heap.size = BB at *
  have HBB := Keep.mk hBB
  clear hBB
  go_loopg [7, 28] b.length (fun gg s7 s28 wr => ∃ (i : Nat) (pl : List Nat), i ≤ b.length ∧ b.length - i ≤ gg ∧ s28 = .int .i64 (i : Int) ∧ pl.length ≤ 65 ∧ Keep (OwnI wr BB s7 (cast pl)) ∧ Keep (∀ q, q ∈ pl ↔ Reach x.g x.row b i f q) ∧ Keep (Go_ x a w wr) ∧
    Keep (∀ j, j < i → ∀ q, Reach x.g x.row b j f q → ∀ n, BeN x.g x.row n (b.getD j 0) q → (∀ s' f', Stk a s' f' → ¬ BeN x.g x.row n s' f') → False))
  case atStart => exact ⟨0, [f], Nat.zero_le _, by omega, rfl, by simp, hrl, R0, G0, D0⟩
  case round =>
    clear hrl R0 G0 D0
    obtain ⟨i, pl, hi, hgi, rfl, hpl, OP, HM, HG, HD⟩ := hrel
    by_cases hlt : i < b.length
    · obtain ⟨A7, c7, e7, hl7, _, rd7, hb7, _⟩ := OP.out.open_
      subst e7
      have R7 := Keep.mk rd7
      rw [cast_len] at hl7
      clear rd7 hb7
      have hyr := HY.out i hlt
      obtain ⟨ab, eb, hbb, hcb⟩ := HR.out.int i hlt
      have hcy : Keep (w.cell? (ab.add i) = some (.int .i64 (b.getD i 0)) ∧ ab.block < x.B0) := ⟨by rw [List.getD_eq_getElem?_getD, List.getElem?_eq_getElem hlt]; exact hcb, hbb⟩
      have hcy1 : wr.cell? (ab.add i) = some (.int .i64 (b.getD i 0)) := cell_below hcy.out.1 (by rw [← HBB.out] at hB0; exact HG.out.2.low hB0.out.1 hB0.out.2.1 hB0.out.2.2.1) (by rw [add_block]; exact hcy.out.2)
      have nby : (ab.add i).block < wr.heap.size := cell_lt hcy1
      subst eb
      have hsn : Keep (∀ q, Reach x.g x.row b (i + 1) f q ↔ ∃ q', Reach x.g x.row b i f q' ∧ q' < q ∧ q ≤ x.row.length ∧ 0 < numS x.g x.row (b.getD i 0) q' q) := ⟨fun q => Iff.rfl⟩
      have hrange : Keep (∀ q ∈ pl, f ≤ q ∧ q ≤ x.row.length) := ⟨fun q hq => ((HM.out q).1 hq).range hf⟩
      clear hcb hbb
      generalize hy : b.getD i 0 = y at *
      have Hy := Keep.mk hy
      clear hy
      have j1 : (0 : Int) ≤ i := by omega
      have j2 : (i : Int) < b.length := by omega
      obtain ⟨wo, rfl⟩ : ∃ wo : World, wo = wr := ⟨_, rfl⟩
      have nwo : Keep (x.cB < wo.heap.size ∧ x.kB < wo.heap.size ∧ x.aB < wo.heap.size ∧ BB ≤ wo.heap.size) := ⟨by obtain ⟨⟨k', a', h, _⟩, g⟩ := HG.out; exact ⟨h.blk.lt, h.mpk.lt, h.mpa.lt, by rw [← HBB.out]; exact g.size⟩⟩
      have CP : Keep ((cast pl).length = pl.length) := ⟨cast_len pl⟩
      have CG : Keep (∀ m (h : m < pl.length), (cast pl)[m]'(by simpa [cast] using h) = (pl[m] : Int)) := ⟨fun m h => cast_get pl m h⟩
      rw [CP.out]
      go_wp2
      clear hcy1 nby
      go_loopg [34] pl.length (fun gg s34 w2 => ∃ m : Nat, m ≤ pl.length ∧ pl.length - m ≤ gg ∧ s34 = .int .i64 (m : Int) ∧ Keep (OwnI w2 BB (.slice A7 pl.length c7) (cast pl)) ∧ Keep (Go_ x a w w2) ∧
        Keep (∀ j (hj : j < pl.length), j < m → ∀ n, BeN x.g x.row n y pl[j] → (∀ s' f', Stk a s' f' → ¬ BeN x.g x.row n s' f') → False))
      case atStart => exact ⟨0, Nat.zero_le _, by omega, rfl, by rw [← CP.out]; exact OP, HG, ⟨fun j _ hj => absurd hj (Nat.not_lt_zero _)⟩⟩
      case round =>
        obtain ⟨m, hm, hgm, rfl, OP2, HG2, HD2⟩ := hrel
        obtain ⟨w2, rfl⟩ : ∃ w2 : World, w2 = wr := ⟨_, rfl⟩
        by_cases hltm : m < pl.length
        · obtain ⟨a7, e7, hb7, hc7⟩ := OP2.out.rd.int m (by rw [CP.out]; exact hltm)
          rw [CG.out m hltm] at hc7
          have hq := hrange.out _ (List.getElem_mem hltm)
          have HMq := Keep.mk ((HM.out pl[m]).1 (List.getElem_mem hltm))
          subst e7
          generalize hqq : pl[m] = q at *
          have Hq := Keep.mk hqq
          clear hqq
          have k1 : (0 : Int) ≤ m := by omega
          have k2 : (m : Int) < pl.length := by omega
          have hst := Keep.mk HG2.out.1
          have KI : Keep (Calls Try.prog 36 #[.pointer (some ⟨x.cB, 0, none⟩), .int .i64 y, .int .i64 q] w2 (fun e w3 => ∃ r, e = .returned (.bool r) ∧ Keep (Go_ x a w w3) ∧ Keep (Gb x w2 w3) ∧ Keep (r = true → Be x.g x.row y q) ∧ Keep (∀ n, BeN x.g x.row n y q → (∀ s' f', Stk a s' f' → ¬ BeN x.g x.row n s' f') → r = true))) := ⟨by
            obtain ⟨k', a', c1, c2, c3, c4⟩ := hst.out
            refine (IHB.out y q w2 k' a' hyr.1 hyr.2 hq.2 c4 c1 c2 c3).mono ?_
            rintro e w3 ⟨r, rfl, ⟨k2, a2, d1, d2, d3, d4⟩, g3, h1, h2⟩
            exact ⟨r, rfl, ⟨⟨k2, a2, d1, d2, d3, d4.trans c4⟩, HG2.out.2.trans g3⟩, ⟨g3⟩, ⟨h1⟩, ⟨fun n hn hs => h2 n hn (fun s' f' hst => hs s' f' ((c4 s' f').1 hst))⟩⟩⟩
          clear hst
          go_wp2_with fail
          refine KI.out.mono ?_
          rintro e w3 ⟨r, rfl, G3, GB3, Ht, Hf⟩
          have OP3 : Keep (OwnI w3 BB (.slice (some a7) pl.length c7) (cast pl)) := ⟨GB3.out.own OP2.out nk na⟩
          clear KI hc7 hb7
          cases r with
          | true =>
            go_wp2
            try go_ret
            refine HPOST.out _ _ true rfl G3.out (fun _ => ?_) (fun _ _ _ => rfl)
            obtain ⟨n, hn⟩ := Ht.out (by first | rfl | trivial)
            exact ⟨n, (HBD.out _).2 ⟨i, q, hlt, HMq.out, by rw [Hy.out]; exact hn⟩⟩
          | false =>
            go_wp2
            go_roundg (pl.length - (m + 1))
            case measure => omega
            case rel =>
              refine ⟨m + 1, by omega, by omega, by go_num, OP3, G3, ⟨fun j hj hjm n hn hs => ?_⟩⟩
              by_cases e : j = m
              · subst e
                rw [Hq.out] at hn
                cases Hf.out n hn hs
              · exact HD2.out j hj (by omega) n hn hs
        · have HDi : Keep (∀ j, j < i + 1 → ∀ q, Reach x.g x.row b j f q → ∀ n, BeN x.g x.row n (b.getD j 0) q → (∀ s' f', Stk a s' f' → ¬ BeN x.g x.row n s' f') → False) := ⟨fun j hj q hr n hn hs => by
            by_cases e : j = i
            · subst e
              obtain ⟨j', hj', rfl⟩ := List.getElem_of_mem ((HM.out q).2 hr)
              rw [Hy.out] at hn
              exact HD2.out j' hj' (by omega) n hn hs
            · exact HD.out j (by omega) q hr n hn hs⟩
          clear HD HD2 IHB
          have nw2 : Keep (x.cB < w2.heap.size ∧ x.kB < w2.heap.size ∧ x.aB < w2.heap.size ∧ BB ≤ w2.heap.size) := ⟨by obtain ⟨⟨k', a', h, _⟩, g⟩ := HG2.out; exact ⟨h.blk.lt, h.mpk.lt, h.mpa.lt, by rw [← HBB.out]; exact g.size⟩⟩
          obtain ⟨w5, rfl⟩ : ∃ w5 : World, w5 = w2 := ⟨_, rfl⟩
          generalize hB2 : w5.heap.size = B2 at *
          have HB2 := Keep.mk hB2
          clear hB2
          have HK2 : Keep (∀ g, (Value.slice A7 pl.length c7).ownBlock = some g → g < B2) := ⟨OP2.out.ltOf HB2.out⟩
          go_wp2
          go_loopg [10, 13] 66 (fun gg s10 s13 w3 => ∃ (c : Nat) (nx : List Nat), f + 1 ≤ c ∧ c ≤ x.row.length + 1 ∧ 66 - c ≤ gg ∧ s13 = .int .i64 (c : Int) ∧ nx.length + f + 1 ≤ c ∧ Keep (OwnI w3 B2 s10 (cast nx)) ∧ Keep (OwnI w3 BB (.slice A7 pl.length c7) (cast pl)) ∧ Keep (Go_ x a w w3) ∧
            Keep (∀ q, q ∈ nx ↔ q < c ∧ Reach x.g x.row b (i + 1) f q) ∧ Keep (B2 ≤ w3.heap.size))
          case atStart =>
            refine ⟨f + 1, [], Nat.le_refl _, by omega, by omega, by go_num, by simp, ⟨OwnI.nil _ _⟩, OP2, HG2, ⟨fun q => ?_⟩, ⟨by rw [HB2.out]; exact Nat.le_refl _⟩⟩
            constructor
            · intro h; cases h
            · rintro ⟨h1, h2⟩
              obtain ⟨q', h3, h4, _⟩ := (hsn.out q).1 h2
              have := h3.range hf
              omega
          case round =>
            obtain ⟨c, nx, hc1, hc2, hgc, rfl, hnl, ON, OP3, HG3, HN, HB3⟩ := hrel
            obtain ⟨w3, rfl⟩ : ∃ w3 : World, w3 = wr := ⟨_, rfl⟩
            obtain ⟨A10, c10, e10, _, _, _, _, _⟩ := ON.out.open_
            subst e10
            by_cases hcl : c ≤ x.row.length
            · have q4 : w3.cell? ⟨x.cB, 4, none⟩ = some (.slice x.Ar x.row.length x.cr) := by obtain ⟨⟨k', a', h, _⟩, _⟩ := HG3.out; exact HQ4.out w3 k' a' h
              have nc3 : x.cB < w3.heap.size := by have := HB3.out; have := nw2.out.1; omega
              have hcl2 : (c : Int) ≤ x.row.length := by omega
              go_wp2
              clear q4 nc3
              go_loopg [10, 56] pl.length (fun gg s10 s56 wr => ∃ m : Nat, m ≤ pl.length ∧ pl.length - m ≤ gg ∧ s10 = .slice A10 (cast nx).length c10 ∧ s56 = .int .i64 (m : Int) ∧ Keep (OwnI wr B2 (.slice A10 (cast nx).length c10) (cast nx)) ∧ Keep (OwnI wr BB (.slice A7 pl.length c7) (cast pl)) ∧ Keep (Go_ x a w wr) ∧
                Keep (∀ j (hj : j < pl.length), j < m → ¬ (pl[j] < c ∧ 0 < numS x.g x.row y pl[j] c)) ∧ Keep (B2 ≤ wr.heap.size))
              case atStart => exact ⟨0, Nat.zero_le _, by omega, rfl, rfl, ON, OP3, HG3, ⟨fun j _ hj => absurd hj (Nat.not_lt_zero _)⟩, HB3⟩
              case round =>
                obtain ⟨m, hm, hgm, rfl, rfl, ON4, OP4, HG4, HNo, HB4⟩ := hrel
                obtain ⟨w4, rfl⟩ : ∃ w4 : World, w4 = wr := ⟨_, rfl⟩
                by_cases hltm : m < pl.length
                · obtain ⟨a7, e7, hb7, hc7⟩ := OP4.out.rd.int m (by rw [CP.out]; exact hltm)
                  rw [CG.out m hltm] at hc7
                  have hq := hrange.out _ (List.getElem_mem hltm)
                  have HMq := Keep.mk ((HM.out pl[m]).1 (List.getElem_mem hltm))
                  subst e7
                  generalize hqq : pl[m] = q at *
                  have Hq := Keep.mk hqq
                  clear hqq
                  have k1 : (0 : Int) ≤ m := by omega
                  have k2 : (m : Int) < pl.length := by omega
                  by_cases hqc : q < c
                  · have hqc2 : (q : Int) < c := by omega
                    have KI : Keep (Calls Try.prog 32 #[.pointer (some ⟨x.cB, 0, none⟩), .int .i64 y, .int .i64 q, .int .i64 c] w4 (fun e w5 => e = .returned (.int .i64 (cap (numS x.g x.row y q c))) ∧ Keep (Go_ x a w w5) ∧ Keep (Gb x w4 w5))) := ⟨by
                      obtain ⟨⟨k', a', c1, c2, c3, c4⟩, g4⟩ := HG4.out
                      refine (IHS.out y q c w4 k' a' hyr.1 hyr.2 (by omega) hcl c1 c2).mono ?_
                      rintro e w5 ⟨rfl, k2, d1, d2, g5⟩
                      exact ⟨rfl, ⟨⟨k2, a', d1, d2, c3, c4⟩, g4.trans (Gb.k g5)⟩, ⟨Gb.k g5⟩⟩⟩
                    have hcr := cap_range (numS x.g x.row y q c)
                    by_cases hpos : 0 < numS x.g x.row y q c
                    · have hpc := (cap_pos _).2 hpos
                      have HX : Keep (∀ q', q' ∈ nx ++ [c] ↔ q' < c + 1 ∧ Reach x.g x.row b (i + 1) f q') := ⟨fun q' => by
                        rw [List.mem_append, List.mem_singleton, HN.out q']
                        constructor
                        · rintro (⟨h1, h2⟩ | rfl)
                          · exact ⟨by omega, h2⟩
                          · exact ⟨by omega, (hsn.out _).2 ⟨q, HMq.out, hqc, hcl, hpos⟩⟩
                        · rintro ⟨h1, h2⟩
                          by_cases e : q' = c
                          · exact .inr e
                          · exact .inl ⟨by omega, h2⟩⟩
                      clear hpos
                      generalize cap (numS x.g x.row y q c) = cn at *
                      go_wp2_with fail
                      refine KI.out.mono ?_
                      rintro e w6 ⟨rfl, G6, GB6⟩
                      have hB6 : B2 ≤ w6.heap.size := Nat.le_trans HB4.out GB6.out.size
                      have OP6 : Keep (OwnI w6 BB (.slice (some a7) pl.length c7) (cast pl)) := ⟨GB6.out.own OP4.out nk na⟩
                      have ON6 : Keep (OwnI w6 B2 (.slice A10 (cast nx).length c10) (cast nx)) := ⟨GB6.out.own ON4.out nw2.out.2.1 nw2.out.2.2.1⟩
                      clear KI hc7 hb7
                      go_wp2_with (at_builtin; refine wpl_append_int _ rfl (.tmp 71) (.tmp 73) rfl B2 _ (cast nx) rfl (ON6.out.below ((Below.refl _ _).alloc (Nat.le_refl _) _)) w6.heap.size (c : Int) rfl ?c1 ?c2 ?c3 ?_)
                      case c1 => simp [World.cell?_alloc_at]
                      case c2 => rw [cast_len]; omega
                      case c3 => simp; omega
                      intro v' w7 hGr
                      have BL6 : Keep (Below B2 w6 w7) := ⟨((Below.refl _ _).alloc hB6 _).trans hGr.low⟩
                      have OP7 : Keep (OwnI w7 BB (.slice (some a7) pl.length c7) (cast pl)) := ⟨OP6.out.low BL6.out HK2.out⟩
                      have ON7 : Keep (OwnI w7 B2 v' (cast (nx ++ [c]))) := ⟨by rw [cast_snoc]; exact hGr.own⟩
                      have G7 : Keep (Go_ x a w w7) := ⟨G6.out.low BL6.out nw2.out.1 nw2.out.2.1 nw2.out.2.2.1 (by rw [HBB.out]; exact nw2.out.2.2.2)⟩
                      have hB7 : Keep (B2 ≤ w7.heap.size) := ⟨Nat.le_trans hB6 BL6.out.size⟩
                      clear hGr
                      go_wp2
                      go_roundg (66 - (c + 1))
                      case measure => omega
                      case rel => exact ⟨c + 1, nx ++ [c], by omega, by omega, by omega, by go_num, by simp; omega, ON7, OP7, G7, HX, hB7⟩
                    · have hpc : cap (numS x.g x.row y q c) = 0 := by
                        rw [Nat.le_zero.1 (Nat.le_of_not_lt hpos)]; rfl
                      rw [hpc] at KI hcr
                      go_wp2_with fail
                      refine KI.out.mono ?_
                      rintro e w6 ⟨rfl, G6, GB6⟩
                      have hB6 : Keep (B2 ≤ w6.heap.size) := ⟨Nat.le_trans HB4.out GB6.out.size⟩
                      have OP6 : Keep (OwnI w6 BB (.slice (some a7) pl.length c7) (cast pl)) := ⟨GB6.out.own OP4.out nk na⟩
                      have ON6 : Keep (OwnI w6 B2 (.slice A10 (cast nx).length c10) (cast nx)) := ⟨GB6.out.own ON4.out nw2.out.2.1 nw2.out.2.2.1⟩
                      clear KI hc7 hb7
                      go_wp2
                      go_roundg (pl.length - (m + 1))
                      case measure => omega
                      case rel =>
                        refine ⟨m + 1, by omega, by omega, rfl, by go_num, ON6, OP6, G6, ⟨fun j hj hjm => ?_⟩, hB6⟩
                        by_cases e : j = m
                        · subst e
                          rw [Hq.out]
                          exact fun h => hpos h.2
                        · exact HNo.out j hj (by omega)
                  · have hqc2 : ¬ (q : Int) < c := by omega
                    go_wp2
                    go_roundg (pl.length - (m + 1))
                    case measure => omega
                    case rel =>
                      refine ⟨m + 1, by omega, by omega, rfl, by go_num, ON4, OP4, HG4, ⟨fun j hj hjm => ?_⟩, HB4⟩
                      by_cases e : j = m
                      · subst e
                        rw [Hq.out]
                        exact fun h => hqc h.1
                      · exact HNo.out j hj (by omega)
                · obtain rfl : m = pl.length := by omega
                  have HX : Keep (∀ q', q' ∈ nx ↔ q' < c + 1 ∧ Reach x.g x.row b (i + 1) f q') := ⟨fun q' => by
                    rw [HN.out q']
                    constructor
                    · rintro ⟨h1, h2⟩
                      exact ⟨by omega, h2⟩
                    · rintro ⟨h1, h2⟩
                      refine ⟨?_, h2⟩
                      rcases Nat.lt_or_ge q' c with h | h
                      · exact h
                      · obtain rfl : q' = c := by omega
                        obtain ⟨q0, h3, h4, h5, h6⟩ := (hsn.out q').1 h2
                        obtain ⟨j, hj, rfl⟩ := List.getElem_of_mem ((HM.out q0).2 h3)
                        exact absurd ⟨h4, h6⟩ (HNo.out j hj hj)⟩
                  go_wp2
                  go_roundg (66 - (c + 1))
                  case measure => omega
                  case rel => exact ⟨c + 1, nx, by omega, by omega, by omega, by go_num, by omega, ON4, OP4, HG4, HX, HB4⟩
            · obtain rfl : c = x.row.length + 1 := by omega
              have q4 : w3.cell? ⟨x.cB, 4, none⟩ = some (.slice x.Ar x.row.length x.cr) := by obtain ⟨⟨k', a', h, _⟩, _⟩ := HG3.out; exact HQ4.out w3 k' a' h
              have nc3 : x.cB < w3.heap.size := by have := HB3.out; have := nw2.out.1; omega
              have hcl2 : ¬ ((x.row.length + 1 : Nat) : Int) ≤ x.row.length := by omega
              have HX : Keep (∀ q', q' ∈ nx ↔ Reach x.g x.row b (i + 1) f q') := ⟨fun q' => by
                rw [HN.out q']
                exact ⟨fun h => h.2, fun h => ⟨by have := h.range hf; omega, h⟩⟩⟩
              go_wp2
              go_roundg (b.length - (i + 1))
              case measure => omega
              case rel => exact ⟨i + 1, nx, by omega, by omega, by go_num, by omega, ⟨ON.out.mono nw2.out.2.2.2⟩, HX, HG3, HDi⟩
    · obtain rfl : i = b.length := by omega
      go_wp2
      try go_ret
      refine HPOST.out _ _ false rfl HG.out (fun h => by cases h) (fun n hb hs => ?_)
      obtain ⟨j, q, hj, hr, hbe⟩ := (HBD.out _).1 hb
      exact (HD.out j hj q hr n hbe hs).elim
end Go.Proofs.Ytadabkkkalgehaa.H
namespace Go.Proofs.Ytadabkkkalgehaa.H
open Go.RowKit
set_option linter.unusedVariables false
set_option linter.unusedSimpArgs false
theorem BeN.term {g : Gr} {row : List Int} {n : Nat} {s : Int} {f : Nat} (hs : s < g.T) (h : BeN g row n s f) : f = row.length ∨ (f + 1 = row.length ∧ row[f]? = some s) := by
  induction n with
  | zero => exact h.imp id (fun h => h.2)
  | succ n ih => rcases h with h | h
                 · exact ih h
                 · exact absurd hs h.1
theorem AInv.put0 {x : Cx} {a : K4 → Option Int} (h : AInv x a) {s : Int} {f : Nat} {v : Int} (h0 : x.g.T ≤ s) (h1 : s < x.g.S) (hf : f < x.row.length) (hv : v = 0 ∨ (v = 1 ∧ Be x.g x.row s f)) : AInv x (put a (keyA s f) (some v)) := by
  intro q u hq
  by_cases e : q = keyA s f
  · subst e
    rw [put_same] at hq
    injection hq with hq
    subst hq
    exact ⟨s, f, rfl, h0, h1, hf, hv⟩
  · rw [put_other _ _ e] at hq
    exact h q u hq
theorem AInv.drop {x : Cx} {a : K4 → Option Int} (h : AInv x a) (s : Int) (f : Nat) : AInv x (put a (keyA s f) none) := by
  intro q u hq
  by_cases e : q = keyA s f
  · subst e
    rw [put_same] at hq
    cases hq
  · rw [put_other _ _ e] at hq
    exact h q u hq
theorem SameStk.back {a a' : K4 → Option Int} {s : Int} {f : Nat} {v : Option Int} (hn : ¬ Stk a s f) (h : SameStk a' (put a (keyA s f) (some 0))) (hv : v ≠ some 0) : SameStk (put a' (keyA s f) v) a := by
  intro s' f'
  by_cases e : keyA s' f' = keyA s f
  · obtain ⟨rfl, rfl⟩ := keyA_inj e
    unfold Stk
    rw [put_same]
    exact ⟨fun h => absurd h hv, fun h => absurd h hn⟩
  · have := h s' f'
    unfold Stk at this ⊢
    rw [put_other _ _ e] at this ⊢
    exact this
theorem Stk.put {a : K4 → Option Int} {s s' : Int} {f f' : Nat} (h : Stk (put a (keyA s f) (some 0)) s' f') : (s' = s ∧ f' = f) ∨ Stk a s' f' := by
  by_cases e : keyA s' f' = keyA s f
  · exact .inl (keyA_inj e)
  · unfold Stk at h ⊢
    rw [put_other _ _ e] at h
    exact .inr h
theorem none_begins {x : Cx} {a : K4 → Option Int} {s : Int} {f : Nat} (hT : ¬ s < x.g.T) (hf : f < x.row.length) (hno : ∀ p, p < x.g.ps.length → headAt x.g p = s → ∀ n, BodyN x.g x.row (BeN x.g x.row n) p f → (∀ s' f', Stk (put a (keyA s f) (some 0)) s' f' → ¬ BeN x.g x.row n s' f') → False)
    (n : Nat) (hn : BeN x.g x.row n s f) (hs : ∀ s' f', Stk a s' f' → ¬ BeN x.g x.row n s' f') : False := by
  obtain ⟨m, hm, hbm, hl⟩ := least (P := fun n => BeN x.g x.row n s f) hn
  cases m with
  | zero => rcases hbm with h | h
            · omega
            · exact hT h.1
  | succ m =>
    rcases hbm with h | ⟨_, p, hp, hh, hb⟩
    · exact hl m (by omega) h
    · refine hno p hp hh m hb (fun s' f' hst hb' => ?_)
      rcases hst.put with ⟨rfl, rfl⟩ | hst
      · exact hl m (by omega) hb'
      · exact hs s' f' hst (hb'.le (by omega))
set_option maxRecDepth 100000 in
set_option maxHeartbeats 4000000 in
theorem begins_easy (x : Cx) (hg : GrD x.g (rankOf x.g)) (hrow : x.row.length ≤ 64) (s : Int) (f : Nat) (w : World) (k a : K4 → Option Int) (h0 : 0 ≤ s) (h1 : s < x.g.S) (hf : f ≤ x.row.length) (HC : Ch x w k a) (HK : Kn x k) (HA : AInv x a) (he : f = x.row.length ∨ s < x.g.T) :
    Calls Try.prog 36 #[.pointer (some ⟨x.cB, 0, none⟩), .int .i64 s, .int .i64 f] w (RetB x s f a w) := by
  have q0 := HC.cell 0
  have q4 := HC.cell 4
  simp [Cx.cells] at q0 q4
  have HC' := Keep.mk HC
  have HK' := Keep.mk HK
  have HA' := Keep.mk HA
  clear HK HA
  by_cases hlen : f = x.row.length
  · have t1 : ((f : Int) == (x.row.length : Int)) = true := by rw [hlen]; exact beq_self_eq_true _
    have HB : Keep (Be x.g x.row s f) := ⟨0, .inl hlen⟩
    clear HC he hlen
    go_enter Try.func36, Try.ntmps36
    go_wp2
    go_ret
    exact ⟨true, rfl, ⟨k, a, HC'.out, HK'.out, HA'.out, SameStk.refl _⟩, Gb.refl _ _, fun _ => HB.out, fun _ _ _ => rfl⟩
  · have hT : s < x.g.T := he.resolve_left hlen
    have t1 : ((f : Int) == (x.row.length : Int)) = false := beq_eq_false_iff_ne.2 (by omega)
    by_cases hl2 : f + 1 = x.row.length
    · obtain ⟨ad, ea, hb, hc⟩ := HC.rr.int f (by omega)
      rw [ea] at q4
      have hrf : x.row[f]? = some x.row[f] := List.getElem?_eq_getElem _
      have HR := Keep.mk hrf
      clear hrf
      generalize x.row[f] = y at *
      have t2 : ((f : Int) + 1 == (x.row.length : Int)) = true := beq_iff_eq.2 (by omega)
      have i1 : (0 : Int) ≤ f := by omega
      have i2 : (f : Int) < x.row.length := by omega
      have HRT : Keep ((y == s) = true → Be x.g x.row s f) := ⟨fun h => ⟨0, .inr ⟨hT, hl2, by rw [HR.out]; exact congrArg some (beq_iff_eq.1 h)⟩⟩⟩
      have HRF : Keep (∀ n, BeN x.g x.row n s f → (y == s) = true) := ⟨fun n hn => by
        rcases hn.term hT with h | ⟨_, h⟩
        · exact absurd h hlen
        · rw [HR.out] at h
          injection h with h
          exact beq_iff_eq.2 h⟩
      clear HC he hlen hl2 HR
      generalize hys : (y == s) = B at *
      go_enter Try.func36, Try.ntmps36
      go_wp2
      go_ret
      exact ⟨B, rfl, ⟨k, a, HC'.out, HK'.out, HA'.out, SameStk.refl _⟩, Gb.refl _ _, HRT.out, fun n hn _ => HRF.out n hn⟩
    · have t2 : ((f : Int) + 1 == (x.row.length : Int)) = false := beq_eq_false_iff_ne.2 (by omega)
      have HRF : Keep (∀ n, ¬ BeN x.g x.row n s f) := ⟨fun n hn => by
        rcases hn.term hT with h | ⟨h, _⟩
        · exact hlen h
        · exact hl2 h⟩
      clear HC he hlen hl2
      go_enter Try.func36, Try.ntmps36
      go_wp2
      go_ret
      exact ⟨false, rfl, ⟨k, a, HC'.out, HK'.out, HA'.out, SameStk.refl _⟩, Gb.refl _ _, fun h => (by cases h), fun n hn _ => absurd hn (HRF.out n)⟩
set_option maxRecDepth 100000 in
set_option maxHeartbeats 8000000 in
theorem begins_hard (x : Cx) (hg : GrD x.g (rankOf x.g)) (hrow : x.row.length ≤ 64) (hb8 : ∀ q ∈ x.g.ps, q.body.length ≤ 8) (s : Int) (f : Nat) (w : World) (k a : K4 → Option Int) (h0 : 0 ≤ s) (h1 : s < x.g.S) (hf : f < x.row.length) (hT : ¬ s < x.g.T) (HC : Ch x w k a) (HK : Kn x k) (HA : AInv x a)
    (ih : a (keyA s f) = none → BngC x (free (put a (keyA s f) (some 0)))) :
    Calls Try.prog 36 #[.pointer (some ⟨x.cB, 0, none⟩), .int .i64 s, .int .i64 f] w (RetB x s f a w) := by
  have hS := hg.ok.s1
  have hz : I64 (-1) ∧ I64 s ∧ I64 (f : Int) ∧ I64 0 := ⟨i64_small (by omega) (by omega), i64_small (by omega) (by omega), i64_small (by omega) (by omega), i64_small (by omega) (by omega)⟩
  have hkey : stretchE.ok ⟨-1, s, (f : Int), 0⟩ := hz
  have hbox : (⟨-1, s, (f : Int), 0⟩ : K4) ∈ boxK := mem_boxK (by omega) (by omega) (by omega) (by omega)
  have q0 := HC.cell 0
  have q4 := HC.cell 4
  have q6 := HC.cell 6
  simp [Cx.cells] at q0 q4 q6
  have t1 : ((f : Int) == (x.row.length : Int)) = false := beq_eq_false_iff_ne.2 (by omega)
  have CA := Keep.mk (HC.alloc (.cells #[.int .i64 (-1), .int .i64 s, .int .i64 f, .int .i64 0] 74))
  have HK' := Keep.mk HK
  have HA' := Keep.mk HA
  have LK := CA.out.drew.mpa.look_ok stretch_law Try.underlying69 Try.underlying3 (zero_int _) ⟨-1, s, f, 0⟩ hkey
  simp only [stretchE, K4.v] at LK
  have nB : x.cB < w.heap.size := HC.blk.lt
  cases hm : a (keyA s f) with
  | some v =>
    have hm' : a ⟨-1, s, f, 0⟩ = some v := hm
    rw [hm'] at LK
    simp only [Option.getD_some, Option.isSome_some] at LK
    obtain ⟨s2, f2, e, g1, g2, g3, hv⟩ := HA _ _ hm
    obtain ⟨rfl, rfl⟩ := keyA_inj e
    have HT : Keep ((v == 1) = true → Be x.g x.row s f) := ⟨fun h => by
      rcases hv with h' | h'
      · subst h'; cases h
      · exact h'.2⟩
    have HF : Keep (∀ n, BeN x.g x.row n s f → (∀ s' f', Stk a s' f' → ¬ BeN x.g x.row n s' f') → (v == 1) = true) := ⟨fun n hn hs => by
      rcases hv with h' | h'
      · subst h'; exact absurd hn (hs s f hm)
      · rw [h'.1]; rfl⟩
    clear HC HK HA ih hg hb8 hm hm' hv e
    generalize hvb : (v == 1) = vb at *
    go_enter Try.func36, Try.ntmps36
    go_wp2
    go_region_held3 (fun w' => w'.cell? ⟨x.cB, 6, none⟩ = some (.map (some x.aB)) ∧ w'.cell? ⟨w.heap.size, 0, none⟩ = some (.int .i64 (-1)) ∧ w'.cell? ⟨w.heap.size, 1, none⟩ = some (.int .i64 s) ∧ w'.cell? ⟨w.heap.size, 2, none⟩ = some (.int .i64 f) ∧ w'.cell? ⟨w.heap.size, 3, none⟩ = some (.int .i64 0) ∧ (Instr.lookup 69 (.map (some x.aB)) (.agg #[.int .i64 (-1), .int .i64 s, .int .i64 f, .int .i64 0]) true).run Try.prog w' = .ok (.tuple #[.int .i64 v, .bool true]) w')
      (go_keep) (fail)
    go_wp2
    go_ret
    exact ⟨vb, rfl, ⟨k, a, CA.out.drew, HK'.out, HA'.out, SameStk.refl _⟩, Gb.below (below_drew1 ((Below.refl _ _).alloc (Nat.le_refl _) _)), HT.out, HF.out⟩
  | none =>
    have hm' : a ⟨-1, s, f, 0⟩ = none := hm
    rw [hm'] at LK
    simp only [Option.getD_none, Option.isSome_none] at LK
    have hns : ¬ Stk a s f := fun h => by unfold Stk at h; rw [hm] at h; cases h
    have IH : Keep (∀ m, m < x.g.ps.length → ∀ W k' a', Ch x W k' a' → Kn x k' → AInv x a' → SameStk a' (put a ⟨-1, s, f, 0⟩ (some 0)) → Calls Try.prog 46 #[.pointer (some ⟨x.cB, 0, none⟩), .int .i64 m, .int .i64 f] W (RetG x m f a' W)) :=
      ⟨fun m hm2 W k' a' hC hK hA hS => ih hm m f W k' a' hm2 (by omega) (by rw [free_same hS]; exact Nat.le_refl _) hC hK hA⟩
    have HFIN : Keep (∀ a', SameStk a' (put a ⟨-1, s, f, 0⟩ (some 0)) → SameStk (put a' ⟨-1, s, f, 0⟩ (some 1)) a ∧ SameStk (put a' ⟨-1, s, f, 0⟩ none) a) := ⟨fun a' h => ⟨SameStk.back hns h (by decide), SameStk.back hns h (by simp)⟩⟩
    have HAD0 : Keep (AInv x (put a ⟨-1, s, f, 0⟩ (some 0))) := ⟨AInv.put0 HA (by omega) h1 hf (.inl rfl)⟩
    have HAD1 : Keep (∀ a', AInv x a' → Be x.g x.row s f → AInv x (put a' ⟨-1, s, f, 0⟩ (some 1))) := ⟨fun a' h hb => AInv.put0 h (by omega) h1 hf (.inr ⟨rfl, hb⟩)⟩
    have HAD2 : Keep (∀ a', AInv x a' → AInv x (put a' ⟨-1, s, f, 0⟩ none)) := ⟨fun a' h => AInv.drop h s f⟩
    have HNO : Keep ((∀ p, p < x.g.ps.length → headAt x.g p = s → ∀ n, BodyN x.g x.row (BeN x.g x.row n) p f → (∀ s' f', Stk (put a ⟨-1, s, f, 0⟩ (some 0)) s' f' → ¬ BeN x.g x.row n s' f') → False) → ∀ n, BeN x.g x.row n s f → (∀ s' f', Stk a s' f' → ¬ BeN x.g x.row n s' f') → False) := ⟨fun h n hn hs => none_begins hT hf h n hn hs⟩
    have HBE : Keep (∀ p, p < x.g.ps.length → headAt x.g p = s → (∃ n, BodyN x.g x.row (BeN x.g x.row n) p f) → Be x.g x.row s f) := ⟨fun p hp hh hn => by obtain ⟨n, hn⟩ := hn; exact ⟨n + 1, .inr ⟨hT, p, hp, hh, hn⟩⟩⟩
    have HPOST : Keep (∀ e w' r k' a', e = .returned (.bool r) → Ch x w' k' a' → Kn x k' → AInv x a' → SameStk a' a → Gb x w w' → (r = true → Be x.g x.row s f) → (∀ n, BeN x.g x.row n s f → (∀ s' f', Stk a s' f' → ¬ BeN x.g x.row n s' f') → r = true) → RetB x s f a w e w') :=
      ⟨fun e w' r k' a' e1 e2 e3 e4 e5 e6 e7 e8 => ⟨r, e1, ⟨k', a', e2, e3, e4, e5⟩, e6, e7, e8⟩⟩
    have HL : Keep (Maps.Keyed Try.prog 74 ∧ stretchE.ok ⟨-1, s, (f : Int), 0⟩ ∧ (⟨-1, s, (f : Int), 0⟩ : K4) ∈ boxK) := ⟨stretch_law, hkey, hbox⟩
    have BK : Keep (Blk ((w.alloc (.cells #[.int .i64 (-1), .int .i64 s, .int .i64 f, .int .i64 0] 74)).drew) w.heap.size 74 #[.int .i64 (-1), .int .i64 s, .int .i64 f, .int .i64 0]) := ⟨(Blk.new _ _ _).drew⟩
    have GA : Keep (Gb x w ((w.alloc (.cells #[.int .i64 (-1), .int .i64 s, .int .i64 f, .int .i64 0] 74)).drew)) := ⟨Gb.below (below_drew1 ((Below.refl _ _).alloc (Nat.le_refl _) _))⟩
    have hkk : x.kB ≠ w.heap.size := by have := HC.mpk.lt; omega
    have haa : x.aB ≠ w.heap.size := by have := HC.mpa.lt; omega
    have hps := hg.ok.n0
    have hps64 := hg.ok.n1
    have hTd : decide (s < x.g.T) = false := decide_eq_false hT
    generalize hPost : RetB x s f a w = Post at *
    clear HC HK HA ih hg hb8 hm hm' hPost hz hkey hbox
    go_enter Try.func36, Try.ntmps36
    go_upto_region 9 with fail
    go_region_held3 (fun w' => w'.cell? ⟨x.cB, 6, none⟩ = some (.map (some x.aB)) ∧ w'.cell? ⟨w.heap.size, 0, none⟩ = some (.int .i64 (-1)) ∧ w'.cell? ⟨w.heap.size, 1, none⟩ = some (.int .i64 s) ∧ w'.cell? ⟨w.heap.size, 2, none⟩ = some (.int .i64 f) ∧ w'.cell? ⟨w.heap.size, 3, none⟩ = some (.int .i64 0) ∧ (Instr.lookup 69 (.map (some x.aB)) (.agg #[.int .i64 (-1), .int .i64 s, .int .i64 f, .int .i64 0]) true).run Try.prog w' = .ok (.tuple #[.int .i64 0, .bool false]) w')
      (go_keep) (fail)
    generalize hw1 : (w.alloc (.cells #[.int .i64 (-1), .int .i64 s, .int .i64 f, .int .i64 0] 74)).drew = w1 at *
    generalize hkA : w.heap.size = kA at *
    have HW1 := Keep.mk hw1
    clear LK q4 q6 hw1
    have C1 : Keep (Ch x w1 k a) := ⟨by rw [← HW1.out]; exact CA.out.drew⟩
    clear CA
    obtain ⟨HL1, HL2, HL3⟩ := HL.out
    obtain ⟨w2, hrun, M2, G2⟩ := C1.out.drew.mpa.store HL1 Try.underlying69 Try.underlying3 boxK_len ⟨-1, s, f, 0⟩ HL2 HL3 0 (i64_small (by omega) (by omega))
    have C2 := Keep.mk (C1.out.drew.setA M2 G2)
    simp only [stretchE, K4.v] at hrun
    have G12 : Keep (Gb x w w2) := ⟨(GA.out.trans (Gb.below (below_drew1 (Below.refl _ _)))).trans (Gb.a G2)⟩
    have B2 : Keep (Blk w2 kA 74 #[.int .i64 (-1), .int .i64 s, .int .i64 f, .int .i64 0]) := ⟨(Gb.a G2).blk BK.out.drew (fun e => hkk e.symm) (fun e => haa e.symm)⟩
    have q6 := C1.out.cell 6
    simp [Cx.cells] at q6
    have b0 := BK.out.cell 0
    have b1 := BK.out.cell 1
    have b2 := BK.out.cell 2
    have b3 := BK.out.cell 3
    simp at b0 b1 b2 b3
    have r6 := C2.out.cell 6
    simp [Cx.cells] at r6
    have d0 := B2.out.cell 0
    have d1 := B2.out.cell 1
    have d2 := B2.out.cell 2
    have d3 := B2.out.cell 3
    simp at d0 d1 d2 d3
    have r0 := C2.out.cell 0
    have r3 := C2.out.cell 3
    simp [Cx.cells] at r0 r3
    clear M2 G2 BK GA HW1
    go_wp2_with fail
    go_region_held3 (fun w' => w'.cell? ⟨x.cB, 6, none⟩ = some (.map (some x.aB)) ∧ w'.cell? ⟨kA, 0, none⟩ = some (.int .i64 (-1)) ∧ w'.cell? ⟨kA, 1, none⟩ = some (.int .i64 s) ∧ w'.cell? ⟨kA, 2, none⟩ = some (.int .i64 f) ∧ w'.cell? ⟨kA, 3, none⟩ = some (.int .i64 0))
      (first | exact ⟨q6, b0, b1, b2, b3⟩ | exact ⟨r6, d0, d1, d2, d3⟩) (fail)
    clear q6 b0 b1 b2 b3 r6 d0 d1 d2 d3 hrun C1
    obtain ⟨ad, eA0⟩ : ∃ ad, x.A = some ad := by obtain ⟨ad, _, _, e, _⟩ := C2.out.rp 0 hps; exact ⟨ad, e⟩
    rw [eA0] at r3
    have HAD := Keep.mk eA0
    clear eA0
    go_wp2
    go_loopg [71] x.g.ps.length (fun gg s18 wr => ∃ (m : Nat) (k' a' : K4 → Option Int), m ≤ x.g.ps.length ∧ x.g.ps.length - m ≤ gg ∧ s18 = .int .i64 (m : Int) ∧ Keep (Ch x wr k' a') ∧ Keep (Kn x k') ∧ Keep (AInv x a') ∧ Keep (SameStk a' (put a ⟨-1, s, f, 0⟩ (some 0))) ∧ Keep (Gb x w wr) ∧ Keep (Blk wr kA 74 #[.int .i64 (-1), .int .i64 s, .int .i64 f, .int .i64 0]) ∧
      Keep (∀ p, p < m → headAt x.g p = s → ∀ n, BodyN x.g x.row (BeN x.g x.row n) p f → (∀ s' f', Stk (put a ⟨-1, s, f, 0⟩ (some 0)) s' f' → ¬ BeN x.g x.row n s' f') → False))
    case atStart => exact ⟨0, k, _, Nat.zero_le _, by omega, rfl, C2, HK', HAD0, ⟨SameStk.refl _⟩, G12, B2, ⟨fun p hp => absurd hp (Nat.not_lt_zero _)⟩⟩
    case round =>
      clear C2 HK' HA' HAD0 G12 B2 r0 r3
      obtain ⟨m, k', a', hm, hgm, rfl, HC, HK, HA, HS, HG, HB, HD⟩ := hrel
      by_cases hlt : m < x.g.ps.length
      · obtain ⟨ad', Ab, cb, eA, hb, c0, c1, c2, hlb, hrb⟩ := HC.out.rp m hlt
        rw [HAD.out] at eA
        injection eA with eA
        subst eA
        have IHm := Keep.mk (IH.out m hlt)
        have HBm := Keep.mk (HBE.out m hlt)
        have hhd : headAt x.g m = x.g.ps[m].head := headAt_get hlt
        have hhd2 : Keep (headAt x.g m = x.g.ps[m].head) := ⟨hhd⟩
        rw [hhd] at HBm
        generalize x.g.ps[m] = p at *
        obtain ⟨hd, bd, rt⟩ := p
        dsimp only at *
        have i1 : (0 : Int) ≤ m := by omega
        have i2 : (m : Int) < x.g.ps.length := by omega
        obtain ⟨wo, rfl⟩ : ∃ wo : World, wo = wr := ⟨_, rfl⟩
        have nkA : kA < wo.heap.size := HB.out.lt
        have CA := Keep.mk (HC.out.alloc (.cells #[.int .i64 hd, .slice Ab bd.length cb, .bool rt] 55))
        have GA : Keep (Gb x w (wo.alloc (.cells #[.int .i64 hd, .slice Ab bd.length cb, .bool rt] 55))) := ⟨HG.out.trans (Gb.below ((Below.refl _ _).alloc (Nat.le_refl _) _))⟩
        have BA : Keep (Blk (wo.alloc (.cells #[.int .i64 hd, .slice Ab bd.length cb, .bool rt] 55)) kA 74 #[.int .i64 (-1), .int .i64 s, .int .i64 f, .int .i64 0]) := ⟨HB.out.below ((Below.refl _ _).alloc (Nat.le_refl _) _) nkA⟩
        clear hhd
        by_cases hh : hd = s
        · subst hh
          have K1 := Keep.mk (IHm.out _ k' a' CA.out HK.out HA.out HS.out)
          clear IHm
          go_wp2_with fail
          refine K1.out.mono ?_
          rintro e w3 ⟨r, rfl, ⟨k3, a3, C3', K3', A3', S3'⟩, G3', Ht, Hf⟩
          have C3 := Keep.mk C3'
          have K3 := Keep.mk K3'
          have A3 := Keep.mk A3'
          have S3 : Keep (SameStk a3 (put a ⟨-1, hd, f, 0⟩ (some 0))) := ⟨S3'.trans HS.out⟩
          have G3 : Keep (Gb x w w3) := ⟨GA.out.trans G3'⟩
          have B3 := Keep.mk (G3'.blk BA.out (fun e => hkk e.symm) (fun e => haa e.symm))
          have HT := Keep.mk Ht
          have HF := Keep.mk Hf
          clear C3' K3' A3' S3' G3' Ht Hf CA GA BA K1 HB HG HC
          cases r with
          | true =>
            have HBe := Keep.mk (HBm.out (by first | rfl | trivial) (HT.out rfl))
            obtain ⟨w4, hrun, M4, G4⟩ := C3.out.drew.mpa.store HL1 Try.underlying69 Try.underlying3 boxK_len ⟨-1, hd, f, 0⟩ HL2 HL3 1 (i64_small (by omega) (by omega))
            have C4 := Keep.mk (C3.out.drew.setA M4 G4)
            simp only [stretchE, K4.v] at hrun
            have G34 : Keep (Gb x w w4) := ⟨(G3.out.trans (Gb.below (below_drew1 (Below.refl _ _)))).trans (Gb.a G4)⟩
            have B4 : Keep (Blk w4 kA 74 #[.int .i64 (-1), .int .i64 hd, .int .i64 f, .int .i64 0]) := ⟨(Gb.a G4).blk B3.out.drew (fun e => hkk e.symm) (fun e => haa e.symm)⟩
            have q6 := C3.out.cell 6
            simp [Cx.cells] at q6
            have b0 := B3.out.cell 0
            have b1 := B3.out.cell 1
            have b2 := B3.out.cell 2
            have b3 := B3.out.cell 3
            simp at b0 b1 b2 b3
            have r6 := C4.out.cell 6
            simp [Cx.cells] at r6
            have d0 := B4.out.cell 0
            have d1 := B4.out.cell 1
            have d2 := B4.out.cell 2
            have d3 := B4.out.cell 3
            simp at d0 d1 d2 d3
            clear M4 G4 B4
            go_wp2_with fail
            go_region_held3 (fun w' => w'.cell? ⟨x.cB, 6, none⟩ = some (.map (some x.aB)) ∧ w'.cell? ⟨kA, 0, none⟩ = some (.int .i64 (-1)) ∧ w'.cell? ⟨kA, 1, none⟩ = some (.int .i64 hd) ∧ w'.cell? ⟨kA, 2, none⟩ = some (.int .i64 f) ∧ w'.cell? ⟨kA, 3, none⟩ = some (.int .i64 0))
              (first | exact ⟨q6, b0, b1, b2, b3⟩ | exact ⟨r6, d0, d1, d2, d3⟩) (fail)
            go_wp2
            try go_ret
            exact HPOST.out _ _ true k3 _ rfl C4.out K3.out (HAD1.out a3 A3.out HBe.out) (HFIN.out a3 S3.out).1 G34.out (fun _ => HBe.out) (fun _ _ _ => rfl)
          | false =>
            go_wp2
            go_roundg (x.g.ps.length - (m + 1))
            case measure => omega
            case rel =>
              refine ⟨m + 1, k3, a3, by omega, by omega, by go_num, C3, K3, A3, S3, G3, B3, ⟨fun p hp hh n hn hs => ?_⟩⟩
              by_cases e : p = m
              · subst e
                have := HF.out n hn (fun s' f' hst => hs s' f' ((HS.out s' f').1 hst))
                cases this
              · exact HD.out p (by omega) hh n hn hs
        · have tf : (hd == s) = false := by simpa using hh
          go_wp2
          go_roundg (x.g.ps.length - (m + 1))
          case measure => omega
          case rel =>
            refine ⟨m + 1, k', a', by omega, by omega, by go_num, CA, HK, HA, HS, GA, BA, ⟨fun p hp hh' n hn hs => ?_⟩⟩
            by_cases e : p = m
            · subst e
              exact absurd (hhd2.out.symm.trans hh') hh
            · exact HD.out p (by omega) hh' n hn hs
      · obtain rfl : m = x.g.ps.length := by omega
        have HN := Keep.mk (HNO.out HD.out)
        obtain ⟨w4, hrun, M4, G4⟩ := HC.out.drew.mpa.drop HL1 Try.underlying69 ⟨-1, s, f, 0⟩ HL2 0
        have C4 := Keep.mk (HC.out.drew.setA M4 G4)
        simp only [stretchE, K4.v] at hrun
        have G34 : Keep (Gb x w w4) := ⟨(HG.out.trans (Gb.below (below_drew1 (Below.refl _ _)))).trans (Gb.a G4)⟩
        have B4 : Keep (Blk w4 kA 74 #[.int .i64 (-1), .int .i64 s, .int .i64 f, .int .i64 0]) := ⟨(Gb.a G4).blk HB.out.drew (fun e => hkk e.symm) (fun e => haa e.symm)⟩
        have q6 := HC.out.cell 6
        simp [Cx.cells] at q6
        have b0 := HB.out.cell 0
        have b1 := HB.out.cell 1
        have b2 := HB.out.cell 2
        have b3 := HB.out.cell 3
        simp at b0 b1 b2 b3
        have r6 := C4.out.cell 6
        simp [Cx.cells] at r6
        have d0 := B4.out.cell 0
        have d1 := B4.out.cell 1
        have d2 := B4.out.cell 2
        have d3 := B4.out.cell 3
        simp at d0 d1 d2 d3
        clear M4 G4 B4
        go_wp2_with fail
        go_region_held3 (fun w' => w'.cell? ⟨x.cB, 6, none⟩ = some (.map (some x.aB)) ∧ w'.cell? ⟨kA, 0, none⟩ = some (.int .i64 (-1)) ∧ w'.cell? ⟨kA, 1, none⟩ = some (.int .i64 s) ∧ w'.cell? ⟨kA, 2, none⟩ = some (.int .i64 f) ∧ w'.cell? ⟨kA, 3, none⟩ = some (.int .i64 0))
          (first | exact ⟨q6, b0, b1, b2, b3⟩ | exact ⟨r6, d0, d1, d2, d3⟩) (fail)
        go_wp2
        try go_ret
        exact HPOST.out _ _ false k' _ rfl C4.out HK.out (HAD2.out a' HA.out) (HFIN.out a' HS.out).2 G34.out (fun h => by cases h) (fun n hn hs => (HN.out n hn hs).elim)
theorem begins_walk (x : Cx) (hg : GrD x.g (rankOf x.g)) (hrow : x.row.length ≤ 64) (hb8 : ∀ q ∈ x.g.ps, q.body.length ≤ 8) (N : Nat) (ih : ∀ N', N' < N → BgnC x N') : BgnC x N := by
  intro s f w k a h0 h1 hf hN HC HK HA
  by_cases he : f = x.row.length ∨ s < x.g.T
  · exact begins_easy x hg hrow s f w k a h0 h1 hf HC HK HA he
  · have hS := hg.ok.s1
    refine begins_hard x hg hrow hb8 s f w k a h0 h1 (by omega) (fun h => he (.inr h)) HC HK HA (fun hn => beginning_walk x hg hrow hb8 _ (ih _ ?_))
    have := free_put (a := a) (s := s) (f := f) h0 (by omega) (by omega) (by rw [hn]; simp)
    omega
theorem begins_any (x : Cx) (hg : GrD x.g (rankOf x.g)) (hrow : x.row.length ≤ 64) (hb8 : ∀ q ∈ x.g.ps, q.body.length ≤ 8) (N : Nat) : BgnC x N := by
  induction N using Nat.strongRecOn with
  | _ N ih => exact begins_walk x hg hrow hb8 N ih
end Go.Proofs.Ytadabkkkalgehaa.H
namespace Go.Proofs.Ytadabkkkalgehaa.H
open Go.RowKit
set_option linter.unusedVariables false
set_option linter.unusedSimpArgs false
noncomputable def beB (g : Gr) (row : List Int) (s : Int) (f : Nat) : Bool := @decide (Be g row s f) (Classical.propDecidable _)
theorem beB_iff {g : Gr} {row : List Int} {s : Int} {f : Nat} : beB g row s f = true ↔ Be g row s f := by
  unfold beB
  exact @decide_eq_true_iff _ (Classical.propDecidable _)
noncomputable def viaR (g : Gr) (row : List Int) : Bool × Int := if startE g g.st row = 0 then (beB g row g.st 0, 0) else (false, startE g g.st row)
theorem begin_any {g : Gr} {row : List Int} {x : Cx} {w w1 : World} (hE : startE g g.st row = 0) (hg : x.g = g) (hrow : x.row = row) (hB : x.B0 = w.heap.size) (hc : Ch x w1 (fun _ => none) (fun _ => none)) (hb : Below w.heap.size w w1) :
    Calls Try.prog 36 #[.pointer (some ⟨x.cB, 0, none⟩), .int .i64 g.st, .int .i64 0] w1 fun e w' => e = .returned (.bool (beB g row g.st 0)) ∧ Below w.heap.size w w' := by
  subst hg hrow
  obtain ⟨h1, h2, h3, h4⟩ := startE_zero hE
  refine (begins_any x (GrD.of_check h1) h4 (body8 h1) _ x.g.st 0 w1 _ _ h2.1 h2.2 (Nat.zero_le _) (Nat.le_refl _) hc (kn_none x) (fun q v h => by cases h)).mono ?_
  rintro e w2 ⟨r, rfl, ⟨k2, a2, C2, _, _, _⟩, G2, ht, hf⟩
  refine ⟨?_, by rw [← hB] at hb ⊢; exact hb.trans (G2.low hc.nk hc.na hc.size)⟩
  have : r = beB x.g x.row x.g.st 0 := by
    rw [Bool.eq_iff_iff, beB_iff]
    constructor
    · exact ht
    · rintro ⟨n, hn⟩
      exact hf n hn (fun s' f' h => by cases h)
  rw [this]
set_option maxRecDepth 100000 in
set_option maxHeartbeats 4000000 in
theorem viable_any (g : Gr) (row : List Int) (A Ar : Option Addr) (c cr : Nat) (w : World) (h : GrIn w g A c) (hr : Rd eI 1 w w.heap.size Ar row) (hl : row.length ≤ cr) (hm : row.length ≤ 9223372036854775807) :
    Calls Try.prog 15 #[grV g A c, .slice Ar row.length cr] w fun e w' => e = .returned (.tuple #[.bool (viaR g row).1, .int .i64 (viaR g row).2]) ∧ Below w.heap.size w w' := by
  have H0 := Keep.mk h
  have HR := Keep.mk hr
  clear h hr
  have K1 := Keep.mk fun W (hW : Below w.heap.size w W) => start_any g g.st row A Ar c cr W (H0.out.below hW) ((HR.out.below hW).mono hW.size) hl hm
  have hD : Keep (viaR g row = if startE g g.st row = 0 then (beB g row g.st 0, 0) else (false, startE g g.st row)) := ⟨rfl⟩
  generalize viaR g row = R at *
  obtain ⟨R1, R2⟩ := R
  unfold grV at *
  have B0 : Keep (Below w.heap.size w (w.alloc (.cells #[.int .i64 g.T, .int .i64 g.S, .int .i64 g.st, .slice A g.ps.length c] 24))) := ⟨(Below.refl _ _).alloc (Nat.le_refl _) _⟩
  have BG : Keep (Blk (w.alloc (.cells #[.int .i64 g.T, .int .i64 g.S, .int .i64 g.st, .slice A g.ps.length c] 24)) w.heap.size 24 #[.int .i64 g.T, .int .i64 g.S, .int .i64 g.st, .slice A g.ps.length c]) := ⟨Blk.new _ _ _⟩
  go_enter Try.func15, Try.ntmps15
  go_wp2_with fail
  refine (K1.out _ B0.out).mono ?_
  rintro e w1 (⟨hE, rfl, hb⟩ | ⟨hE, x, x1, x2, x3, rfl, hc, hb⟩)
  · have B1 : Keep (Below w.heap.size w w1) := ⟨below_step B0.out hb B0.out.size⟩
    have hD2 := hD.out
    rw [if_neg hE] at hD2
    simp only [Prod.mk.injEq] at hD2
    obtain ⟨he1, he2⟩ := hD2
    have HR1 := Keep.mk he1
    have HR2 := Keep.mk he2
    clear he1 he2
    have hn : ((startE g g.st row : Int) != 0) = true := by simp [hE]
    generalize startE g g.st row = E at *
    clear K1 hD hb hE BG
    go_wp2_with fail
    go_ret2
    exact ⟨by dsimp only; rw [HR1.out, HR2.out]; rfl, B1.out⟩
  · have KW := Keep.mk (begin_any hE x1 x2 x3 hc hb)
    have B1 : Keep (Below w.heap.size w w1) := ⟨below_step B0.out hb B0.out.size⟩
    have BG1 := Keep.mk (BG.out.below hb BG.out.lt)
    have q2 := BG1.out.cell 2
    simp at q2
    have n1 := BG1.out.lt
    have hD2 := hD.out
    rw [if_pos hE] at hD2
    simp only [Prod.mk.injEq] at hD2
    obtain ⟨he1, he2⟩ := hD2
    have HR1 := Keep.mk he1
    have HR2 := Keep.mk he2
    clear he1 he2
    clear K1 hD hb hE hc x1 x2 x3 BG
    generalize beB g row g.st 0 = B at *
    go_wp2_with fail
    refine KW.out.mono ?_
    rintro e w2 ⟨rfl, hb2⟩
    have B2 : Keep (Below w.heap.size w w2) := ⟨below_step B0.out hb2 B0.out.size⟩
    clear hb2 KW
    go_wp2_with fail
    go_ret2
    exact ⟨by dsimp only; rw [HR1.out, HR2.out]; rfl, B2.out⟩
end Go.Proofs.Ytadabkkkalgehaa.H
namespace Go.Proofs.Ytadabkkkalgehaa.H
open Go.RowKit
set_option linter.unusedVariables false
set_option linter.unusedSimpArgs false
set_option maxRecDepth 100000 in
set_option maxHeartbeats 4000000 in
theorem fits_leaf (g : Gr) (A A2 : Option Addr) (c c2 : Nat) (s : Int) (w : World) (h0 : 0 ≤ s) (h1 : s < g.T) (h2 : g.T ≤ g.S) :
    Calls Try.prog 39 #[grV g A c, .agg #[.int .i64 s, .int .i64 (-1), .slice A2 0 c2]] w fun e w' => e = .returned (.int .i64 0) ∧ Below w.heap.size w w' := by
  obtain ⟨T, S, st, ps⟩ := g
  unfold grV
  dsimp only at *
  have B : Keep (Below w.heap.size w ((w.alloc (.cells #[.int .i64 T, .int .i64 S, .int .i64 st, .slice A ps.length c] 24)).alloc (.cells #[.int .i64 s, .int .i64 (-1), .slice A2 0 c2] 43))) := ⟨((Below.refl _ _).alloc (Nat.le_refl _) _).alloc (by simp) _⟩
  have d0 : decide (s < 0) = false := decide_eq_false (by omega)
  have d1 : decide (S ≤ s) = false := decide_eq_false (by omega)
  have d2 : decide (s < T) = true := decide_eq_true h1
  have d3 : decide (s ≥ S) = false := decide_eq_false (by omega)
  go_enter Try.func39, Try.ntmps39
  go_wp2
  go_ret
  exact ⟨rfl, B.out⟩
set_option maxRecDepth 100000 in
set_option maxHeartbeats 4000000 in
theorem fits_leaf_any (g : Gr) (A A2 : Option Addr) (c c2 : Nat) (s : Int) (w : World) (hg : GrIn w g A c) (hc : checkI g = 0) (h0 : 0 ≤ s) (h1 : s < g.T) (h2 : g.T ≤ g.S) :
    Calls Try.prog 22 #[grV g A c, .agg #[.int .i64 s, .int .i64 (-1), .slice A2 0 c2]] w fun e w' => e = .returned (.int .i64 0) ∧ Below w.heap.size w w' := by
  have H0 := Keep.mk hg
  clear hg
  have K1 := Keep.mk fun W (hW : Below w.heap.size w W) => check_any g A c W (H0.out.below hW)
  rw [hc] at K1
  have K2 := Keep.mk fun W => fits_leaf g A A2 c c2 s W h0 h1 h2
  obtain ⟨T, S, st, ps⟩ := g
  unfold grV at *
  dsimp only at *
  have B : Keep (Below w.heap.size w ((w.alloc (.cells #[.int .i64 T, .int .i64 S, .int .i64 st, .slice A ps.length c] 24)).alloc (.cells #[.int .i64 s, .int .i64 (-1), .slice A2 0 c2] 43))) := ⟨((Below.refl _ _).alloc (Nat.le_refl _) _).alloc (by simp) _⟩
  have B1 : Keep (Blk ((w.alloc (.cells #[.int .i64 T, .int .i64 S, .int .i64 st, .slice A ps.length c] 24)).alloc (.cells #[.int .i64 s, .int .i64 (-1), .slice A2 0 c2] 43)) w.heap.size 24 #[.int .i64 T, .int .i64 S, .int .i64 st, .slice A ps.length c]) := ⟨(Blk.new _ _ _).alloc _⟩
  have B2 : Keep (Blk ((w.alloc (.cells #[.int .i64 T, .int .i64 S, .int .i64 st, .slice A ps.length c] 24)).alloc (.cells #[.int .i64 s, .int .i64 (-1), .slice A2 0 c2] 43)) (w.heap.size + 1) 43 #[.int .i64 s, .int .i64 (-1), .slice A2 0 c2]) := ⟨Blk.newAt (by simp)⟩
  clear h0 h1 h2 hc
  go_enter Try.func22, Try.ntmps22
  go_wp2_with fail
  refine (K1.out _ B.out).mono ?_
  rintro e w1 ⟨rfl, hb⟩
  have C1 := B1.out.below hb B1.out.lt
  have C2 := B2.out.below hb B2.out.lt
  have BB : Keep (Below w.heap.size w w1) := ⟨B.out.trans (hb.mono (by simp; omega))⟩
  have a0 := C1.cell 0
  have a1 := C1.cell 1
  have a2 := C1.cell 2
  have a3 := C1.cell 3
  have b0 := C2.cell 0
  have b1 := C2.cell 1
  have b2 := C2.cell 2
  simp at a0 a1 a2 a3 b0 b1 b2
  have n1 := C1.lt
  have n2 := C2.lt
  clear hb K1 B1 B2 C1 C2 B
  go_wp2_with fail
  refine (K2.out w1).mono ?_
  rintro e w2 ⟨rfl, hb⟩
  have BC : Keep (Below w.heap.size w w2) := ⟨BB.out.trans (hb.mono BB.out.size)⟩
  go_wp2_with fail
  go_ret
  exact ⟨rfl, BC.out⟩
end Go.Proofs.Ytadabkkkalgehaa.H
