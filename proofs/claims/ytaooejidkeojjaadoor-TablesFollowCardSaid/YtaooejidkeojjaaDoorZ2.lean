import Derived.Test.YtaooejidkeojjaaDoorZ1
import Derived.OwnWalk
import Derived.OrdersHeld
import Derived.Deep.AppendLies
import Derived.Deep.RegionHeld
import Derived.Lib.LaidTab
namespace Go.Proofs.YtaooejidkeojjaaDoor.H
open Go.RowKit
set_option linter.unusedVariables false
set_option linter.unusedSimpArgs false
set_option maxRecDepth 100000
structure Q4 where
  b : Nat
  gc : Nat
  gm : Nat
  gt : Nat
structure Fam (w : World) (qs : List Q4) (sts : List StD) : Prop where
  len : qs.length = sts.length
  sta : ∀ i (h : i < qs.length), Sta w qs[i].b qs[i].gc qs[i].gm qs[i].gt (stAt sts i)
  nm : ∀ i j (hi : i < qs.length) (hj : j < qs.length), i ≠ j → qs[i].gm ≠ qs[j].gm
  nt : ∀ i j (hi : i < qs.length) (hj : j < qs.length), i ≠ j → qs[i].gt ≠ qs[j].gt
  tc : ∀ i j (hi : i < qs.length) (hj : j < qs.length), qs[i].gt ≠ qs[j].gc
theorem Blk.ne_of_type {w : World} {g g' : Nat} {t t' : TypeId} {cs cs' : Array Value} (h : Blk w g t cs) (h' : Blk w g' t' cs') (ht : t ≠ t') : g ≠ g' := by
  rintro rfl
  unfold Blk at h h'
  rw [h] at h'
  injection h' with h'
  injection h' with _ h2
  exact ht h2
theorem Sta.move {w w' : World} {b gc gm gt : Nat} {s : StD} (h : Sta w b gc gm gt s) (hm : ∀ k, k = b ∨ k = gc ∨ k = gm ∨ k = gt → w'.heap[k]? = w.heap[k]?) : Sta w' b gc gm gt s := by
  obtain ⟨⟨cc, cm, ct, h1, h2⟩, ⟨c1, h3, h4⟩, ⟨c2, h5, h6⟩, ⟨c3, h7, h8⟩, h9⟩ := h
  exact ⟨⟨cc, cm, ct, (hm b (.inl rfl)).trans h1, h2⟩, ⟨c1, (hm gc (.inr (.inl rfl))).trans h3, h4⟩, ⟨c2, (hm gm (.inr (.inr (.inl rfl)))).trans h5, h6⟩, ⟨c3, (hm gt (.inr (.inr (.inr rfl)))).trans h7, h8⟩, h9⟩
theorem Sta.lt {w : World} {b gc gm gt : Nat} {s : StD} (h : Sta w b gc gm gt s) : b < w.heap.size ∧ gc < w.heap.size ∧ gm < w.heap.size ∧ gt < w.heap.size := by
  obtain ⟨⟨cc, cm, ct, h1, h2⟩, ⟨c1, h3, h4⟩, ⟨c2, h5, h6⟩, ⟨c3, h7, h8⟩, h9⟩ := h
  exact ⟨h1.lt, h3.lt, h5.lt, h7.lt⟩
theorem Sta.led_ {w : World} {b gc gm gt : Nat} {s : StD} (h : Sta w b gc gm gt s) (htc : gt ≠ gc) (i : Nat) (n : Int) : Sta (w.setCell ⟨gt, i, none⟩ (.int .i64 n)) b gc gm gt { s with led := s.led.set i n } := by
  obtain ⟨⟨cc, cm, ct, h1, h2⟩, ⟨c1, h3, h4⟩, ⟨c2, h5, h6⟩, ⟨c3, h7, h8⟩, h9⟩ := h
  refine ⟨⟨cc, cm, ct, by rw [List.length_set]; exact h1.far (h1.ne_of_type h7 (by decide)) _, by rw [List.length_set]; exact h2⟩, ⟨c1, h3.far (Ne.symm htc) _, h4⟩, ⟨c2, h5.far (h5.ne_of_type h7 (by decide)) _, h6⟩, ⟨_, h7.set_ i _, fun j m hj => ?_⟩, h9⟩
  have hj' : (s.led.set i n)[j]? = some m := hj
  rw [List.getElem?_set] at hj'
  rw [Array.getElem?_setIfInBounds]
  by_cases e : i = j
  · subst e
    rw [if_pos rfl] at hj'
    split at hj'
    · rename_i hlt
      have h0 := h8 i s.led[i] (List.getElem?_eq_getElem hlt)
      rw [if_pos rfl, if_pos (Array.getElem?_eq_some_iff.1 h0).1, ← Option.some.inj hj']
    · cases hj'
  · rw [if_neg e] at hj'
    rw [if_neg e]
    exact h8 j m hj'
theorem Sta.mask_ {w w' : World} {b gc gm gt : Nat} {s : StD} (h : Sta w b gc gm gt s) (m : List Nat) (hl : m.length = s.mask.length) (hp : PreM w' gm m) (hg : w.grownBy w' (some gm)) : Sta w' b gc gm gt { s with mask := m } := by
  obtain ⟨⟨cc, cm, ct, h1, h2⟩, ⟨c1, h3, h4⟩, ⟨c2, h5, h6⟩, ⟨c3, h7, h8⟩, h9⟩ := h
  exact ⟨⟨cc, cm, ct, h1.grown hg (fun e => h1.ne_of_type h5 (by decide) (Option.some.inj e)), h2⟩, ⟨c1, h3.grown hg (fun e => h3.ne_of_type h5 (by decide) (Option.some.inj e)), h4⟩, hp, ⟨c3, h7.grown hg (fun e => h7.ne_of_type h5 (by decide) (Option.some.inj e)), h8⟩, by show m.length = s.core.length; rw [hl]; exact h9⟩
section
variable {w w' : World} {qs : List Q4} {sts : List StD}
theorem Fam.move (h : Fam w qs sts) (hm : ∀ q ∈ qs, ∀ k, k = q.b ∨ k = q.gc ∨ k = q.gm ∨ k = q.gt → w'.heap[k]? = w.heap[k]?) : Fam w' qs sts :=
  ⟨h.len, fun i hi => (h.sta i hi).move (hm _ (List.getElem_mem hi)), h.nm, h.nt, h.tc⟩
theorem Fam.keep (h : Fam w qs sts) (hm : ∀ k, k < w.heap.size → w'.heap[k]? = w.heap[k]?) : Fam w' qs sts :=
  h.move fun q hq k hk => by
    obtain ⟨i, hi, rfl⟩ := List.getElem_of_mem hq
    obtain ⟨l1, l2, l3, l4⟩ := (h.sta i hi).lt
    rcases hk with rfl | rfl | rfl | rfl <;> exact hm _ (by assumption)
theorem stAt_set {l : List StD} {i j : Nat} {s : StD} (hi : i < l.length) : stAt (l.set i s) j = if j = i then s else stAt l j := by
  unfold stAt
  rw [List.getD_eq_getElem?_getD, List.getElem?_set]
  by_cases e : i = j
  · subst e; rw [if_pos rfl, if_pos hi, if_pos rfl]; rfl
  · rw [if_neg e, if_neg (Ne.symm e), ← List.getD_eq_getElem?_getD]
theorem Fam.led (h : Fam w qs sts) {i : Nat} (hi : i < qs.length) (sym n : Nat) : Fam (w.setCell ⟨qs[i].gt, sym, none⟩ (.int .i64 (n : Nat))) qs (setTo sts i sym n) := by
  have hi' : i < sts.length := by rw [← h.len]; exact hi
  refine ⟨by unfold setTo; rw [List.length_set]; exact h.len, fun j hj => ?_, h.nm, h.nt, h.tc⟩
  unfold setTo
  rw [stAt_set hi']
  split
  · rename_i e
    subst e
    exact (h.sta j hj).led_ (h.tc j j hj hj) sym n
  · rename_i e
    refine (h.sta j hj).move fun k hk => Below.heap_setCell w _ _ k ?_
    show k ≠ qs[i].gt
    obtain ⟨_, _, _, ⟨c3, h7, _⟩, _⟩ := h.sta i hi
    obtain ⟨⟨_, _, _, h1, _⟩, _, ⟨c2, h5, _⟩, _, _⟩ := h.sta j hj
    rcases hk with rfl | rfl | rfl | rfl
    · exact h1.ne_of_type h7 (by decide)
    · exact Ne.symm (h.tc i j hi hj)
    · exact h5.ne_of_type h7 (by decide)
    · exact h.nt j i hj hi e
theorem Fam.mask (h : Fam w qs sts) {i : Nat} (hi : i < qs.length) (m : List Nat) (hl : m.length = (stAt sts i).mask.length) (hp : PreM w' qs[i].gm m) (hg : w.grownBy w' (some qs[i].gm)) : Fam w' qs (setMask sts i m) := by
  have hi' : i < sts.length := by rw [← h.len]; exact hi
  refine ⟨by unfold setMask; rw [List.length_set]; exact h.len, fun j hj => ?_, h.nm, h.nt, h.tc⟩
  unfold setMask
  rw [stAt_set hi']
  split
  · rename_i e
    subst e
    exact (h.sta j hj).mask_ m hl hp hg
  · rename_i e
    obtain ⟨l1, l2, l3, l4⟩ := (h.sta j hj).lt
    refine (h.sta j hj).move fun k hk => hg.block k (by rcases hk with rfl | rfl | rfl | rfl <;> assumption) fun e' => ?_
    have e' := Option.some.inj e'
    obtain ⟨_, _, ⟨c2, h5, _⟩, _, _⟩ := h.sta i hi
    obtain ⟨⟨_, _, _, h1, _⟩, ⟨c1, h3, _⟩, _, ⟨c3, h7, _⟩, _⟩ := h.sta j hj
    rcases hk with rfl | rfl | rfl | rfl
    · exact h1.ne_of_type h5 (by decide) e'
    · exact h3.ne_of_type h5 (by decide) e'
    · exact h.nm j i hj hi e e'
    · exact h7.ne_of_type h5 (by decide) e'
theorem Fam.add (h : Fam w qs sts) (q : Q4) (s : StD) (hs : Sta w q.b q.gc q.gm q.gt s) (h1 : ∀ p ∈ qs, p.gm ≠ q.gm) (h2 : ∀ p ∈ qs, p.gt ≠ q.gt) (h3 : ∀ p ∈ qs, p.gt ≠ q.gc) (h4 : ∀ p ∈ qs, q.gt ≠ p.gc) (h5 : q.gt ≠ q.gc) : Fam w (qs ++ [q]) (sts ++ [s]) := by
  have split : ∀ i (hi : i < (qs ++ [q]).length), (∃ h : i < qs.length, (qs ++ [q])[i] = qs[i]) ∨ (i = qs.length ∧ (qs ++ [q])[i] = q) := fun i hi => by
    rcases Nat.lt_or_ge i qs.length with h | h
    · exact .inl ⟨h, List.getElem_append_left h⟩
    · have e : i = qs.length := by simp at hi; omega
      exact .inr ⟨e, by subst e; simp⟩
  refine ⟨by simp [h.len], fun i hi => ?_, fun i j hi hj hne => ?_, fun i j hi hj hne => ?_, fun i j hi hj => ?_⟩
  · rcases split i hi with ⟨hlt, e⟩ | ⟨rfl, e⟩
    · rw [e]
      have : stAt (sts ++ [s]) i = stAt sts i := by
        unfold stAt
        rw [List.getD_eq_getElem?_getD, List.getD_eq_getElem?_getD, List.getElem?_append_left (by rw [← h.len]; exact hlt)]
      rw [this]
      exact h.sta i hlt
    · rw [e]
      have : stAt (sts ++ [s]) qs.length = s := by
        unfold stAt
        rw [List.getD_eq_getElem?_getD, h.len]; simp
      rw [this]
      exact hs
  · rcases split i hi with ⟨hlt, e⟩ | ⟨ei, e⟩ <;> rcases split j hj with ⟨hlt', e'⟩ | ⟨ej, e'⟩ <;> rw [e, e']
    · exact h.nm i j hlt hlt' hne
    · exact h1 _ (List.getElem_mem hlt)
    · exact Ne.symm (h1 _ (List.getElem_mem hlt'))
    · omega
  · rcases split i hi with ⟨hlt, e⟩ | ⟨ei, e⟩ <;> rcases split j hj with ⟨hlt', e'⟩ | ⟨ej, e'⟩ <;> rw [e, e']
    · exact h.nt i j hlt hlt' hne
    · exact h2 _ (List.getElem_mem hlt)
    · exact Ne.symm (h2 _ (List.getElem_mem hlt'))
    · omega
  · rcases split i hi with ⟨hlt, e⟩ | ⟨ei, e⟩ <;> rcases split j hj with ⟨hlt', e'⟩ | ⟨ej, e'⟩ <;> rw [e, e']
    · exact h.tc i j hlt hlt'
    · exact h3 _ (List.getElem_mem hlt)
    · exact h4 _ (List.getElem_mem hlt')
    · exact h5
end
theorem Mk.move {x : Mx} {w w' : World} (k : Mk x w) (hs : w.heap.size ≤ w'.heap.size) (hb : Below x.B0 w w') (hm : ∀ b, b = x.mB ∨ b = x.gF ∨ b = x.gS ∨ b = x.nB → w'.heap[b]? = w.heap[b]?) : Mk x w' := by
  have c : ∀ (b i : Nat), (b = x.mB ∨ b = x.gS) → w'.cell? ⟨b, i, none⟩ = w.cell? ⟨b, i, none⟩ := fun b i h => by
    unfold World.cell?
    rw [hm b (by rcases h with h | h <;> simp [h])]
  exact ⟨(c _ _ (.inl rfl)).trans k.c0, (c _ _ (.inl rfl)).trans k.c1, (c _ _ (.inl rfl)).trans k.c2, (c _ _ (.inl rfl)).trans k.c3, (c _ _ (.inl rfl)).trans k.c4, (c _ _ (.inl rfl)).trans k.c5, (c _ _ (.inl rfl)).trans k.c6,
    k.rp.below hb, (hm _ (.inr (.inl rfl))).trans k.f, k.nm.move (hm _ (.inr (.inr (.inr rfl)))), fun n p d h => ⟨(c _ _ (.inr rfl)).trans (k.sp n p d h).1, (c _ _ (.inr rfl)).trans (k.sp n p d h).2⟩,
    Nat.lt_of_lt_of_le k.lm hs, Nat.lt_of_lt_of_le k.ls hs, Nat.le_trans k.l0 hs⟩
end Go.Proofs.YtaooejidkeojjaaDoor.H
namespace Go.Proofs.YtaooejidkeojjaaDoor.H
open Go.RowKit
set_option linter.unusedVariables false
set_option linter.unusedSimpArgs false
set_option maxRecDepth 100000
def ptrQ (q : Q4) : Value := .pointer (some ⟨q.b, 0, none⟩)
structure Out (x : Mx) (k : Nat) : Prop where
  lo : x.B0 ≤ k
  m : k ≠ x.mB
  f : k ≠ x.gF
  s : k ≠ x.gS
  n : k ≠ x.nB
structure MkS (x : Mx) (w : World) (gL cL : Nat) (qs : List Q4) (sts : List StD) : Prop where
  mkr : Mk x w
  fam : Fam w qs sts
  c7 : w.cell? ⟨x.mB, 7, none⟩ = some (.slice (some ⟨gL, 0, none⟩) sts.length cL)
  lst : OwnR w x.B0 76 (.slice (some ⟨gL, 0, none⟩) sts.length cL) (qs.map ptrQ)
  out : ∀ q ∈ qs, ∀ k, (k = q.b ∨ k = q.gc ∨ k = q.gm ∨ k = q.gt) → Out x k
  oL : Out x gL
  mLo : x.B0 ≤ x.mB
  mF : x.gF ≠ x.mB
  mS : x.gS ≠ x.mB
  mN : x.nB ≠ x.mB
  fz : w.frozen? ⟨x.mB, 7, none⟩ = false
section
variable {x : Mx} {w w' : World} {gL cL : Nat} {qs : List Q4} {sts : List StD}
theorem Mk.out {k : Nat} (h : Mk x w) (hk : w.heap.size ≤ k) : Out x k := by
  have := h.lm; have := h.ls; have := h.f.lt; have := h.nm.lt; have := h.l0
  exact ⟨by omega, by omega, by omega, by omega, by omega⟩
theorem MkS.keep (h : MkS x w gL cL qs sts) (hb : Below w.heap.size w w') : MkS x w' gL cL qs sts :=
  ⟨h.mkr.below hb, h.fam.keep hb.block, cell_below h.c7 hb h.mkr.lm, h.lst.below hb, h.out, h.oL, h.mLo, h.mF, h.mS, h.mN, (World.frozen?_of_block (hb.block x.mB h.mkr.lm)).trans h.fz⟩
theorem MkS.ptr (h : MkS x w gL cL qs sts) {i : Nat} (hi : i < qs.length) : w.cell? ⟨gL, i, none⟩ = some (.pointer (some ⟨qs[i].b, 0, none⟩)) := by
  obtain ⟨A, c, e, _, _, h2⟩ := h.lst.open_
  obtain ⟨g, cur, e2, e3, hb, hc⟩ := h2 (by simp; omega)
  have e4 : gL = g := by simpa [Value.ownBlock] using e3
  subst e4
  rw [hb.cell i]
  refine hc i _ ?_
  rw [List.getElem?_map, List.getElem?_eq_getElem hi]; rfl
theorem MkS.frozenT (h : MkS x w gL cL qs sts) {i : Nat} (hi : i < qs.length) (j : Nat) : w.frozen? ⟨qs[i].gt, j, none⟩ = false := by
  obtain ⟨_, _, _, ⟨c3, h7, _⟩, _⟩ := h.fam.sta i hi
  exact h7.frozen j
theorem MkS.led (h : MkS x w gL cL qs sts) {i : Nat} (hi : i < qs.length) (sym n : Nat) : MkS x (w.setCell ⟨qs[i].gt, sym, none⟩ (.int .i64 (n : Nat))) gL cL qs (setTo sts i sym n) := by
  have o := h.out _ (List.getElem_mem hi) qs[i].gt (.inr (.inr (.inr rfl)))
  have hl : (setTo sts i sym n).length = sts.length := by unfold setTo; rw [List.length_set]
  refine ⟨h.mkr.move (by simp [World.setCell]) ((Below.refl _ _).setCell o.lo _) fun b hb => Below.heap_setCell _ _ _ _ ?_, h.fam.led hi sym n, ?_, ?_, h.out, h.oL, h.mLo, h.mF, h.mS, h.mN, by rw [World.frozen?_setCell]; exact h.fz⟩
  · show b ≠ qs[i].gt
    rcases hb with rfl | rfl | rfl | rfl
    · exact Ne.symm o.m
    · exact Ne.symm o.f
    · exact Ne.symm o.s
    · exact Ne.symm o.n
  · rw [hl, ← h.c7]
    unfold World.cell?
    rw [Below.heap_setCell _ _ _ _ (Ne.symm o.m)]
  · rw [hl]
    obtain ⟨_, _, _, ⟨c3, h7, _⟩, _⟩ := h.fam.sta i hi
    exact h.lst.move fun k hk => Below.heap_setCell _ _ _ _ (h.lst.ne h7 (by decide) k hk)
theorem MkS.mask (h : MkS x w gL cL qs sts) {i : Nat} (hi : i < qs.length) (m : List Nat) (hl : m.length = (stAt sts i).mask.length) (hp : PreM w' qs[i].gm m) (hg : w.grownBy w' (some qs[i].gm)) : MkS x w' gL cL qs (setMask sts i m) := by
  have o := h.out _ (List.getElem_mem hi) qs[i].gm (.inr (.inr (.inl rfl)))
  have hl2 : (setMask sts i m).length = sts.length := by unfold setMask; rw [List.length_set]
  have hk := h.mkr
  refine ⟨h.mkr.move hg.size ((Below.refl _ _).grown hg h.mkr.l0 (fun b hb => by rw [← Option.some.inj hb]; exact o.lo)) fun b hb => hg.block b ?_ fun e => ?_, h.fam.mask hi m hl hp hg, ?_, ?_, h.out, h.oL, h.mLo, h.mF, h.mS, h.mN, (World.frozen?_of_block (hg.block _ hk.lm fun e => o.m (Option.some.inj e).symm)).trans h.fz⟩
  · rcases hb with rfl | rfl | rfl | rfl
    · exact hk.lm
    · exact hk.f.lt
    · exact hk.ls
    · exact hk.nm.lt
  · have e := Option.some.inj e
    rcases hb with rfl | rfl | rfl | rfl
    · exact o.m e.symm
    · exact o.f e.symm
    · exact o.s e.symm
    · exact o.n e.symm
  · rw [hl2, ← h.c7]
    unfold World.cell?
    rw [hg.block _ hk.lm fun e => o.m (Option.some.inj e).symm]
  · rw [hl2]
    obtain ⟨_, _, ⟨c2, h5, _⟩, _, _⟩ := h.fam.sta i hi
    exact h.lst.move fun k hk => hg.block k (h.lst.block k hk).2.1 fun e => h.lst.ne h5 (by decide) k hk (Option.some.inj e)
theorem MkS.add (h : MkS x w gL cL qs sts) (q : Q4) (s : StD) (gL' cL' : Nat) (hs : Sta w q.b q.gc q.gm q.gt s) (h1 : ∀ p ∈ qs, p.gm ≠ q.gm) (h2 : ∀ p ∈ qs, p.gt ≠ q.gt) (h3 : ∀ p ∈ qs, p.gt ≠ q.gc) (h4 : ∀ p ∈ qs, q.gt ≠ p.gc) (h5 : q.gt ≠ q.gc)
    (ho : ∀ k, (k = q.b ∨ k = q.gc ∨ k = q.gm ∨ k = q.gt) → Out x k) (hg : w.grownBy w' (some gL)) (hw : w'.ownsRow x.B0 76 1 (.slice (some ⟨gL', 0, none⟩) (sts.length + 1) cL') ((qs.map ptrQ).length + 1) (qs.map ptrQ ++ [ptrQ q]))
    (ha : gL' = gL ∨ gL' = w.heap.size) (hne : 0 < qs.length) : MkS x (w'.setCell ⟨x.mB, 7, none⟩ (.slice (some ⟨gL', 0, none⟩) (sts.length + 1) cL')) gL' cL' (qs ++ [q]) (sts ++ [s]) := by
  have hk := h.mkr
  obtain ⟨A, c, e, _, _, hop⟩ := h.lst.open_
  obtain ⟨gg, cur, e2, e3, hbL, hc⟩ := hop (by simp; omega)
  have e4 : gL = gg := by simpa [Value.ownBlock] using e3
  subst e4
  have hbl : Below x.B0 w w' := (Below.refl _ _).grown hg hk.l0 (fun b hb => by rw [← Option.some.inj hb]; exact h.oL.lo)
  have oL' : Out x gL' := by
    rcases ha with rfl | rfl
    · exact h.oL
    · exact hk.out (Nat.le_refl _)
  have hm : ∀ k, k < w.heap.size → k ≠ gL → k ≠ x.mB → (w'.setCell ⟨x.mB, 7, none⟩ (.slice (some ⟨gL', 0, none⟩) (sts.length + 1) cL')).heap[k]? = w.heap[k]? := fun k h1 h2 h3 =>
    (Below.heap_setCell _ _ _ _ h3).trans (hg.block k h1 fun e => h2 (Option.some.inj e))
  have own' : OwnR w' x.B0 76 (.slice (some ⟨gL', 0, none⟩) (sts.length + 1) cL') ((qs ++ [q]).map ptrQ) := by
    unfold OwnR
    rw [List.map_append, List.length_append]
    exact hw
  have hmB : w'.heap[x.mB]? = w.heap[x.mB]? := hg.block _ hk.lm fun e => h.oL.m (Option.some.inj e).symm
  have cM : ∀ i, i ≠ 7 → (w'.setCell ⟨x.mB, 7, none⟩ (.slice (some ⟨gL', 0, none⟩) (sts.length + 1) cL')).cell? ⟨x.mB, i, none⟩ = w.cell? ⟨x.mB, i, none⟩ := fun i hi => by
    rw [World.cell?_setCell_other (h := by intro e; injection e with _ e1; exact hi e1.symm)]
    unfold World.cell?
    rw [hmB]
  have hS : ∀ i, (w'.setCell ⟨x.mB, 7, none⟩ (.slice (some ⟨gL', 0, none⟩) (sts.length + 1) cL')).cell? ⟨x.gS, i, none⟩ = w.cell? ⟨x.gS, i, none⟩ := fun i => by
    unfold World.cell?
    rw [hm _ hk.ls (Ne.symm h.oL.s) h.mS]
  have hl : (sts ++ [s]).length = sts.length + 1 := by simp
  have fa := h.fam.add q s hs h1 h2 h3 h4 h5
  have hsz : w.heap.size ≤ (w'.setCell ⟨x.mB, 7, none⟩ (.slice (some ⟨gL', 0, none⟩) (sts.length + 1) cL')).heap.size := by
    simp only [World.setCell, Array.size_modify]
    exact hg.size
  have hout : ∀ p ∈ qs ++ [q], ∀ k, (k = p.b ∨ k = p.gc ∨ k = p.gm ∨ k = p.gt) → Out x k := fun p hp => by
    rcases List.mem_append.1 hp with hp | hp
    · exact h.out p hp
    · rw [List.mem_singleton.1 hp]; exact ho
  refine ⟨⟨(cM 0 (by decide)).trans hk.c0, (cM 1 (by decide)).trans hk.c1, (cM 2 (by decide)).trans hk.c2, (cM 3 (by decide)).trans hk.c3, (cM 4 (by decide)).trans hk.c4, (cM 5 (by decide)).trans hk.c5, (cM 6 (by decide)).trans hk.c6,
    hk.rp.below (hbl.setCell h.mLo _), (hm _ hk.f.lt (Ne.symm h.oL.f) h.mF).trans hk.f, hk.nm.move (hm _ hk.nm.lt (Ne.symm h.oL.n) h.mN), fun n p d e => ⟨(hS _).trans (hk.sp n p d e).1, (hS _).trans (hk.sp n p d e).2⟩,
    Nat.lt_of_lt_of_le hk.lm hsz, Nat.lt_of_lt_of_le hk.ls hsz, Nat.le_trans hk.l0 hsz⟩, ?_, ?_, ?_, hout, oL', h.mLo, h.mF, h.mS, h.mN, by rw [World.frozen?_setCell, World.frozen?_of_block hmB]; exact h.fz⟩
  · refine fa.move fun p hp k hkk => ?_
    have o := hout p hp k hkk
    obtain ⟨i, hi, rfl⟩ := List.getElem_of_mem hp
    have st := fa.sta i hi
    obtain ⟨l1, l2, l3, l4⟩ := st.lt
    obtain ⟨⟨_, _, _, b1, _⟩, ⟨_, b2, _⟩, ⟨_, b3, _⟩, ⟨_, b4, _⟩, _⟩ := st
    refine hm k (by rcases hkk with rfl | rfl | rfl | rfl <;> assumption) ?_ o.m
    rcases hkk with rfl | rfl | rfl | rfl
    · exact b1.ne_of_type hbL (by decide)
    · exact b2.ne_of_type hbL (by decide)
    · exact b3.ne_of_type hbL (by decide)
    · exact b4.ne_of_type hbL (by decide)
  · rw [hl]
    exact World.cell?_setCell_same w' _ _ (u := .slice (some ⟨gL, 0, none⟩) sts.length cL) (by rw [← h.c7]; unfold World.cell?; rw [hmB])
  · rw [hl]
    refine own'.move fun k hk' => Below.heap_setCell _ _ _ _ ?_
    have e : gL' = k := by simpa [Value.ownBlock] using hk'
    rw [← e]
    exact oL'.m
end
end Go.Proofs.YtaooejidkeojjaaDoor.H
namespace Go.Proofs.YtaooejidkeojjaaDoor.H
open Go.RowKit
set_option linter.unusedVariables false
set_option linter.unusedSimpArgs false
set_option maxRecDepth 100000
theorem nxSel_succ (g : Gr) (out : List Nat) (s k : Nat) : nxSel g out s (k + 1) = nxSel g out s k ++ (if out.getD k 0 ≠ 0 ∧ nextS g k = (s : Int) then [k] else []) := by
  unfold nxSel
  rw [List.range_succ, List.filter_append]
  congr 1
  by_cases h : out.getD k 0 ≠ 0 ∧ nextS g k = (s : Int)
  · rw [if_pos h, List.filter_cons, if_pos (decide_eq_true h), List.filter_nil]
  · rw [if_neg h, List.filter_cons, if_neg (by rw [decide_eq_false h]; exact Bool.false_ne_true), List.filter_nil]
def cCof (g : Gr) (out : List Nat) (k : Nat) (s : Nat) : List Value := (nxSel g out s k).map fun n : Nat => Value.int .i64 ((n + 1 : Nat) : Int)
def cMof (g : Gr) (out : List Nat) (k : Nat) (s : Nat) : List Value := (nxSel g out s k).map fun n => Value.int .u64 ((out.getD n 0 : Nat) : Int)
theorem nxSel_len (g : Gr) (out : List Nat) (s k : Nat) : (nxSel g out s k).length ≤ k := by
  unfold nxSel
  exact Nat.le_trans (List.length_filter_le _ _) (by simp)
theorem cCof_hit {g : Gr} {out : List Nat} {k s : Nat} (h0 : out.getD k 0 ≠ 0) (hs : (s : Int) = nextS g k) : cCof g out (k + 1) = upd (cCof g out k) s (cCof g out k s ++ [.int .i64 ((k : Int) + 1)]) := by
  funext t
  unfold cCof
  rw [nxSel_succ]
  by_cases e : t = s
  · subst e
    rw [if_pos ⟨h0, hs.symm⟩, upd_same, List.map_append]; rfl
  · rw [if_neg (by rw [← hs]; rintro ⟨_, h⟩; exact e (by omega)), List.append_nil, upd_ne _ _ e]
theorem cMof_hit {g : Gr} {out : List Nat} {k s : Nat} (h0 : out.getD k 0 ≠ 0) (hs : (s : Int) = nextS g k) : cMof g out (k + 1) = upd (cMof g out k) s (cMof g out k s ++ [.int .u64 ((out.getD k 0 : Nat) : Int)]) := by
  funext t
  unfold cMof
  rw [nxSel_succ]
  by_cases e : t = s
  · subst e
    rw [if_pos ⟨h0, hs.symm⟩, upd_same, List.map_append]; rfl
  · rw [if_neg (by rw [← hs]; rintro ⟨_, h⟩; exact e (by omega)), List.append_nil, upd_ne _ _ e]
theorem cof_miss {g : Gr} {out : List Nat} {k : Nat} (h : ¬(out.getD k 0 ≠ 0 ∧ 0 ≤ nextS g k)) : cCof g out (k + 1) = cCof g out k ∧ cMof g out (k + 1) = cMof g out k := by
  have e : ∀ t, nxSel g out t (k + 1) = nxSel g out t k := fun t => by
    rw [nxSel_succ, if_neg (by rintro ⟨h1, h2⟩; exact h ⟨h1, by omega⟩), List.append_nil]
  constructor <;> funext t
  · unfold cCof; rw [e]
  · unfold cMof; rw [e]
def StsOk (x : Mx) (sts : List StD) : Prop := ∀ s ∈ sts, StOk x.g s.core s.mask ∧ 0 < s.core.length ∧ s.led.length = x.g.S.toNat
theorem info_state : (Tryd.prog.info? 89).map (fun i => (i.zero, i.size, i.bytes)) = some (some (.agg #[.slice none 0 0, .slice none 0 0, .slice none 0 0]), 3, 72) := by kernel_rfl
theorem info_parts3 {P : Program} {t : TypeId} {z : Value} {n b : Nat} (h : (P.info? t).map (fun i => (i.zero, i.size, i.bytes)) = some (some z, n, b)) : ∃ i, P.info? t = some i ∧ i.zero = some z ∧ i.size = n ∧ i.bytes = b := by
  cases e : P.info? t with
  | none => rw [e] at h; cases h
  | some i =>
    rw [e] at h
    have h2 := Option.some.inj h
    injection h2 with h3 h4
    injection h4 with h4 h5
    exact ⟨i, rfl, h3, h4, h5⟩
theorem cells3 (n i : Nat) (h : i < n * 3) : (madeCells #[Value.slice none 0 0, .slice none 0 0, .slice none 0 0] (n * 3)).toList[i]? = some (.slice none 0 0) := by
  unfold madeCells
  simp only [Array.getElem?_toList, Array.getElem?_map, Array.getElem?_range, h, if_true, Option.map_some]
  have : i % 3 = 0 ∨ i % 3 = 1 ∨ i % 3 = 2 := by omega
  show some (#[Value.slice none 0 0, .slice none 0 0, .slice none 0 0][i % 3]!) = _
  rcases this with e | e | e <;> rw [e] <;> rfl
theorem Nx.start {w : World} {B n : Nat} {v : Value} (h : w.ownsRow B 89 3 v n (madeCells #[Value.slice none 0 0, .slice none 0 0, .slice none 0 0] (n * 3)).toList) (hn : 0 < n) :
    ∃ gN c, v = .slice (some ⟨gN, 0, none⟩) n c ∧ n ≤ c ∧ gN < w.heap.size ∧ Nx w B gN (· < n) (fun _ => .slice none 0 0) (fun _ => .slice none 0 0) (fun _ => []) (fun _ => []) := by
  rcases h.2 with ⟨_, h0⟩ | ⟨g, cap, cur, rfl, hB, hh, hnc, hc, hs, ht⟩
  · omega
  · have at_ : ∀ i, i < n * 3 → cur[i]? = some (.slice none 0 0) := fun i hi => by
      have h3 : (cur.toList.take (n * 3))[i]? = some (.slice none 0 0) := by rw [ht]; exact cells3 n i hi
      rw [List.getElem?_take, if_pos hi] at h3
      simpa using h3
    exact ⟨g, cap, rfl, hnc, (show Blk w g _ cur from hh).lt, ⟨cur, hh, fun s hs => ⟨at_ _ (by omega), at_ _ (by omega)⟩⟩, fun _ _ => OwnR.nil _ _ _, fun _ _ => OwnR.nil _ _ _, fun _ _ _ _ _ k hk => by simp [Value.ownBlock] at hk, fun _ _ _ _ _ k hk => by simp [Value.ownBlock] at hk, hB⟩
section
variable {ops : Array Oper} {rest : List Oper} {o : Oper} {a : Act} {Q : Exit → Act → World → Prop} {w : World} {B gN : Nat} {K : Nat → Prop} {vC vM : Nat → Value} {cC cM : Nat → List Value}
theorem wpl_append_core (hgd : o.guard = none) (s x : Operand) (ho : o.op = .call { callee := .builtin .append, args := #[s, x], argTypes := #[44, 44] })
    (h : Nx w B gN K vC vM cC cM) {t : Nat} (ht : K t) (hs : a.eval s = vC t) (g1 : Nat) (y : Int) (hx : a.eval x = .slice (some ⟨g1, 0, none⟩) 1 1) (hc : w.cell? ⟨g1, 0, none⟩ = some (.int .i64 y)) (hl : (cC t).length < 100000) (hbase : B ≤ w.heap.size)
    (hK : ∀ v' w', Nx (w'.setCell ⟨gN, t * 3, none⟩ v') B gN K (upd vC t v') vM (upd cC t (cC t ++ [.int .i64 y])) cM → Below B w w' → (∀ g ty cs, Blk w g ty cs → ty ≠ 3 → Blk w' g ty cs) → wpList Tryd.prog ops Q rest (a.put o.dst v') w') : wpList Tryd.prog ops Q (o :: rest) a w := by
  obtain ⟨i0, hi0, hz0, hz1, hz2⟩ := info_parts info_int
  have hown := h.oC t ht
  refine wpList_append_own_at w hgd s x 44 ho B 3 i0 (.int .i64 0) 1 8 Tryd.underlying44 hi0 hz0 hz1 hz2 rfl (by decide) (vC t) (cC t).length (cC t) hs hown ⟨g1, 0, none⟩ 1 1 [.int .i64 y] hx rfl
    (fun j u hu => ?_) (by simp [Value.oneCell']) (by simp only [maxLen]; omega) (by omega) hbase (fun v' w' h1 h2 _ h4 => hK v' w' (h.putC ht v' _ h1 h2 h4) ((Below.refl _ _).grown h2 hbase (fun b hb => (hown.block b hb).1)) fun g ty cs hb hty => hb.grown h2 fun e => hown.ne hb hty g e.symm rfl)
  rcases j with _ | j
  · simp at hu
    subst hu
    exact hc
  · simp at hu
theorem info_looks2 : (Tryd.prog.info? 86).map (fun i => (i.zero, i.size, i.bytes)) = some (some (.int .u64 0), 1, 8) := by kernel_rfl
theorem wpl_append_mask (hgd : o.guard = none) (s x : Operand) (ho : o.op = .call { callee := .builtin .append, args := #[s, x], argTypes := #[77, 77] })
    (h : Nx w B gN K vC vM cC cM) {t : Nat} (ht : K t) (hs : a.eval s = vM t) (g1 : Nat) (y : Int) (hx : a.eval x = .slice (some ⟨g1, 0, none⟩) 1 1) (hc : w.cell? ⟨g1, 0, none⟩ = some (.int .u64 y)) (hl : (cM t).length < 100000) (hbase : B ≤ w.heap.size)
    (hK : ∀ v' w', Nx (w'.setCell ⟨gN, t * 3 + 1, none⟩ v') B gN K vC (upd vM t v') cC (upd cM t (cM t ++ [.int .u64 y])) → Below B w w' → (∀ g ty cs, Blk w g ty cs → ty ≠ 86 ∨ (vM t).ownBlock ≠ some g → Blk w' g ty cs) → wpList Tryd.prog ops Q rest (a.put o.dst v') w') : wpList Tryd.prog ops Q (o :: rest) a w := by
  obtain ⟨i0, hi0, hz0, hz1, hz2⟩ := info_parts info_looks2
  have hown := h.oM t ht
  refine wpList_append_own_at w hgd s x 77 ho B 86 i0 (.int .u64 0) 1 8 Tryd.underlying77 hi0 hz0 hz1 hz2 rfl (by decide) (vM t) (cM t).length (cM t) hs hown ⟨g1, 0, none⟩ 1 1 [.int .u64 y] hx rfl
    (fun j u hu => ?_) (by simp [Value.oneCell']) (by simp only [maxLen]; omega) (by omega) hbase (fun v' w' h1 h2 _ h4 => hK v' w' (h.putM ht v' _ h1 h2 h4) ((Below.refl _ _).grown h2 hbase (fun b hb => (hown.block b hb).1)) fun g ty cs hb hty => hb.grown h2 fun e => by
      rcases hty with hty | hty
      · exact hown.ne hb hty g e.symm rfl
      · exact hty e.symm)
  rcases j with _ | j
  · simp at hu
    subst hu
    exact hc
  · simp at hu
end
def GrW (w wr : World) (gN S : Nat) (g : Gr) (out : List Nat) (k : Nat) : Prop := ∃ vC vM, Nx wr w.heap.size gN (· < S) vC vM (cCof g out k) (cMof g out k) ∧ Below w.heap.size w wr
end Go.Proofs.YtaooejidkeojjaaDoor.H
namespace Go.Proofs.YtaooejidkeojjaaDoor.H
open Go.RowKit
set_option linter.unusedVariables false
set_option linter.unusedSimpArgs false
set_option maxRecDepth 100000
theorem growTo_succ (g : Gr) (F : List Nat) (at_ : Nat) (sts : List StD) (k : Nat) : growTo g F at_ sts (k + 1) = growSym g (closeM g F (stAt sts at_).core (stAt sts at_).mask) at_ (growTo g F at_ sts k) k := by
  unfold growTo
  rw [List.range_succ, List.foldl_append]; rfl
theorem cCof_core (g : Gr) (out : List Nat) (s : Nat) : cCof g out (nSp g) s = (nxCore g out s).map fun n : Nat => Value.int .i64 (n : Int) := by
  unfold cCof nxCore
  rw [List.map_map]; rfl
theorem cMof_mask (g : Gr) (out : List Nat) (s : Nat) : cMof g out (nSp g) s = (nxMask g out s).map fun n : Nat => Value.int .u64 (n : Int) := by
  unfold cMof nxMask
  rw [List.map_map]; rfl
theorem nx_len (g : Gr) (out : List Nat) (s : Nat) : (nxCore g out s).length = (nxMask g out s).length := by simp [nxCore, nxMask]
def findI (sts : List StD) (c : List Nat) : Int := match findS sts c with | some n => (n : Int) | none => -1
theorem idx_find (sts : List StD) (c : List Nat) : idxOf (fun i => decide ((stAt sts i).core = c)) (List.range sts.length) = findI sts c := by
  unfold idxOf findI findS
  have hp : (fun i => decide ((stAt sts i).core = c)) = fun i => decide ((sts.getD i ⟨[], [], []⟩).core = c) := rfl
  rw [hp]
  generalize (fun i => decide ((sts.getD i ⟨[], [], []⟩).core = c)) = p
  cases h : (List.range sts.length).find? p with
  | none =>
    have hn := List.find?_eq_none.1 h
    rw [if_neg]
    rw [List.any_eq_true]
    rintro ⟨x, hx, hp⟩
    exact hn x hx hp
  | some n =>
    have h1 := List.find?_some h
    have h2 := List.mem_of_find?_eq_some h
    rw [if_pos (List.any_eq_true.2 ⟨n, h2, h1⟩)]
    have hfi : (List.range sts.length).findIdx p = n := by
      have h3 := List.find?_eq_some_iff_getElem.1 h
      obtain ⟨_, i, hi, e, hlt⟩ := h3
      rw [List.getElem_range] at e
      subst e
      rw [List.findIdx_eq (by simpa using hi)]
      refine ⟨by simpa using h1, fun j hj => ?_⟩
      have := hlt j hj
      simpa using this
    rw [hfi]
structure GrU (x : Mx) (w1 w : World) (gL0 : Nat) (qs0 : List Q4) (gN S : Nat) (vC vM : Nat → Value) (out : List Nat) (k : Nat) (gL cL : Nat) (qs : List Q4) (u : GrS) (v : Value) : Prop where
  m1 : Mk x w1
  ms : MkS x w gL cL qs u.sts
  ok : StsOk x u.sts
  l : u.sts.length ≤ 512
  nx : Nx w w1.heap.size gN (fun s => k ≤ s ∧ s < S) vC vM (cCof x.g out (nSp x.g)) (cMof x.g out (nSp x.g))
  fr : OwnI w w1.heap.size v (ints_ u.fresh)
  nf : u.full = false
  low : Below x.B0 w1 w
  kept : ∀ b, b < w1.heap.size → b ≠ x.mB → b ≠ gL0 → (∀ q ∈ qs0, b ≠ q.gm ∧ b ≠ q.gt) → w.heap[b]? = w1.heap[b]?
  ext : ∃ more, qs = qs0 ++ more ∧ ∀ q ∈ more, w1.heap.size ≤ q.gm ∧ w1.heap.size ≤ q.gt ∧ w1.heap.size ≤ q.gc
  gl : gL = gL0 ∨ w1.heap.size ≤ gL
  sC : ∀ q ∈ qs, ∀ s, k ≤ s → s < S → (vC s).ownBlock ≠ some q.gt
  sM : ∀ q ∈ qs, ∀ s, k ≤ s → s < S → (vM s).ownBlock ≠ some q.gm
  sF : ∀ q ∈ qs, v.ownBlock ≠ some q.gt ∧ v.ownBlock ≠ some q.gc
  sV : ∀ s, k ≤ s → s < S → ∀ b, v.ownBlock = some b → (vC s).ownBlock ≠ some b
theorem GrU.start {x : Mx} {w1 w : World} {gL cL gN S : Nat} {qs : List Q4} {sts : List StD} {out : List Nat} (hm : MkS x w1 gL cL qs sts) (hok : StsOk x sts) (hl : sts.length ≤ 512) {vC vM : Nat → Value}
    (hn : Nx w w1.heap.size gN (· < S) vC vM (cCof x.g out (nSp x.g)) (cMof x.g out (nSp x.g))) (hb : Below w1.heap.size w1 w) : GrU x w1 w gL qs gN S vC vM out 0 gL cL qs ⟨sts, [], false⟩ (.slice none 0 0) := by
  have lt : ∀ q ∈ qs, q.b < w1.heap.size ∧ q.gc < w1.heap.size ∧ q.gm < w1.heap.size ∧ q.gt < w1.heap.size := fun q hq => by
    obtain ⟨i, hi, rfl⟩ := List.getElem_of_mem hq
    exact (hm.fam.sta i hi).lt
  refine ⟨hm.mkr, hm.keep hb, hok, hl, hn.less fun s h => h.2, OwnI.nil _ _, rfl, hb.mono hm.mkr.l0, fun b h _ _ _ => hb.block b h, ⟨[], by simp, fun q h => absurd h (by simp)⟩, .inl rfl, fun q hq s _ hs e => ?_, fun q hq s _ hs e => ?_, fun q _ => ⟨by simp [Value.ownBlock], by simp [Value.ownBlock]⟩, fun s _ _ b h => by simp [Value.ownBlock] at h⟩
  · have := ((hn.oC s hs).block _ e).1
    have := (lt q hq).2.2.2
    omega
  · have := ((hn.oM s hs).block _ e).1
    have := (lt q hq).2.2.1
    omega
theorem GrU.below {x : Mx} {w1 w w' : World} {gL0 gN S k gL cL : Nat} {qs0 qs : List Q4} {vC vM : Nat → Value} {out : List Nat} {u : GrS} {v : Value} (h : GrU x w1 w gL0 qs0 gN S vC vM out k gL cL qs u v) (hs : w1.heap.size ≤ w.heap.size) (hb : Below w.heap.size w w') : GrU x w1 w' gL0 qs0 gN S vC vM out k gL cL qs u v :=
  ⟨h.m1, h.ms.keep hb, h.ok, h.l, h.nx.below hb, h.fr.below hb, h.nf, h.low.trans (hb.mono h.ms.mkr.l0), fun b h1 h2 h3 h4 => (hb.block b (by omega)).trans (h.kept b h1 h2 h3 h4), h.ext, h.gl, h.sC, h.sM, h.sF, h.sV⟩
theorem GrU.next {x : Mx} {w1 w : World} {gL0 gN S k gL cL : Nat} {qs0 qs : List Q4} {vC vM : Nat → Value} {out : List Nat} {u : GrS} {v : Value} (h : GrU x w1 w gL0 qs0 gN S vC vM out k gL cL qs u v) : GrU x w1 w gL0 qs0 gN S vC vM out (k + 1) gL cL qs u v :=
  ⟨h.m1, h.ms, h.ok, h.l, h.nx.less fun s hs => ⟨by omega, hs.2⟩, h.fr, h.nf, h.low, h.kept, h.ext, h.gl, fun q hq s h1 h2 => h.sC q hq s (by omega) h2, fun q hq s h1 h2 => h.sM q hq s (by omega) h2, h.sF, fun s h1 h2 => h.sV s (by omega) h2⟩
def GrowPost (x : Mx) (w : World) (gL0 : Nat) (qs0 : List Q4) (r : GrS) (e : Ending) (w' : World) : Prop :=
  (r.full = true ∧ (∃ v, e = .returned (.tuple #[v, .int .i64 3])) ∧ Below x.B0 w w') ∨
  (r.full = false ∧ ∃ v gL cL qs, e = .returned (.tuple #[v, .int .i64 0]) ∧ MkS x w' gL cL qs r.sts ∧ StsOk x r.sts ∧ r.sts.length ≤ 512 ∧ OwnI w' w.heap.size v (ints_ r.fresh) ∧ Below x.B0 w w' ∧
    (∀ b, b < w.heap.size → b ≠ x.mB → b ≠ gL0 → (∀ q ∈ qs0, b ≠ q.gm ∧ b ≠ q.gt) → w'.heap[b]? = w.heap[b]?) ∧ (∃ more, qs = qs0 ++ more ∧ ∀ q ∈ more, w.heap.size ≤ q.gm ∧ w.heap.size ≤ q.gt ∧ w.heap.size ≤ q.gc) ∧ (gL = gL0 ∨ w.heap.size ≤ gL))
theorem GrU.done {x : Mx} {w w1 w' : World} {gL0 gN S k gL cL : Nat} {qs0 qs : List Q4} {vC vM : Nat → Value} {out : List Nat} {u : GrS} {v : Value} (h : GrU x w1 w' gL0 qs0 gN S vC vM out k gL cL qs u v) (hb : Below w.heap.size w w1) (h0 : x.B0 ≤ w.heap.size) : GrowPost x w gL0 qs0 u (.returned (.tuple #[v, .int .i64 0])) w' := by
  have hs := hb.size
  obtain ⟨more, e, hm⟩ := h.ext
  exact .inr ⟨h.nf, v, gL, cL, qs, rfl, h.ms, h.ok, h.l, h.fr.mono hs, (hb.mono h0).trans h.low, fun b h1 h2 h3 h4 => (h.kept b (by omega) h2 h3 h4).trans (hb.block b h1), ⟨more, e, fun q hq => ⟨by have := (hm q hq).1; omega, by have := (hm q hq).2.1; omega, by have := (hm q hq).2.2; omega⟩⟩, by rcases h.gl with e | e; exact .inl e; exact .inr (by omega)⟩
theorem growSym_nil {g : Gr} {out : List Nat} {at_ : Nat} {u : GrS} {k : Nat} (h : nxCore g out k = []) : growSym g out at_ u k = u := by
  unfold growSym
  split
  · rfl
  · first | rfl | (rw [if_pos h])
theorem ints_inj {a b : List Nat} (h : ints_ a = ints_ b) : a = b := by
  have := congrArg (List.map Int.toNat) h
  simpa [ints_, List.map_map, Function.comp_def] using this
theorem rd_row {w : World} {g : Nat} {l : List Nat} (cs : Array Value) (hb : Blk w g 3 cs) (h : ∀ (i n : Nat), l[i]? = some n → cs[i]? = some (.int .i64 (n : Nat))) : Rd eI 1 w w.heap.size (some ⟨g, 0, none⟩) (ints_ l) := fun i hi => by
  rw [ints_len] at hi
  refine ⟨_, rfl, hb.lt, fun j u hj => ?_⟩
  cases j with
  | zero =>
    have hu : Value.int .i64 ((l[i] : Nat) : Int) = u := by simpa [eI, ints_] using hj
    have hc := h i l[i] (List.getElem?_eq_getElem hi)
    rw [← hu, ← hc, ← hb.cell i]
    congr 1
    simp [Addr.add]
    intro e
    exact e.symm
  | succ j => simp [eI] at hj
theorem find_call {x : Mx} {w1 w : World} {gL0 gN S k gL cL : Nat} {qs0 qs : List Q4} {vC vM : Nat → Value} {out : List Nat} {u : GrS} {v : Value} (h : GrU x w1 w gL0 qs0 gN S vC vM out k gL cL qs u v) (hx : MxOk x) (hk : k < S) (hne : 0 < (nxCore x.g out k).length) (gX : Nat) (cX : w.cell? ⟨gX, 0, none⟩ = some (.pointer (some ⟨gN, k * 3, none⟩))) (lX : gX < w.heap.size) :
    Calls Tryd.prog 59 #[.slice (some ⟨gL, 0, none⟩) u.sts.length cL, .func (.func 60) #[] #[.pointer (some ⟨gX, 0, none⟩)]] w fun e w' => e = .returned (.int .i64 (findI u.sts (nxCore x.g out k))) ∧ Below w.heap.size w w' := by
  have hl : (qs.map Q4.b).length = u.sts.length := by rw [List.length_map]; exact h.ms.fam.len
  have hcC := h.nx.cellC (s := k) ⟨Nat.le_refl _, hk⟩
  obtain ⟨A, c, ev, _, _, hop⟩ := (h.nx.oC k ⟨Nat.le_refl _, hk⟩).open_
  have ecl : (cCof x.g out (nSp x.g) k).length = (ints_ (nxCore x.g out k)).length := by rw [cCof_core, List.length_map, ints_len]
  obtain ⟨gy, cur, eA, _, hby, hcy⟩ := hop (by rw [ecl, ints_len]; exact hne)
  rw [ev, eA, ecl] at hcC
  have ry := rd_row (l := nxCore x.g out k) cur hby (fun i n hi => hcy i _ (by rw [cCof_core, List.getElem?_map, hi]; rfl))
  have hgN : gN < w.heap.size := by
    obtain ⟨cs, hb, _⟩ := h.nx.blk
    exact hb.lt
  have K := indexFuncS gL cL (qs.map Q4.b) 60 #[.pointer (some ⟨gX, 0, none⟩)] (fun i => decide ((stAt u.sts i).core = nxCore x.g out k)) w (by rw [hl]; have := h.l; omega)
    (h.ms.lst.block gL rfl).2.1
    (fun i hi => by
      have hi' : i < qs.length := by simpa using hi
      rw [List.getElem_map]
      exact h.ms.ptr hi')
    (enters_of Tryd.func60 rfl rfl)
    (fun i hi W hW => by
      have hi' : i < qs.length := by simpa using hi
      rw [List.getElem_map]
      obtain ⟨⟨cc, cm, ct, hb, l1, l2, l3⟩, ⟨c1, h3, h4⟩, _, _, _⟩ := h.ms.fam.sta i hi'
      have hbW := hb.below hW hb.lt
      have h3W := h3.below hW h3.lt
      have hs : (ints_ (stAt u.sts i).core).length = (stAt u.sts i).core.length := ints_len _
      have hcore : (stAt u.sts i).core.length ≤ 600 := by
        have hm : stAt u.sts i ∈ u.sts := by
          have hi2 : i < u.sts.length := by rw [← h.ms.fam.len]; exact hi'
          unfold stAt
          rw [List.getD_eq_getElem?_getD, List.getElem?_eq_getElem hi2]
          exact List.getElem_mem hi2
        obtain ⟨so, _, _⟩ := h.ok _ hm
        have h1 := nodup_sub (stAt u.sts i).core (List.range (nSp x.g)) so.nd fun n hn => List.mem_range.2 (so.lt n hn)
        rw [List.length_range] at h1
        have := nSp_le hx
        omega
      refine (sameCore qs[i].b qs[i].gc gX gN (k * 3) gy (ints_ (stAt u.sts i).core) (ints_ (nxCore x.g out k)) cc c W (by rw [hbW.cell, hs]; rfl) (cell_below cX hW lX) (cell_below hcC hW hgN) (by rw [hs]; omega) (rd_row c1 h3W h4) ((ry.below hW).mono hW.size)).mono ?_
      rintro e w' ⟨rfl, n, rfl⟩
      refine ⟨?_, below_drewN hW n⟩
      congr 2
      by_cases e : (stAt u.sts i).core = nxCore x.g out k
      · rw [e]; simp
      · rw [decide_eq_false e, decide_eq_false (fun h => e (ints_inj h))])
  rw [hl] at K
  refine K.mono ?_
  rintro e w' ⟨rfl, hb⟩
  exact ⟨by rw [idx_find], hb⟩
theorem nxSel_mem {g : Gr} {out : List Nat} {s k n : Nat} (h : n ∈ nxSel g out s k) : n < k ∧ out.getD n 0 ≠ 0 ∧ nextS g n = (s : Int) := by
  unfold nxSel at h
  rw [List.mem_filter] at h
  have h2 := of_decide_eq_true h.2
  exact ⟨List.mem_range.1 h.1, h2.1, h2.2⟩
theorem nx_ok {g : Gr} {out : List Nat} (hb : ∀ y ∈ out, y < 2 ^ 64) (s : Nat) : StOk g (nxCore g out s) (nxMask g out s) := by
  refine ⟨?_, fun n hn => ?_, (nx_len g out s).symm, fun y hy => ?_, fun y hy => ?_⟩
  · unfold nxCore
    have h0 : (nxSel g out s (nSp g)).Nodup := by
      unfold nxSel
      exact List.Pairwise.filter _ List.nodup_range
    show List.Pairwise _ _
    rw [List.pairwise_map]
    exact h0.imp fun h e => h (by omega)
  · unfold nxCore at hn
    obtain ⟨m, hm, rfl⟩ := List.mem_map.1 hn
    obtain ⟨h1, h2, h3⟩ := nxSel_mem hm
    rcases nextS_cases h1 with ⟨p, hp, e, e2⟩ | ⟨p, d, hp, hd, e, _⟩
    · omega
    · rw [e]
      have := off_lt (d := d + 1) hp (by omega)
      omega
  · unfold nxMask at hy
    obtain ⟨m, hm, rfl⟩ := List.mem_map.1 hy
    exact getD_lt hb m
  · unfold nxMask at hy
    obtain ⟨m, hm, rfl⟩ := List.mem_map.1 hy
    exact (nxSel_mem hm).2.1
structure GrV (x : Mx) (w1 w : World) (gL0 : Nat) (qs0 : List Q4) (gN S : Nat) (vC vM : Nat → Value) (out : List Nat) (k gX g2 c2 : Nat) (gL cL : Nat) (qs : List Q4) (u : GrS) (v : Value) (n : Nat) : Prop where
  gu : GrU x w1 w gL0 qs0 gN S vC vM out (k + 1) gL cL qs u v
  bX : Blk w gX 76 #[.pointer (some ⟨gN, k * 3, none⟩)]
  cM : w.cell? ⟨gN, k * 3 + 1, none⟩ = some (.slice (some ⟨g2, 0, none⟩) (nxMask x.g out k).length c2)
  pm : PreM w g2 (nxMask x.g out k)
  lt : n < u.sts.length
  ln : (stAt u.sts n).mask.length = (nxMask x.g out k).length
  ne : ∀ h : n < qs.length, g2 ≠ qs[n].gm ∨ nxMask x.g out k = (stAt u.sts n).mask
theorem findI_some {sts : List StD} {c : List Nat} (h : 0 ≤ findI sts c) : ∃ n, findS sts c = some n ∧ findI sts c = (n : Int) ∧ n < sts.length ∧ (stAt sts n).core = c := by
  unfold findI at h ⊢
  cases e : findS sts c with
  | none => rw [e] at h; simp at h
  | some n =>
    unfold findS at e
    have h1 := List.find?_some e
    have h2 := List.mem_of_find?_eq_some e
    exact ⟨n, rfl, rfl, List.mem_range.1 h2, of_decide_eq_true h1⟩
theorem findI_none {sts : List StD} {c : List Nat} (h : ¬ 0 ≤ findI sts c) : findS sts c = none := by
  unfold findI at h
  cases e : findS sts c with
  | none => rfl
  | some n => rw [e] at h; exact absurd (Int.natCast_nonneg n) h
theorem GrV.found {x : Mx} {w1 w : World} {gL0 gN S k gL cL : Nat} {qs0 qs : List Q4} {vC vM : Nat → Value} {out : List Nat} {u : GrS} {v : Value} (h : GrU x w1 w gL0 qs0 gN S vC vM out k gL cL qs u v) (hk : k < S) (hne : 0 < (nxCore x.g out k).length) {gX n : Nat} (bX : Blk w gX 76 #[.pointer (some ⟨gN, k * 3, none⟩)])
    (hn : n < u.sts.length) (hc : (stAt u.sts n).core = nxCore x.g out k) : ∃ g2 c2, GrV x w1 w gL0 qs0 gN S vC vM out k gX g2 c2 gL cL qs u v n := by
  obtain ⟨A, c, ev, _, _, hop⟩ := (h.nx.oM k ⟨Nat.le_refl _, hk⟩).open_
  have el : (cMof x.g out (nSp x.g) k).length = (nxMask x.g out k).length := by rw [cMof_mask, List.length_map]
  obtain ⟨g2, cur, eA, eo, hb2, hc2⟩ := hop (by rw [el, ← nx_len]; exact hne)
  have hm : stAt u.sts n ∈ u.sts := by
    unfold stAt
    rw [List.getD_eq_getElem?_getD, List.getElem?_eq_getElem hn]
    exact List.getElem_mem hn
  refine ⟨g2, c, h.next, bX, ?_, ⟨cur, hb2, fun i m hi => hc2 i _ (by rw [cMof_mask, List.getElem?_map, hi]; rfl)⟩, hn, ?_, fun hq => .inl fun e => h.sM qs[n] (List.getElem_mem hq) k (Nat.le_refl _) hk (by rw [eo, e])⟩
  · rw [h.nx.cellM ⟨Nat.le_refl _, hk⟩, ev, eA, el]
  · rw [(h.ok _ hm).1.l, hc, nx_len]
theorem growTo_full {g : Gr} {F : List Nat} {at_ : Nat} {sts : List StD} {k : Nat} (h : (growTo g F at_ sts k).full = true) : ∀ d, growTo g F at_ sts (k + d) = growTo g F at_ sts k := by
  intro d
  induction d with
  | zero => rfl
  | succ d ih =>
    rw [← Nat.add_assoc, growTo_succ, ih]
    unfold growSym
    rw [if_pos h]
theorem grow_full {x : Mx} {w w1 w' : World} {gL0 gN S k gL cL : Nat} {qs0 qs : List Q4} {vC vM : Nat → Value} {out : List Nat} {u : GrS} {v : Value} {F : List Nat} {at_ : Nat} {sts : List StD} (h : GrU x w1 w' gL0 qs0 gN S vC vM out k gL cL qs u v) (hb : Below w.heap.size w w1) (h0 : x.B0 ≤ w.heap.size)
    (hu : u = growTo x.g F at_ sts k) (hsu : growTo x.g F at_ sts (k + 1) = growSym x.g out at_ (growTo x.g F at_ sts k) k) (hk : k < x.g.S.toNat) (hne : 0 < (nxCore x.g out k).length) (hf : findS u.sts (nxCore x.g out k) = none) (hl : u.sts.length = 512) (v9 : Value) : GrowPost x w gL0 qs0 (growM x.g F at_ sts) (.returned (.tuple #[v9, .int .i64 3])) w' := by
  have hfull : (growTo x.g F at_ sts (k + 1)).full = true := by
    rw [hsu, ← hu]
    unfold growSym
    rw [if_neg (by rw [h.nf]; exact Bool.false_ne_true), if_neg (by intro e; rw [e] at hne; simp at hne)]
    have : (growFind x.g u (nxCore x.g out k) (nxMask x.g out k)).1.full = true := by
      unfold growFind
      rw [hf]
      simp only [hl, if_true]
    rw [if_pos this]
    exact this
  have e : growM x.g F at_ sts = growTo x.g F at_ sts (k + 1) := by
    unfold growM
    have := growTo_full hfull (x.g.S.toNat - (k + 1))
    rw [← this]
    congr 1
    omega
  exact .inl ⟨by rw [e]; exact hfull, ⟨v9, rfl⟩, (hb.mono h0).trans h.low⟩
theorem Nx.keep {w w' : World} {B gN : Nat} {K : Nat → Prop} {vC vM : Nat → Value} {cC cM : Nat → List Value} (h : Nx w B gN K vC vM cC cM) (hN : w'.heap[gN]? = w.heap[gN]?) (hC : ∀ s, K s → ∀ k, (vC s).ownBlock = some k → w'.heap[k]? = w.heap[k]?) (hM : ∀ s, K s → ∀ k, (vM s).ownBlock = some k → w'.heap[k]? = w.heap[k]?) : Nx w' B gN K vC vM cC cM := by
  obtain ⟨cs, hb, hc⟩ := h.blk
  exact ⟨⟨cs, hN.trans hb, hc⟩, fun s hs => (h.oC s hs).move (hC s hs), fun s hs => (h.oM s hs).move (hM s hs), h.aC, h.aM, h.gB⟩
theorem OwnI.move_ {w w' : World} {B : Nat} {v : Value} {xs : List Int} (h : OwnI w B v xs) (hm : ∀ k, v.ownBlock = some k → w'.heap[k]? = w.heap[k]?) : OwnI w' B v xs := by
  obtain ⟨h1, h2⟩ := h
  refine ⟨h1, ?_⟩
  rcases h2 with h0 | ⟨g, cap, cur, hv, hB, hh, hr⟩
  · exact .inl h0
  · exact .inr ⟨g, cap, cur, hv, hB, (hm g (by rw [hv]; rfl)).trans hh, hr⟩
theorem stsOk_led {x : Mx} {sts : List StD} (h : StsOk x sts) {i : Nat} (hi : i < sts.length) (sym n : Nat) : StsOk x (setTo sts i sym n) := by
  intro s hs
  unfold setTo at hs
  rcases List.mem_or_eq_of_mem_set hs with h1 | rfl
  · exact h s h1
  · have mem : stAt sts i ∈ sts := by
      unfold stAt
      rw [List.getD_eq_getElem?_getD, List.getElem?_eq_getElem hi]
      exact List.getElem_mem hi
    obtain ⟨h1, h2, h3⟩ := h _ mem
    exact ⟨h1, h2, by show ((stAt sts i).led.set sym (n : Int)).length = _; rw [List.length_set]; exact h3⟩
theorem GrV.led {x : Mx} {w1 w : World} {gL0 gN S k gX g2 c2 gL cL n at_ : Nat} {qs0 qs : List Q4} {vC vM : Nat → Value} {out : List Nat} {u : GrS} {v : Value} (h : GrV x w1 w gL0 qs0 gN S vC vM out k gX g2 c2 gL cL qs u v n) (ha0 : at_ < qs0.length) (ha : at_ < qs.length) :
    GrV x w1 (w.setCell ⟨qs[at_].gt, k, none⟩ (.int .i64 (n : Nat))) gL0 qs0 gN S vC vM out k gX g2 c2 gL cL qs ⟨setTo u.sts at_ k n, u.fresh, false⟩ v n := by
  have g := h.gu
  have hq := List.getElem_mem ha
  have hau : at_ < u.sts.length := by rw [← g.ms.fam.len]; exact ha
  obtain ⟨_, _, _, ⟨c3, h7, _⟩, _⟩ := g.ms.fam.sta at_ ha
  have o := g.ms.out _ hq qs[at_].gt (.inr (.inr (.inr rfl)))
  have far : ∀ b, b ≠ qs[at_].gt → (w.setCell ⟨qs[at_].gt, k, none⟩ (.int .i64 (n : Nat))).heap[b]? = w.heap[b]? := fun b hb => Below.heap_setCell _ _ _ _ hb
  obtain ⟨cs, hbN, _⟩ := g.nx.blk
  have hgN := hbN.ne_of_type h7 (by decide)
  have hl : (setTo u.sts at_ k n).length = u.sts.length := by unfold setTo; rw [List.length_set]
  have hm : (stAt (setTo u.sts at_ k n) n).mask = (stAt u.sts n).mask := by
    unfold setTo
    rw [stAt_set hau]
    split
    · rename_i e; rw [e]
    · rfl
  obtain ⟨cp, hp1, hp2⟩ := h.pm
  have hq0 : qs[at_] ∈ qs0 := by
    obtain ⟨more, e, _⟩ := g.ext
    subst e
    rw [List.getElem_append_left ha0]
    exact List.getElem_mem ha0
  refine ⟨⟨g.m1, g.ms.led ha k n, stsOk_led g.ok hau k n, by rw [hl]; exact g.l, g.nx.keep (far _ hgN) (fun s hs b hb => far _ fun e => g.sC _ hq s hs.1 hs.2 (by rw [hb, e])) (fun s hs b hb => far _ ((g.nx.oM s hs).ne h7 (by decide) b hb)), g.fr.move_ fun b hb => far _ fun e => (g.sF _ hq).1 (by rw [hb, e]), rfl,
    g.low.setCell o.lo _, fun b h1 h2 h3 h4 => (far b (h4 _ hq0).2).trans (g.kept b h1 h2 h3 h4), g.ext, g.gl, g.sC, g.sM, g.sF, g.sV⟩, (far _ (h.bX.ne_of_type h7 (by decide))).trans h.bX, ?_, ⟨cp, (far _ (hp1.ne_of_type h7 (by decide))).trans hp1, hp2⟩, by rw [hl]; exact h.lt, by rw [hm]; exact h.ln, fun hn => by rw [hm]; exact h.ne hn⟩
  rw [← h.cM]
  unfold World.cell?
  rw [far _ hgN]
theorem joinTo_all (P : Nat → Prop) {a b : List Nat} (ha : ∀ y ∈ a, P y) (hj : ∀ x i, P x → i < b.length → P (x ||| b.getD i 0)) (hl : b.length ≤ a.length) : ∀ k, k ≤ b.length → ∀ y ∈ joinTo a b k, P y := by
  intro k
  induction k with
  | zero => intro _ y hy; exact ha y hy
  | succ k ih =>
    intro hk y hy
    rw [joinTo_succ] at hy
    rcases List.mem_or_eq_of_mem_set hy with h | rfl
    · exact ih (by omega) y h
    · refine hj _ _ (ih (by omega) _ ?_) (by omega)
      rw [List.getD_eq_getElem?_getD, List.getElem?_eq_getElem (by rw [joinTo_len]; omega)]
      exact List.getElem_mem _
theorem stOk_join {g : Gr} {core a b : List Nat} (h : StOk g core a) (hl : b.length = a.length) (hb : ∀ y ∈ b, y < 2 ^ 64) : StOk g core (joinM a b) := by
  refine ⟨h.nd, h.lt, by unfold joinM; rw [joinTo_len]; exact h.l, ?_, ?_⟩
  · exact joinTo_all (· < 2 ^ 64) h.b (fun x i hx _ => Nat.or_lt_two_pow hx (getD_lt hb i)) (by omega) _ (Nat.le_refl _)
  · exact joinTo_all (· ≠ 0) h.nz (fun x i hx _ e => hx (Nat.or_eq_zero_iff.1 e).1) (by omega) _ (Nat.le_refl _)
theorem stsOk_mask {x : Mx} {sts : List StD} (h : StsOk x sts) {i : Nat} (hi : i < sts.length) {m : List Nat} (hl : m.length = (stAt sts i).mask.length) (hb : ∀ y ∈ m, y < 2 ^ 64) : StsOk x (setMask sts i (joinM (stAt sts i).mask m)) := by
  intro s hs
  unfold setMask at hs
  rcases List.mem_or_eq_of_mem_set hs with h1 | rfl
  · exact h s h1
  · have mem : stAt sts i ∈ sts := by
      unfold stAt
      rw [List.getD_eq_getElem?_getD, List.getElem?_eq_getElem hi]
      exact List.getElem_mem hi
    obtain ⟨h1, h2, h3⟩ := h _ mem
    exact ⟨stOk_join h1 hl hb, h2, h3⟩
theorem GrV.join {x : Mx} {w1 w w' : World} {gL0 gN S k gX g2 c2 gL cL n : Nat} {qs0 qs : List Q4} {vC vM : Nat → Value} {out : List Nat} {u : GrS} {v : Value} (h : GrV x w1 w gL0 qs0 gN S vC vM out k gX g2 c2 gL cL qs u v n) (hn : n < qs.length) (hb : ∀ y ∈ nxMask x.g out k, y < 2 ^ 64)
    (hp : PreM w' qs[n].gm (joinM (stAt u.sts n).mask (nxMask x.g out k))) (hg : w.grownBy w' (some qs[n].gm)) :
    GrU x w1 w' gL0 qs0 gN S vC vM out (k + 1) gL cL qs ⟨setMask u.sts n (joinM (stAt u.sts n).mask (nxMask x.g out k)), u.fresh, false⟩ v := by
  have g := h.gu
  have hq := List.getElem_mem hn
  obtain ⟨_, _, ⟨c3, h7, _⟩, _, _⟩ := g.ms.fam.sta n hn
  have o := g.ms.out _ hq qs[n].gm (.inr (.inr (.inl rfl)))
  have far : ∀ b, b < w.heap.size → b ≠ qs[n].gm → w'.heap[b]? = w.heap[b]? := fun b hb hne => hg.block b hb fun e => hne (Option.some.inj e)
  obtain ⟨cs, hbN, _⟩ := g.nx.blk
  have hl : (setMask u.sts n (joinM (stAt u.sts n).mask (nxMask x.g out k))).length = u.sts.length := by unfold setMask; rw [List.length_set]
  have frI : OwnR w w1.heap.size 3 v ((ints_ u.fresh).map (Value.int .i64)) := by unfold OwnR; rw [List.length_map]; exact g.fr
  refine ⟨g.m1, g.ms.mask hn _ (by unfold joinM; rw [joinTo_len]) hp hg, stsOk_mask g.ok h.lt h.ln.symm hb, by rw [hl]; exact g.l, g.nx.keep (far _ hbN.lt (hbN.ne_of_type h7 (by decide))) (fun s hs b hb => far _ ((g.nx.oC s hs).block b hb).2.1 ((g.nx.oC s hs).ne h7 (by decide) b hb)) (fun s hs b hb => far _ ((g.nx.oM s hs).block b hb).2.1 fun e => g.sM _ hq s hs.1 hs.2 (by rw [hb, e])),
    g.fr.move_ fun b hb => far _ (frI.block b hb).2.1 (frI.ne h7 (by decide) b hb), rfl, g.low.trans ((Below.refl _ _).grown hg g.ms.mkr.l0 (fun b hb => by rw [← Option.some.inj hb]; exact o.lo)), fun b h1 h2 h3 h4 => ?_, g.ext, g.gl, g.sC, g.sM, g.sF, g.sV⟩
  have hs := g.low.size
  refine (far b (by omega) ?_).trans (g.kept b h1 h2 h3 h4)
  obtain ⟨more, e, hm⟩ := g.ext
  subst e
  rcases List.mem_append.1 hq with hq' | hq'
  · exact (h4 _ hq').1
  · have := (hm _ hq').1
    omega
theorem GrU.fresh {x : Mx} {w1 w w' : World} {gL0 gN S k gL cL n : Nat} {qs0 qs : List Q4} {vC vM : Nat → Value} {out : List Nat} {u : GrS} {v v' : Value} (h : GrU x w1 w gL0 qs0 gN S vC vM out k gL cL qs u v)
    (ho : w'.ownsRow w1.heap.size 3 1 v' ((ints_ u.fresh).length + 1) ((ints_ u.fresh).map (Value.int .i64) ++ [.int .i64 (n : Nat)])) (hg : w.grownBy w' v.ownBlock) (ha : v'.ownBlock = v.ownBlock ∨ v'.ownBlock = some w.heap.size) :
    GrU x w1 w' gL0 qs0 gN S vC vM out k gL cL qs ⟨u.sts, u.fresh ++ [n], false⟩ v' := by
  have hs := h.low.size
  have frI : OwnR w w1.heap.size 3 v ((ints_ u.fresh).map (Value.int .i64)) := by unfold OwnR; rw [List.length_map]; exact h.fr
  have far : ∀ b, b < w.heap.size → v.ownBlock ≠ some b → w'.heap[b]? = w.heap[b]? := fun b hb hne => hg.block b hb fun e => hne e.symm
  have blt : ∀ b, v.ownBlock = some b → w1.heap.size ≤ b := fun b hb => (frI.block b hb).1
  have neT : ∀ {g : Nat} {t : TypeId} {cs : Array Value}, Blk w g t cs → t ≠ 3 → v.ownBlock ≠ some g := fun hb ht e => frI.ne hb ht _ e rfl
  have qlt : ∀ q ∈ qs, q.b < w.heap.size ∧ q.gc < w.heap.size ∧ q.gm < w.heap.size ∧ q.gt < w.heap.size := fun q hq => by
    obtain ⟨i, hi, rfl⟩ := List.getElem_of_mem hq
    exact (h.ms.fam.sta i hi).lt
  have qfar : ∀ q ∈ qs, ∀ b, b = q.b ∨ b = q.gc ∨ b = q.gm ∨ b = q.gt → w'.heap[b]? = w.heap[b]? := fun q hq b hb => by
    obtain ⟨l1, l2, l3, l4⟩ := qlt q hq
    have sf := h.sF q hq
    obtain ⟨i, hi, rfl⟩ := List.getElem_of_mem hq
    obtain ⟨⟨_, _, _, b1, _⟩, ⟨_, b2, _⟩, ⟨_, b3, _⟩, ⟨_, b4, _⟩, _⟩ := h.ms.fam.sta i hi
    rcases hb with rfl | rfl | rfl | rfl
    · exact far _ l1 (neT b1 (by decide))
    · exact far _ l2 sf.2
    · exact far _ l3 (neT b3 (by decide))
    · exact far _ l4 sf.1
  have mfar : ∀ b, b = x.mB ∨ b = x.gF ∨ b = x.gS ∨ b = x.nB → w'.heap[b]? = w.heap[b]? := fun b hb => by
    have hb1 : b < w1.heap.size := by
      rcases hb with rfl | rfl | rfl | rfl
      · exact h.m1.lm
      · exact h.m1.f.lt
      · exact h.m1.ls
      · exact h.m1.nm.lt
    exact far b (by omega) fun e => by have := blt b e; omega
  have low' : Below x.B0 w w' := (Below.refl _ _).grown hg h.ms.mkr.l0 (fun b hb => by have := blt b hb; have := h.m1.l0; omega)
  obtain ⟨cs, hbN, _⟩ := h.nx.blk
  have nw : ∀ b, b < w.heap.size → v.ownBlock ≠ some b → v'.ownBlock ≠ some b := fun b hb hne => by
    rcases ha with e | e
    · rw [e]; exact hne
    · rw [e]; intro e2; have := Option.some.inj e2; omega
  refine ⟨h.m1, ⟨h.ms.mkr.move hg.size low' mfar, h.ms.fam.move qfar, ?_, h.ms.lst.move fun b hb => ?_, h.ms.out, h.ms.oL, h.ms.mLo, h.ms.mF, h.ms.mS, h.ms.mN, (World.frozen?_of_block (mfar _ (.inl rfl))).trans h.ms.fz⟩, h.ok, h.l, h.nx.keep (far _ hbN.lt (neT hbN (by decide))) (fun s hs b hb => far _ ((h.nx.oC s hs).block b hb).2.1 fun e => h.sV s hs.1 hs.2 b e hb) (fun s hs b hb => by
      obtain ⟨_, l, c, hc⟩ := (h.nx.oM s hs).block b hb
      exact far _ l (neT hc (by decide))), ?_, rfl, h.low.trans low', fun b h1 h2 h3 h4 => (far b (by omega) fun e => by have := blt b e; omega).trans (h.kept b h1 h2 h3 h4), h.ext, h.gl, h.sC, h.sM, fun q hq => ?_, fun s hs1 hs2 b hb e => ?_⟩
  · rw [← h.ms.c7]
    unfold World.cell?
    rw [mfar _ (.inl rfl)]
  · obtain ⟨_, l, c, hc⟩ := h.ms.lst.block b hb
    exact far _ l (neT hc (by decide))
  · have e1 : ints_ (u.fresh ++ [n]) = ints_ u.fresh ++ [(n : Int)] := by simp [ints_]
    show OwnI w' _ v' (ints_ (u.fresh ++ [n]))
    unfold OwnI
    rw [e1, List.length_append, List.map_append]
    exact ho
  · obtain ⟨l1, l2, l3, l4⟩ := qlt q hq
    exact ⟨nw _ l4 (h.sF q hq).1, nw _ l2 (h.sF q hq).2⟩
  · have l := ((h.nx.oC s ⟨hs1, hs2⟩).block b e).2.1
    exact nw b l (fun e2 => h.sV s hs1 hs2 b e2 e) hb
theorem setTo_mask (l : List StD) {i : Nat} (hi : i < l.length) (sym n j : Nat) : (stAt (setTo l i sym n) j).mask = (stAt l j).mask := by
  unfold setTo
  rw [stAt_set hi]
  split
  · rename_i e; rw [e]
  · rfl
theorem growSym_put {g : Gr} {out : List Nat} {at_ k n9 : Nat} {u u9 : GrS} (hf : u.full = false) (hc : 0 < (nxCore g out k).length) (hg : (u9, n9) = growFind g u (nxCore g out k) (nxMask g out k)) (h9 : u9.full = false) (hat : at_ < u9.sts.length) :
    growSym g out at_ u k = ⟨setMask (setTo u9.sts at_ k n9) n9 (joinM (stAt (setTo u9.sts at_ k n9) n9).mask (nxMask g out k)), if joinB (stAt (setTo u9.sts at_ k n9) n9).mask (nxMask g out k) (nxMask g out k).length = true then u9.fresh ++ [n9] else u9.fresh, false⟩ := by
  unfold growSym
  rw [if_neg (by rw [hf]; exact Bool.false_ne_true), if_neg (by intro e; rw [e] at hc; simp at hc), ← hg]
  show (if u9.full = true then u9 else growPut at_ k u9 n9 (nxMask g out k)) = _
  rw [if_neg (by rw [h9]; exact Bool.false_ne_true), setTo_mask _ hat]
  rfl
theorem growFind_fresh (g : Gr) (u : GrS) (c m : List Nat) : (growFind g u c m).1.fresh.length ≤ u.fresh.length + 1 := by
  unfold growFind
  split
  · simp
  · split <;> simp
theorem growTo_fresh (g : Gr) (F : List Nat) (at_ : Nat) (sts : List StD) : ∀ k, (growTo g F at_ sts k).fresh.length ≤ 2 * k := by
  intro k
  induction k with
  | zero => exact Nat.le_refl _
  | succ k ih =>
    rw [growTo_succ]
    generalize growTo g F at_ sts k = u at *
    generalize closeM g F (stAt sts at_).core (stAt sts at_).mask = out
    unfold growSym
    have h1 := growFind_fresh g u (nxCore g out k) (nxMask g out k)
    split
    · omega
    · split
      · omega
      · split
        · omega
        · unfold growPut
          simp only []
          split
          · rw [List.length_append]; simp only [List.length_singleton]; omega
          · omega
section
variable {ops : Array Oper} {rest : List Oper} {o : Oper} {a : Act} {Q : Exit → Act → World → Prop} {x : Mx} {w1 w : World} {gL0 gN S k gL cL : Nat} {qs0 qs : List Q4} {vC vM : Nat → Value} {out : List Nat} {u : GrS} {v : Value}
theorem wpl_append_fresh (hgd : o.guard = none) (s y : Operand) (ho : o.op = .call { callee := .builtin .append, args := #[s, y], argTypes := #[44, 44] })
    (h : GrU x w1 w gL0 qs0 gN S vC vM out k gL cL qs u v) (hs : a.eval s = v) (g1 n : Nat) (hx : a.eval y = .slice (some ⟨g1, 0, none⟩) 1 1) (hc : w.cell? ⟨g1, 0, none⟩ = some (.int .i64 (n : Nat))) (hl : u.fresh.length < 100000)
    (hK : ∀ v' w', GrU x w1 w' gL0 qs0 gN S vC vM out k gL cL qs ⟨u.sts, u.fresh ++ [n], false⟩ v' → Keep (∃ A n c, v' = .slice A n c) → wpList Tryd.prog ops Q rest (a.put o.dst v') w') : wpList Tryd.prog ops Q (o :: rest) a w := by
  obtain ⟨i0, hi0, hz0, hz1, hz2⟩ := info_parts info_int
  have hown : w.ownsRow w1.heap.size 3 1 v (ints_ u.fresh).length ((ints_ u.fresh).map (Value.int .i64)) := h.fr
  refine wpList_append_own_at w hgd s y 44 ho w1.heap.size 3 i0 (.int .i64 0) 1 8 Tryd.underlying44 hi0 hz0 hz1 hz2 rfl (by decide) v (ints_ u.fresh).length ((ints_ u.fresh).map (Value.int .i64)) hs hown ⟨g1, 0, none⟩ 1 1 [.int .i64 (n : Nat)] hx rfl
    (fun j u hu => ?_) (by simp [Value.oneCell']) (by rw [ints_len]; simp only [maxLen]; omega) (by rw [ints_len]; omega) h.low.size (fun v' w' h1 h2 _ h4 => hK v' w' (h.fresh h1 h2 h4) ?_)
  · rcases j with _ | j
    · simp at hu
      subst hu
      exact hc
    · simp at hu
  · have := (h.fresh h1 h2 h4).fr
    obtain ⟨A, c, e, _⟩ := this.open_
    exact ⟨⟨A, _, c, e⟩⟩
end
end Go.Proofs.YtaooejidkeojjaaDoor.H
namespace Go.Proofs.YtaooejidkeojjaaDoor.H
open Go.RowKit
set_option linter.unusedVariables false
set_option linter.unusedSimpArgs false
set_option maxRecDepth 100000
theorem GrV.made {x : Mx} {w1 w w2 w3 : World} {gL0 gN S k gX gL cL gL' cL' b gt : Nat} {qs0 qs : List Q4} {vC vM : Nat → Value} {out : List Nat} {u : GrS} {v : Value} (h : GrU x w1 w gL0 qs0 gN S vC vM out k gL cL qs u v) (hk : k < S) (hne : 0 < (nxCore x.g out k).length) (hS : S = x.g.S.toNat) (hO : ∀ y ∈ out, y < 2 ^ 64)
    (hlen : u.sts.length < 512) (hqs : 0 < qs.length) (bX : Blk w gX 76 #[.pointer (some ⟨gN, k * 3, none⟩)]) (hXL : gX ≠ gL) (hX1 : w1.heap.size ≤ gX)
    (hb : Blk w2 b 89 #[vC k, vM k, .slice (some ⟨gt, 0, none⟩) S S]) (ht : Blk w2 gt 3 (ints .i64 (List.replicate S (-1)))) (hB : Below w.heap.size w w2) (lb : w.heap.size ≤ b) (lt : w.heap.size ≤ gt)
    (hg : w2.grownBy w3 (some gL)) (hw : w3.ownsRow x.B0 76 1 (.slice (some ⟨gL', 0, none⟩) (u.sts.length + 1) cL') ((qs.map ptrQ).length + 1) (qs.map ptrQ ++ [.pointer (some ⟨b, 0, none⟩)])) (ha : gL' = gL ∨ gL' = w2.heap.size) :
    ∃ g2 c2 q, GrV x w1 (w3.setCell ⟨x.mB, 7, none⟩ (.slice (some ⟨gL', 0, none⟩) (u.sts.length + 1) cL')) gL0 qs0 gN S vC vM out k gX g2 c2 gL' cL' (qs ++ [q]) ⟨u.sts ++ [⟨nxCore x.g out k, nxMask x.g out k, List.replicate x.g.S.toNat (-1)⟩], u.fresh, false⟩ v u.sts.length := by
  have hK : k ≤ k ∧ k < S := ⟨Nat.le_refl _, hk⟩
  obtain ⟨A, c, ev, lc, _, hop⟩ := (h.nx.oC k hK).open_
  have el : (cCof x.g out (nSp x.g) k).length = (nxCore x.g out k).length := by rw [cCof_core, List.length_map]
  obtain ⟨gc, cur, eA, eo, hbc, hcc⟩ := hop (by rw [el]; exact hne)
  obtain ⟨A2, c2, ev2, lc2, _, hop2⟩ := (h.nx.oM k hK).open_
  have el2 : (cMof x.g out (nSp x.g) k).length = (nxMask x.g out k).length := by rw [cMof_mask, List.length_map]
  obtain ⟨g2, cur2, eA2, eo2, hbm, hcm⟩ := hop2 (by rw [el2, ← nx_len]; exact hne)
  have hs1 := h.low.size
  have hs2 := hB.size
  have gcB := ((h.nx.oC k hK).block gc eo).1
  have g2B := ((h.nx.oM k hK).block g2 eo2).1
  have hbc2 := hbc.below hB hbc.lt
  have hbm2 := hbm.below hB hbm.lt
  have sta : Sta w2 b gc g2 gt ⟨nxCore x.g out k, nxMask x.g out k, List.replicate x.g.S.toNat (-1)⟩ := by
    refine ⟨⟨c, c2, S, ?_, by rw [← el]; exact lc, by show (nxCore x.g out k).length ≤ c2; rw [nx_len, ← el2]; exact lc2, by rw [List.length_replicate, hS]; exact Nat.le_refl _⟩, ⟨cur, hbc2, fun i n hi => hcc i _ (by rw [cCof_core, List.getElem?_map, hi]; rfl)⟩, ⟨cur2, hbm2, fun i n hi => hcm i _ (by rw [cMof_mask, List.getElem?_map, hi]; rfl)⟩, ⟨_, ht, fun i n hi => ?_⟩, (nx_len _ _ _).symm⟩
    · rw [ev, ev2, eA, eA2, el, el2, ← nx_len] at hb
      rw [List.length_replicate, ← hS]
      exact hb
    · rw [hS]
      have hi' : (List.replicate x.g.S.toNat (-1 : Int))[i]? = some n := hi
      simp only [ints, List.getElem?_toArray, List.getElem?_map, hi', Option.map_some]
  have qlt : ∀ q ∈ qs, q.b < w.heap.size ∧ q.gc < w.heap.size ∧ q.gm < w.heap.size ∧ q.gt < w.heap.size := fun q hq => by
    obtain ⟨i, hi, rfl⟩ := List.getElem_of_mem hq
    exact (h.ms.fam.sta i hi).lt
  have ms2 := h.ms.keep hB
  have ms3 := ms2.add (w' := w3) ⟨b, gc, g2, gt⟩ ⟨nxCore x.g out k, nxMask x.g out k, List.replicate x.g.S.toNat (-1)⟩ gL' cL' sta
    (fun p hp e => h.sM p hp k (Nat.le_refl _) hk (by rw [eo2]; exact congrArg some e.symm)) (fun p hp e => by have := (qlt p hp).2.2.2; have e' : p.gt = gt := e; omega)
    (fun p hp e => h.sC p hp k (Nat.le_refl _) hk (by rw [eo]; exact congrArg some e.symm)) (fun p hp e => by have := (qlt p hp).2.1; have e' : gt = p.gc := e; omega)
    (fun e => by have := hbc.lt; have e' : gt = gc := e; omega)
    (fun j hj => by
      rcases hj with rfl | rfl | rfl | rfl
      · exact h.ms.mkr.out lb
      · exact h.m1.out gcB
      · exact h.m1.out g2B
      · exact h.ms.mkr.out lt) hg hw ha hqs
  have far : ∀ j, j < w.heap.size → j ≠ gL → j ≠ x.mB → (w3.setCell ⟨x.mB, 7, none⟩ (.slice (some ⟨gL', 0, none⟩) (u.sts.length + 1) cL')).heap[j]? = w.heap[j]? := fun j h1 h2 h3 =>
    ((Below.heap_setCell _ _ _ _ h3).trans (hg.block j (by omega) fun e => h2 (Option.some.inj e))).trans (hB.block j h1)
  have mlt := h.m1.lm
  obtain ⟨gg, cL0, hLb⟩ : ∃ gg cL0, gg = gL ∧ Blk w gL 76 cL0 := by
    obtain ⟨_, _, c, hc⟩ := h.ms.lst.block gL rfl
    exact ⟨_, c, rfl, hc⟩
  have hLb := hLb.2
  have rowI : ∀ j, w1.heap.size ≤ j → j < w.heap.size → j ≠ gL → (w3.setCell ⟨x.mB, 7, none⟩ (.slice (some ⟨gL', 0, none⟩) (u.sts.length + 1) cL')).heap[j]? = w.heap[j]? := fun j h0 h1 h2 => far j h1 h2 (by omega)
  obtain ⟨cs, hbN, _⟩ := h.nx.blk
  have gNB := h.nx.gB
  have farN := rowI gN gNB hbN.lt (hbN.ne_of_type hLb (by decide))
  have frI : OwnR w w1.heap.size 3 v ((ints_ u.fresh).map (Value.int .i64)) := by unfold OwnR; rw [List.length_map]; exact h.fr
  have low3 : Below x.B0 w (w3.setCell ⟨x.mB, 7, none⟩ (.slice (some ⟨gL', 0, none⟩) (u.sts.length + 1) cL')) :=
    (((hB.mono h.ms.mkr.l0).trans ((Below.refl _ _).grown hg (Nat.le_trans h.ms.mkr.l0 hs2) (fun j hj => by rw [← Option.some.inj hj]; exact h.ms.oL.lo)))).setCell h.ms.mLo _
  refine ⟨g2, c2, ⟨b, gc, g2, gt⟩, ⟨h.m1, ms3, ?_, by show (u.sts ++ [_]).length ≤ 512; rw [List.length_append]; simp only [List.length_singleton]; omega, (h.nx.less fun s hs => ⟨by omega, hs.2⟩).keep farN (fun s hs j hj => ?_) (fun s hs j hj => ?_), h.fr.move_ fun j hj => ?_, rfl, h.low.trans low3, fun j h1 h2 h3 h4 => ?_, ?_, ?_, fun q hq s hs1 hs2 => ?_, fun q hq s hs1 hs2 => ?_, fun q hq => ?_, fun s hs1 hs2 => h.sV s (by omega) hs2⟩, ?_, ?_, ⟨cur2, (rowI g2 g2B hbm.lt (hbm.ne_of_type hLb (by decide))).trans hbm, fun i n hi => hcm i _ (by rw [cMof_mask, List.getElem?_map, hi]; rfl)⟩, by show u.sts.length < (u.sts ++ [_]).length; simp, ?_, fun _ => .inr ?_⟩
  · intro s hs
    rcases List.mem_append.1 hs with hs | hs
    · exact h.ok s hs
    · rw [List.mem_singleton.1 hs]
      exact ⟨nx_ok hO k, hne, List.length_replicate⟩
  · have hs' : k ≤ s ∧ s < S := ⟨by have := hs.1; omega, hs.2⟩
    obtain ⟨l0, l1, _, lc⟩ := (h.nx.oC s hs').block j hj
    exact rowI j l0 l1 (lc.ne_of_type hLb (by decide))
  · have hs' : k ≤ s ∧ s < S := ⟨by have := hs.1; omega, hs.2⟩
    obtain ⟨l0, l1, _, lc⟩ := (h.nx.oM s hs').block j hj
    exact rowI j l0 l1 (lc.ne_of_type hLb (by decide))
  · obtain ⟨l0, l1, _, lc⟩ := frI.block j hj
    exact rowI j l0 l1 (lc.ne_of_type hLb (by decide))
  · refine (far j (by omega) ?_ h2).trans (h.kept j h1 h2 h3 h4)
    rcases h.gl with e | e
    · rw [e]; exact h3
    · omega
  · obtain ⟨more, e, hm⟩ := h.ext
    refine ⟨more ++ [⟨b, gc, g2, gt⟩], by rw [e, List.append_assoc], fun q hq => ?_⟩
    rcases List.mem_append.1 hq with hq | hq
    · exact hm q hq
    · rw [List.mem_singleton.1 hq]
      exact ⟨g2B, by show w1.heap.size ≤ gt; omega, gcB⟩
  · rcases ha with e | e
    · rw [e]; exact h.gl
    · right; omega
  · rcases List.mem_append.1 hq with hq | hq
    · exact h.sC q hq s (by omega) hs2
    · rw [List.mem_singleton.1 hq]
      intro e
      have := ((h.nx.oC s ⟨by omega, hs2⟩).block gt e).2.1
      omega
  · rcases List.mem_append.1 hq with hq | hq
    · exact h.sM q hq s (by omega) hs2
    · rw [List.mem_singleton.1 hq]
      exact h.nx.aM k s hK ⟨by omega, hs2⟩ (by omega) g2 eo2
  · rcases List.mem_append.1 hq with hq | hq
    · exact h.sF q hq
    · rw [List.mem_singleton.1 hq]
      refine ⟨fun e => ?_, fun e => h.sV k (Nat.le_refl _) hk gc e eo⟩
      have := (frI.block gt e).2.1
      omega
  · exact (rowI gX hX1 bX.lt hXL).trans bX
  · have := h.nx.cellM hK
    rw [ev2, eA2, el2] at this
    rw [← this]
    unfold World.cell?
    rw [farN]
  · show (stAt (u.sts ++ [_]) u.sts.length).mask.length = _
    unfold stAt
    rw [List.getD_eq_getElem?_getD]; simp
  · show _ = (stAt (u.sts ++ [_]) u.sts.length).mask
    unfold stAt
    rw [List.getD_eq_getElem?_getD]; simp
theorem GrV.fresh {x : Mx} {w1 w w' : World} {gL0 gN S k gX g2 c2 gL cL n m : Nat} {qs0 qs : List Q4} {vC vM : Nat → Value} {out : List Nat} {u : GrS} {v v' : Value} (h : GrV x w1 w gL0 qs0 gN S vC vM out k gX g2 c2 gL cL qs u v n)
    (ho : w'.ownsRow w1.heap.size 3 1 v' ((ints_ u.fresh).length + 1) ((ints_ u.fresh).map (Value.int .i64) ++ [.int .i64 (m : Nat)])) (hg : w.grownBy w' v.ownBlock) (ha : v'.ownBlock = v.ownBlock ∨ v'.ownBlock = some w.heap.size) :
    GrV x w1 w' gL0 qs0 gN S vC vM out k gX g2 c2 gL cL qs ⟨u.sts, u.fresh ++ [m], false⟩ v' n := by
  have frI : OwnR w w1.heap.size 3 v ((ints_ u.fresh).map (Value.int .i64)) := by unfold OwnR; rw [List.length_map]; exact h.gu.fr
  have keepT : ∀ {g : Nat} {t : TypeId} {cs : Array Value}, Blk w g t cs → t ≠ 3 → Blk w' g t cs := fun hb ht => hb.grown hg fun e => frI.ne hb ht _ e.symm rfl
  obtain ⟨cs, hbN, _⟩ := h.gu.nx.blk
  obtain ⟨cp, hp1, hp2⟩ := h.pm
  refine ⟨h.gu.fresh ho hg ha, keepT h.bX (by decide), ?_, ⟨cp, keepT hp1 (by decide), hp2⟩, h.lt, h.ln, h.ne⟩
  rw [(keepT hbN (by decide)).cell, ← hbN.cell]
  exact h.cM
theorem GrV.below {x : Mx} {w1 w w' : World} {gL0 gN S k gX g2 c2 gL cL n : Nat} {qs0 qs : List Q4} {vC vM : Nat → Value} {out : List Nat} {u : GrS} {v : Value} (h : GrV x w1 w gL0 qs0 gN S vC vM out k gX g2 c2 gL cL qs u v n) (hb : Below w.heap.size w w') :
    GrV x w1 w' gL0 qs0 gN S vC vM out k gX g2 c2 gL cL qs u v n := by
  obtain ⟨cs, hbN, _⟩ := h.gu.nx.blk
  obtain ⟨cp, hp1, hp2⟩ := h.pm
  exact ⟨h.gu.below h.gu.low.size hb, h.bX.below hb h.bX.lt, cell_below h.cM hb hbN.lt, ⟨cp, hp1.below hb hp1.lt, hp2⟩, h.lt, h.ln, h.ne⟩
end Go.Proofs.YtaooejidkeojjaaDoor.H
namespace Go.Proofs.YtaooejidkeojjaaDoor.H
open Go
set_option linter.unusedVariables false
section
variable {P : Program} {md : Region.Mode} {ops : Array Oper} {Q : Exit → Act → World → Prop} {S : Bool → World → Prop} {T : World → Prop} {d : Nat}
def upD (d : Nat) (listed : Array Bool) : Bool := listed.getD d false
def wayD (P : Program) (md : Region.Mode) (ops : Array Oper) (Q : Exit → Act → World → Prop) (S : Bool → World → Prop) (d : Nat) : Nat → Array Bool → Act → World → Prop
  | 0, listed, a, w => Region.ready md ops listed = [] ∧ Q .normal a w
  | n + 1, listed, a, w => (Region.ready md ops listed = [] → Q .normal a w) ∧ ∀ i ∈ Region.ready md ops listed, wpOp P ops Q i (fun a2 w2 => S (upD d (listed.setIfInBounds i true)) w2 ∧ wayD P md ops Q S d n (listed.setIfInBounds i true) a2 w2) a w
theorem any_of_way : ∀ (n : Nat) (listed : Array Bool) (a : Act) (w : World), wayD P md ops Q S d n listed a w → wpAny P md ops Q n listed a w
  | 0, _, _, _, h => h
  | n + 1, _, _, _, h => ⟨h.1, fun i hi => wpOp_mono (fun a2 w2 k => any_of_way n _ a2 w2 k.2) (h.2 i hi)⟩
theorem way_first {i : Nat} {o : Oper} {v : Value} (hi : ops[i]? = some o) (hsel : ∀ (j : Nat) (p : Oper) cs b, ops[j]? = some p → p.op ≠ .select cs b) (hQ : ∀ c a w, Q (.panic c) (a.put o.dst v) w → Q (.panic c) a w)
    (hid : i ≠ d) (Inv : Array Bool → Prop) (hI : ∀ l j, Inv l → i ∈ Region.ready md ops l → j ∈ Region.ready md ops l → j ≠ i → Inv (l.setIfInBounds j true)) (hT : ∀ l w, Inv l → S (upD d (l.setIfInBounds i true)) w → T w) :
    ∀ (n : Nat) (listed : Array Bool) (a : Act) (w : World), (∀ j p, ops[j]? = some p → j ≠ i → listed.getD j true = false → (∀ e ∈ p.after, Region.binds md e = true → e.on ≠ i) → o.apart ops p = true) →
      i ∈ Region.ready md ops listed → Inv listed → YieldsIf P ops T o v a → S (upD d (listed.setIfInBounds i true)) w → wayD P md ops Q S d n (listed.setIfInBounds i true) (a.put o.dst v) w → wayD P md ops Q S d (n + 1) listed a w := by
  intro n
  induction n with
  | zero =>
    intro l a w hf hr hv hy hS H
    refine ⟨fun h => (by rw [h] at hr; cases hr), fun j hj => ?_⟩
    rcases Classical.em (j = i) with rfl | hne
    · exact hy.wpOp hi (hT _ _ hv hS) ⟨hS, H⟩
    · have k := ready_mono hj hne
      rw [H.1] at k
      cases k
  | succ n ih =>
    intro l a w hf hr hv hy hS H
    refine ⟨fun h => (by rw [h] at hr; cases hr), fun j hj => ?_⟩
    rcases Classical.em (j = i) with rfl | hne
    · exact hy.wpOp hi (hT _ _ hv hS) ⟨hS, H⟩
    · obtain ⟨un, p, hp, deps⟩ := mem_ready.1 hj
      have off : ∀ e ∈ p.after, Region.binds md e = true → e.on ≠ i := fun e he hb heq => by
        have k1 := deps e he hb
        have k0 := (mem_ready.1 hr).1
        rw [heq] at k1
        rcases Nat.lt_or_ge i l.size with h2 | h2
        · simp [h2] at k0 k1; rw [k0] at k1; cases k1
        · simp [Array.getElem?_eq_none h2] at k1
      have step := wpOp_putIf hp (hf j p hp hne un off) (fun cs b => hsel i o cs b hi) (fun cs b => hsel j p cs b hp) hQ hy (H.2 j (ready_mono hj hne))
      refine wpOp_mono (fun a2 w2 k => ?_) step
      have e := Array.setIfInBounds_comm true true hne (xs := l)
      have k1 := k.2.1
      have k2 := k.2.2
      rw [← e] at k1 k2
      refine ⟨?_, ih (l.setIfInBounds j true) a2 w2 (fun m q hm hmi hun hno => ?_) (ready_mono hr (Ne.symm hne)) (hI l j hv hr hj hne) k.1 k1 k2⟩
      · unfold upD at k1 ⊢
        rw [getD_set_ne false hid] at k1
        exact k1
      · refine hf m q hm hmi ?_ hno
        rcases Classical.em (j = m) with rfl | hjm
        · exact un
        · rw [getD_set_ne true hjm] at hun; exact hun
theorem op_of_drop {i : Nat} {o : Oper} {rest : List Oper} (h : ops.toList.drop i = o :: rest) : ops[i]? = some o := by
  have h1 : (ops.toList.drop i)[0]? = some o := by rw [h]; rfl
  rw [List.getElem?_drop, Nat.add_zero] at h1
  rw [← Array.getElem?_toList]
  exact h1
theorem way_take {i : Nat} {o : Oper} {ro : List Oper} {v : Value} {n : Nat} {listed : Array Bool} {a : Act} {w : World} (hi : ops.toList.drop i = o :: ro) (hs : Region.noSelect ops = true) (hf : Region.free md ops listed i = true) (hr : (Region.ready md ops listed).contains i = true)
    (hQ : ∀ c a w, Q (.panic c) (a.put o.dst v) w → Q (.panic c) a w) (hid : i ≠ d) (hT : ∀ b w, S b w → T w) (hy : YieldsIf P ops T o v a) (hS : S (upD d listed) w)
    (h : wayD P md ops Q S d n (listed.setIfInBounds i true) (a.put o.dst v) w) : wayD P md ops Q S d (n + 1) listed a w :=
  way_first (op_of_drop hi) (Region.noSelect_spec hs) hQ hid (fun _ => True) (fun _ _ _ _ _ _ => trivial) (fun l w _ k => hT _ w k) n listed a w (Region.free_spec (op_of_drop hi) hf) (by simpa using hr) trivial hy (by unfold upD at hS ⊢; rw [getD_set_ne false hid]; exact hS) h
theorem way_take_till {i : Nat} {o od : Oper} {ro rd : List Oper} {v : Value} {n : Nat} {listed : Array Bool} {a : Act} {w : World} (hi : ops.toList.drop i = o :: ro) (hs : Region.noSelect ops = true) (hf : Region.free md ops listed i = true) (hr : (Region.ready md ops listed).contains i = true)
    (hQ : ∀ c a w, Q (.panic c) (a.put o.dst v) w → Q (.panic c) a w) (hid : i ≠ d) (hod1 : ops.toList.drop d = od :: rd) (hdep : od.after.any (fun e => Region.binds md e && e.on == i) = true) (hl : upD d listed = false) (hT : ∀ w, S false w → T w) (hy : YieldsIf P ops T o v a) (hS : S false w)
    (h : wayD P md ops Q S d n (listed.setIfInBounds i true) (a.put o.dst v) w) : wayD P md ops Q S d (n + 1) listed a w := by
  have hod := op_of_drop hod1
  refine way_first (op_of_drop hi) (Region.noSelect_spec hs) hQ hid (fun l => upD d l = false) (fun l j hv k1 k2 hne => ?_) (fun l w hv k => hT w ?_) n listed a w (Region.free_spec (op_of_drop hi) hf) (by simpa using hr) hl hy ?_ h
  · have hjd : j ≠ d := by
      rintro rfl
      obtain ⟨_, p, hp, deps⟩ := mem_ready.1 k2
      rw [hod] at hp
      have ep : od = p := Option.some.inj hp
      obtain ⟨x, hx, hb⟩ := Array.any_eq_true.1 hdep
      rw [Bool.and_eq_true] at hb
      have k3 := deps _ (by rw [← ep]; exact Array.getElem_mem hx) hb.1
      rw [beq_iff_eq.1 hb.2] at k3
      have k0 := (mem_ready.1 k1).1
      rcases Nat.lt_or_ge i l.size with h2 | h2
      · simp [h2] at k0 k3; rw [k0] at k3; cases k3
      · simp [Array.getElem?_eq_none h2] at k3
    unfold upD at hv ⊢
    rw [getD_set_ne false hjd]
    exact hv
  · unfold upD at k hv
    rw [getD_set_ne false hid, hv] at k
    exact k
  · unfold upD at hl ⊢
    rw [getD_set_ne false hid, hl]
    exact hS
theorem way_one {i : Nat} {o : Oper} {ro : List Oper} {n : Nat} {listed : Array Bool} {a : Act} {w : World} (hr : Region.ready md ops listed = [i]) (ho : ops.toList.drop i = o :: ro)
    (h : ∀ K : Act → World → Prop, Shut (∀ a2 w2, S (upD d (listed.setIfInBounds i true)) w2 → wayD P md ops Q S d n (listed.setIfInBounds i true) a2 w2 → K a2 w2) → if Region.wanted o (yielded ops a.tmps) = true then Oper.wp P o a w K Q else K (a.put o.dst undef) w) : wayD P md ops Q S d (n + 1) listed a w := by
  refine ⟨fun h0 => (by rw [hr] at h0; cases h0), fun j hj => ?_⟩
  rw [hr] at hj
  rw [List.mem_singleton.1 hj]
  exact wpOp_step (op_of_drop ho) fun K hK => h K fun a2 w2 hS hW => hK a2 w2 ⟨hS, hW⟩
theorem way_done {listed : Array Bool} {a : Act} {w : World} (hr : Region.ready md ops listed = []) (h : Q .normal a w) : ∀ n, wayD P md ops Q S d n listed a w
  | 0 => ⟨hr, h⟩
  | _ + 1 => ⟨fun _ => h, by rw [hr]; simp⟩
theorem wp_region_way {id : Nat} {a : Act} {w : World} (hm : P.follows .mixedOrders = true) (h : wayD P .any ops Q S d ops.size (Array.replicate ops.size false) a w.drew) : (Code.region id ops true).wp P Q a w :=
  wp_region_any hm (any_of_way _ _ _ _ h)
end
theorem wpl_append_made {ops : Array Oper} {rest : List Oper} {o : Oper} {a : Act} {Q : Exit → Act → World → Prop} {x : Mx} {w1 w : World} {gL0 gN S k gX g2 c2 gL cL n : Nat} {qs0 qs : List Q4} {vC vM : Nat → Value} {out : List Nat} {u : GrS} {v : Value} (hgd : o.guard = none) (s y : Operand) (ho : o.op = .call { callee := .builtin .append, args := #[s, y], argTypes := #[44, 44] })
    (h : GrV x w1 w gL0 qs0 gN S vC vM out k gX g2 c2 gL cL qs u v n) (hs : a.eval s = v) (g1 m : Nat) (hx : a.eval y = .slice (some ⟨g1, 0, none⟩) 1 1) (hc : w.cell? ⟨g1, 0, none⟩ = some (.int .i64 (m : Nat))) (hl : (ints_ u.fresh).length < 100000)
    (hK : ∀ v' w', GrV x w1 w' gL0 qs0 gN S vC vM out k gX g2 c2 gL cL qs ⟨u.sts, u.fresh ++ [m], false⟩ v' n → Keep (∃ A n c, v' = .slice A n c) → wpList Tryd.prog ops Q rest (a.put o.dst v') w') : wpList Tryd.prog ops Q (o :: rest) a w := by
  obtain ⟨i0, hi0, hz0, hz1, hz2⟩ := info_parts info_int
  have hown : w.ownsRow w1.heap.size 3 1 v (ints_ u.fresh).length ((ints_ u.fresh).map (Value.int .i64)) := h.gu.fr
  refine wpList_append_own_at w hgd s y 44 ho w1.heap.size 3 i0 (.int .i64 0) 1 8 Tryd.underlying44 hi0 hz0 hz1 hz2 rfl (by decide) v (ints_ u.fresh).length ((ints_ u.fresh).map (Value.int .i64)) hs hown ⟨g1, 0, none⟩ 1 1 [.int .i64 (m : Nat)] hx rfl
    (fun j u hu => ?_) (by simp [Value.oneCell']) (by simp only [maxLen]; omega) (by omega) h.gu.low.size (fun v' w' h1 h2 _ h4 => hK v' w' (h.fresh h1 h2 h4) ⟨?_⟩)
  · rcases j with _ | j
    · simp at hu
      subst hu
      exact hc
    · simp at hu
  · rcases h1.2 with ⟨e, _⟩ | ⟨g, cap, cur, e, _⟩
    · exact ⟨none, 0, 0, e⟩
    · exact ⟨_, _, _, e⟩
theorem info_pstate : (Tryd.prog.info? 76).map (fun i => (i.zero, i.size, i.bytes)) = some (some (.pointer none), 1, 8) := by kernel_rfl
theorem up_no {b : Bool} {p : Prop} (h : b = true) (h2 : b = false) : p := by rw [h] at h2; cases h2
end Go.Proofs.YtaooejidkeojjaaDoor.H
namespace Go.Proofs.YtaooejidkeojjaaDoor.H
open Go.RowKit
set_option linter.unusedVariables false
set_option linter.unusedSimpArgs false
set_option maxRecDepth 100000
set_option maxHeartbeats 8000000 in
theorem grow_tab (x : Mx) (hx : MxOk x) (at_ : Nat) (gL cL : Nat) (qs : List Q4) (sts : List StD) (w : World) (hw : MkS x w gL cL qs sts) (hS : StsOk x sts) (hat : at_ < sts.length) (h512 : sts.length ≤ 512) :
    Calls Tryd.prog 35 #[.pointer (some ⟨x.mB, 0, none⟩), .int .i64 at_] w (GrowPost x w gL qs (growM x.g x.F at_ sts)) := by
  have haq : at_ < qs.length := by rw [hw.fam.len]; exact hat
  have hst := hw.fam.sta at_ haq
  have hmem : stAt sts at_ ∈ sts := by
    unfold stAt
    rw [List.getD_eq_getElem?_getD, List.getElem?_eq_getElem hat]
    exact List.getElem_mem hat
  obtain ⟨so1, so2, so3⟩ := hS _ hmem
  have HL0 := Keep.mk hw.mkr.l0
  have HGM : Keep (∀ k, growTo x.g x.F at_ sts (k + 1) = growSym x.g (closeM x.g x.F (stAt sts at_).core (stAt sts at_).mask) at_ (growTo x.g x.F at_ sts k) k) := ⟨growTo_succ x.g x.F at_ sts⟩
  obtain ⟨OUT, hOUT⟩ : ∃ o, o = closeM x.g x.F (stAt sts at_).core (stAt sts at_).mask := ⟨_, rfl⟩
  have KC : Keep (Calls Tryd.prog 57 #[.pointer (some ⟨x.mB, 0, none⟩), .pointer (some ⟨qs[at_].b, 0, none⟩)] w fun e w' => ∃ gO, e = .returned (.slice (some ⟨gO, 0, none⟩) (nSp x.g) (nSp x.g)) ∧ Blk w' gO 86 (u64s OUT) ∧ w.heap.size ≤ gO ∧ Below w.heap.size w w') := ⟨by
    obtain ⟨⟨cc, cm, ct, hb, l1, l2, l3⟩, ⟨c1, h3, h4⟩, h5, ⟨c3, h7, h8⟩, h9⟩ := hst
    rw [hOUT]
    refine close_tab x hx _ _ _ _ _ cc cm w hw.mkr so1 (by rw [hb.cell]; rfl) (by rw [hb.cell, h9]; rfl) (fun i n hi => ?_) h5 hb.lt h3.lt l1 so2
    rw [h3.cell]
    exact h4 i n hi⟩
  have hcs := close_spec hx.ok hx.fb so1
  rw [← hOUT] at hcs HGM
  have HCS := Keep.mk hcs
  have hSn : (0:Int) ≤ x.g.S := by have := hx.ok.t0; have := hx.ok.s0; omega
  obtain ⟨S, hSd⟩ : ∃ S, S = x.g.S.toNat := ⟨_, rfl⟩
  have hSi : x.g.S = (S : Int) := by omega
  have hS0 : 0 < S := by have := hx.ok.t0; have := hx.ok.s0; omega
  have hS1 : S ≤ 64 := by have := hx.ok.s1; omega
  have HSI := Keep.mk hSi
  have q7 := hw.c7
  have qp := hw.ptr haq
  have qS := hw.mkr.c1
  rw [hSi] at qS
  have i0 : (0:Int) ≤ at_ := by omega
  have i1 : (at_ : Int) < sts.length := by omega
  generalize hqb : qs[at_].b = qb at *
  have HQB := Keep.mk hqb
  have HSD := Keep.mk hSd
  clear hSd hSi
  have HW := Keep.mk hw
  have HX := Keep.mk hx
  have HST := Keep.mk hS
  clear hqb hw hx hS hst hcs so1 so2 so3 hmem hOUT
  go_enter Tryd.func35, Tryd.ntmps35
  go_wp2_with fail
  refine KC.out.mono ?_
  rintro e w1 ⟨gO, rfl, hO, hgO, hb⟩
  have M1 := Keep.mk (HW.out.keep hb)
  have O1 := Keep.mk hO
  have B1 := Keep.mk hb
  have HGO := Keep.mk hgO
  have qS := cell_below qS hb (by have := HW.out.mkr.lm; exact this)
  clear hb hO hgO q7 qp KC
  go_upto_region 2 with fail
  go_step
  iterate 5 (go_step; go_simp; go_step)
  obtain ⟨i9, hi9, hz9, hs9, hb9⟩ := info_parts3 info_state
  refine wpList_make_full _ rfl (.tmp 28) (.tmp 28) 109 rfl w1.heap.size 89 i9 _ 3 Tryd.underlying109 hi9 hz9 hs9 .i64 .i64 (S : Nat) (S : Nat) S rfl rfl rfl rfl (by rw [hb9]; omega) (by simp only [maxLen]; omega) (Nat.le_refl _) ?_
  intro w2 hown hgrow
  have hb2 : Below w1.heap.size w1 w2 := (Below.refl _ _).grown hgrow (Nat.le_refl _) (fun k hk => by cases hk)
  have B2 := Keep.mk hb2
  have cz : (Value.agg #[.slice none 0 0, .slice none 0 0, .slice none 0 0]).cells = #[.slice none 0 0, .slice none 0 0, .slice none 0 0] := by kernel_rfl
  rw [cz] at hown
  obtain ⟨gN, cN, eN, _, hltN, hN⟩ := Nx.start hown hS0
  have eg : gN = w1.heap.size := by injection eN with e1 _ _; injection e1 with e1; injection e1 with e1; exact e1.symm
  rw [← eg]
  have N2 := Keep.mk hN
  clear hown hgrow hb2 cz eN hltN hN eg hi9 hz9 hs9 hb9 i9 qS
  have hns := nSp_le HX.out
  have KN := Keep.mk fun W (hW : Below w1.heap.size w1 W) n hn => next_tab x HX.out n hn W (M1.out.mkr.below hW)
  have G0 : Keep (GrW w1 w2 gN S x.g OUT 0) := ⟨_, _, by
    have e1 : cCof x.g OUT 0 = fun _ => [] := rfl
    have e2 : cMof x.g OUT 0 = fun _ => [] := rfl
    rw [e1, e2]
    exact N2.out, B2.out⟩
  clear N2 B2 qS
  go_wp2
  go_loopg [32] (nSp x.g) (fun gg s32 wr => ∃ k : Nat, k ≤ nSp x.g ∧ nSp x.g - k ≤ gg ∧ s32 = .int .i64 k ∧ Keep (GrW w1 wr gN S x.g OUT k))
  case atStart => exact ⟨0, Nat.zero_le _, by omega, rfl, G0⟩
  case round =>
  clear G0
  obtain ⟨k, hk, hg, rfl, G⟩ := hrel
  by_cases hlt : k < nSp x.g
  rotate_left
  · have ek : k = nSp x.g := by omega
    clear hlt
    subst ek
    obtain ⟨vC, vM, hN, hB⟩ := G.out
    have U0 := Keep.mk (GrU.start M1.out HST.out h512 hN hB)
    clear hN hB G hg hk
    obtain ⟨wz, rfl⟩ : ∃ wz : World, wz = wr := ⟨_, rfl⟩
    go_wp2
    go_loopg [11, 74] S (fun gg s11 s74 wr => ∃ k gL' cL' qs' u, k ≤ S ∧ S - k ≤ gg ∧ s74 = .int .i64 (k : Nat) ∧ Keep (GrU x w1 wr gL qs gN S vC vM OUT k gL' cL' qs' u s11) ∧ Keep (u = growTo x.g x.F at_ sts k))
    case atStart => exact ⟨0, gL, cL, qs, _, Nat.zero_le _, by omega, rfl, U0, ⟨rfl⟩⟩
    case round =>
    clear U0
    obtain ⟨k, gLk, cLk, qk, u, hk, hg, rfl, U, HU⟩ := hrel
    by_cases hlt : k < S
    rotate_left
    · have ek : k = S := by omega
      clear hlt
      have FIN : Keep (GrowPost x w gL qs (growM x.g x.F at_ sts) (.returned (.tuple #[u11, .int .i64 0])) wr) := ⟨by
        have := U.out.done B1.out HL0.out
        rw [HU.out] at this
        unfold growM
        rw [← HSD.out, ← ek]
        exact this⟩
      clear U HU
      have k9 : ¬ ((k : Int) < S) := by omega
      clear ek
      go_wp2
      go_ret2
      exact FIN.out
    have k0 : (0:Int) ≤ k := by omega
    have k1 : (k : Int) < S := by omega
    have kw : IntKind.i64.wrap ((k : Int) + 1) = (k : Int) + 1 := by rw [IntKind.wrap_i64]; omega
    go_upto_region 16 with fail
    obtain ⟨wa, hwa⟩ : ∃ wa : World, wa = wr.alloc (.cells #[.pointer (some ⟨gN, k * 3, none⟩)] 76) := ⟨_, rfl⟩
    have SZ : w1.heap.size ≤ wr.heap.size := U.out.low.size
    have UA : Keep (GrU x w1 wa gL qs gN S vC vM OUT k gLk cLk qk u u11) := ⟨by rw [hwa]; exact U.out.below SZ ((Below.refl _ _).alloc (Nat.le_refl _) _)⟩
    have cX : wa.cell? ⟨wr.heap.size, 0, none⟩ = some (.pointer (some ⟨gN, k * 3, none⟩)) := by rw [hwa]; exact one_cell wr _ _
    obtain ⟨gX, hgX⟩ : ∃ g, g = wr.heap.size := ⟨_, rfl⟩
    have HBX : Keep (Blk wa gX 76 #[.pointer (some ⟨gN, k * 3, none⟩)]) := ⟨by rw [hgX, hwa]; exact Blk.new _ _ _⟩
    have LX : Keep (gX < wa.heap.size) := ⟨by rw [hwa, hgX, World.size_alloc]; omega⟩
    have LX1 : Keep (w1.heap.size ≤ gX) := ⟨by rw [hgX]; exact SZ⟩
    have HXL : Keep (gX ≠ gLk) := ⟨by
      obtain ⟨_, h2, _⟩ := U.out.ms.lst.block gLk rfl
      omega⟩
    rw [← hgX] at cX ⊢
    rw [← hwa]
    clear hwa hgX SZ U
    have cC := UA.out.nx.cellC (s := k) ⟨Nat.le_refl _, hlt⟩
    obtain ⟨Ak, ck, ek, _, _, hop⟩ := (UA.out.nx.oC k ⟨Nat.le_refl _, hlt⟩).open_
    rw [ek] at cC
    have EK := Keep.mk ek
    obtain ⟨n, hn⟩ : ∃ n, n = (cCof x.g OUT (nSp x.g) k).length := ⟨_, rfl⟩
    rw [← hn] at cC EK
    have HN := Keep.mk hn
    have HOP := Keep.mk hop
    clear ek hn hop
    by_cases hn0 : n = 0
    · have hnil : nxCore x.g OUT k = [] := by
        have h := HN.out
        rw [cCof_core, List.length_map, hn0] at h
        exact List.eq_nil_of_length_eq_zero h.symm
      have HU2 : Keep (u = growTo x.g x.F at_ sts (k + 1)) := ⟨by rw [HGM.out, growSym_nil hnil]; exact HU.out⟩
      have UN := Keep.mk UA.out.next
      subst hn0
      clear hnil UA HU
      go_wp2
      go_roundg (S - (k + 1))
      case measure => omega
      case rel => exact ⟨k + 1, gLk, cLk, qk, u, by omega, by omega, by go_num, UN, HU2⟩
    have n0 : ¬ ((n : Int) = 0) := by omega
    have n1 : ((n : Int) == 0) = false := by simp; omega
    go_upto_region 17 with fail
    have NE : Keep (0 < (nxCore x.g OUT k).length) := ⟨by
      have h := HN.out
      rw [cCof_core, List.length_map] at h
      omega⟩
    have KF := Keep.mk (find_call UA.out HX.out hlt NE.out gX cX LX.out)
    have c7 := UA.out.ms.c7
    clear n0 n1 hn0
    obtain ⟨fnd, hfnd⟩ : ∃ r : Int, r = findI u.sts (nxCore x.g OUT k) := ⟨_, rfl⟩
    rw [← hfnd] at KF
    have HFN := Keep.mk hfnd
    clear hfnd
    go_wp2_with fail
    refine KF.out.mono ?_
    rintro e wb ⟨rfl, hbb⟩
    have SA : w1.heap.size ≤ wa.heap.size := UA.out.low.size
    have UB := Keep.mk (UA.out.below SA hbb)
    have BX := Keep.mk (HBX.out.below hbb LX.out)
    clear hbb UA SA cC c7 EK HOP KF cX HBX
    go_upto_if 93 with fail
    go_cut [11, 14] (fun s11 s14 wx => ∃ n g2 c2 gL9 cL9 q9 u9, s14 = .int .i64 (n : Nat) ∧ Keep (GrV x w1 wx gL qs gN S vC vM OUT k gX g2 c2 gL9 cL9 q9 u9 s11 n) ∧ Keep ((u9, n) = growFind x.g u (nxCore x.g OUT k) (nxMask x.g OUT k)))
    case first =>
      by_cases hf : 0 ≤ fnd
      · obtain ⟨n9, h1, h2, h3, h4⟩ := findI_some (sts := u.sts) (c := nxCore x.g OUT k) (by rw [← HFN.out]; exact hf)
        obtain ⟨g2, c2, hV⟩ := GrV.found UB.out hlt NE.out BX.out h3 h4
        have HV := Keep.mk hV
        have HG : Keep ((u, n9) = growFind x.g u (nxCore x.g OUT k) (nxMask x.g OUT k)) := ⟨by unfold growFind; rw [h1]⟩
        have e9 : fnd = (n9 : Int) := by rw [HFN.out]; exact h2
        have hn0 : ¬ ((n9 : Int) < 0) := by omega
        have hn1 : (0 : Int) ≤ n9 := by omega
        clear h1 h2 h3 h4 hV hf UB HFN
        subst e9
        go_wp2_with fail
        go_meet
        exact ⟨n9, g2, c2, gLk, cLk, qk, u, rfl, HV, HG⟩
      · have hf1 : fnd < 0 := by omega
        have HFS := Keep.mk (findI_none (sts := u.sts) (c := nxCore x.g OUT k) (by rw [← HFN.out]; exact hf))
        have c7 := UB.out.ms.c7
        clear hf
        by_cases h5 : u.sts.length = 512
        · have FIN : Keep (∀ v9, GrowPost x w gL qs (growM x.g x.F at_ sts) (.returned (.tuple #[v9, .int .i64 3])) wb) := ⟨grow_full UB.out B1.out HL0.out HU.out (HGM.out k) (by rw [← HSD.out]; exact hlt) NE.out HFS.out h5⟩
          have h6 : ((u.sts.length : Int) = 512) := by omega
          clear UB HU h5
          go_wp2_with fail
          go_ret2
          exact FIN.out _
        · have h6 : ¬ ((u.sts.length : Int) = 512) := by omega
          have qS := UB.out.ms.mkr.c1
          rw [HSI.out] at qS
          have cX := BX.out.cell 0
          simp at cX
          have cC := UB.out.nx.cellC (s := k) ⟨Nat.le_refl _, hlt⟩
          have cM := UB.out.nx.cellM (s := k) ⟨Nat.le_refl _, hlt⟩
          go_upto_region 22 with fail
          obtain ⟨n1, A1, c1, e1⟩ : ∃ n A c, vC k = .slice A n c := by obtain ⟨A, c, e, _⟩ := (UB.out.nx.oC k ⟨Nat.le_refl _, hlt⟩).open_; exact ⟨_, A, c, e⟩
          obtain ⟨n2, A2, c2, e2⟩ : ∃ n A c, vM k = .slice A n c := by obtain ⟨A, c, e, _⟩ := (UB.out.nx.oM k ⟨Nat.le_refl _, hlt⟩).open_; exact ⟨_, A, c, e⟩
          rw [e1] at cC
          rw [e2] at cM
          have HVC := Keep.mk e1
          have HVM := Keep.mk e2
          have c7k := Keep.mk c7
          have HT : Keep (∀ W : World, Below wb.heap.size wb W → ∀ b : Bool, (W.cell? ⟨x.mB, 1, none⟩ = some (.int .i64 (S : Nat)) ∧ W.cell? ⟨gX, 0, none⟩ = some (.pointer (some ⟨gN, k * 3, none⟩)) ∧ W.cell? ⟨gN, k * 3, none⟩ = some (.slice A1 n1 c1) ∧ W.cell? ⟨gN, k * 3 + 1, none⟩ = some (.slice A2 n2 c2)) ∧ (b = false → W.cell? ⟨x.mB, 7, none⟩ = some (.slice (some ⟨gLk, 0, none⟩) u.sts.length cLk))) := ⟨fun W hW b => by
            obtain ⟨cs, hbN, _⟩ := UB.out.nx.blk
            have lm := UB.out.ms.mkr.lm
            exact ⟨⟨cell_below qS hW lm, cell_below cX hW BX.out.lt, cell_below cC hW hbN.lt, cell_below cM hW hbN.lt⟩, fun _ => cell_below c7k.out hW lm⟩⟩
          have KNW : Keep (∀ W : World, Calls Tryd.prog 34 #[.int .i64 (S : Nat)] W fun e w' => ∃ g, e = .returned (.slice (some ⟨g, 0, none⟩) S S) ∧ Blk w' g 3 (ints .i64 (List.replicate S (-1))) ∧ W.heap.size ≤ g ∧ Below W.heap.size W w') := ⟨fun W => nowhere_ S (by omega) (by omega) W⟩
          clear e1 e2 cX cC cM qS c7
          refine wp_region_way (d := 22) (S := fun b W => (W.cell? ⟨x.mB, 1, none⟩ = some (.int .i64 (S : Nat)) ∧ W.cell? ⟨gX, 0, none⟩ = some (.pointer (some ⟨gN, k * 3, none⟩)) ∧ W.cell? ⟨gN, k * 3, none⟩ = some (.slice A1 n1 c1) ∧ W.cell? ⟨gN, k * 3 + 1, none⟩ = some (.slice A2 n2 c2)) ∧ (b = false → W.cell? ⟨x.mB, 7, none⟩ = some (.slice (some ⟨gLk, 0, none⟩) u.sts.length cLk))) (by kernel_rfl) ?_
          have hS0 := HT.out wb.drew (Below.drew (Below.refl _ _))
          (refine way_take (T := fun W => W.cell? ⟨x.mB, 1, none⟩ = some (.int .i64 (S : Nat)) ∧ W.cell? ⟨gX, 0, none⟩ = some (.pointer (some ⟨gN, k * 3, none⟩)) ∧ W.cell? ⟨gN, k * 3, none⟩ = some (.slice A1 n1 c1) ∧ W.cell? ⟨gN, k * 3 + 1, none⟩ = some (.slice A2 n2 c2)) (i := 0) (v := ?_) rfl (by kernel_rfl) (by kernel_rfl) (by kernel_rfl) (fun _ _ _ h => h) (by decide) (fun _ _ h => h.1) (Or.inl ⟨by rfl, ?_⟩) (hS0 _) ?_; rotate_left; (· intro w hSw; (try dsimp only at hSw); go_simp; all_goals (with_reducible rfl)); (try simp only [Act.put, List.setIfInBounds_toArray, List.set_cons_zero, List.set_cons_succ]))
          (refine way_take (T := fun W => W.cell? ⟨x.mB, 1, none⟩ = some (.int .i64 (S : Nat)) ∧ W.cell? ⟨gX, 0, none⟩ = some (.pointer (some ⟨gN, k * 3, none⟩)) ∧ W.cell? ⟨gN, k * 3, none⟩ = some (.slice A1 n1 c1) ∧ W.cell? ⟨gN, k * 3 + 1, none⟩ = some (.slice A2 n2 c2)) (i := 1) (v := ?_) rfl (by kernel_rfl) (by kernel_rfl) (by kernel_rfl) (fun _ _ _ h => h) (by decide) (fun _ _ h => h.1) (Or.inl ⟨by rfl, ?_⟩) (hS0 _) ?_; rotate_left; (· intro w hSw; (try dsimp only at hSw); go_simp; all_goals (with_reducible rfl)); (try simp only [Act.put, List.setIfInBounds_toArray, List.set_cons_zero, List.set_cons_succ]))
          (refine way_take (T := fun W => W.cell? ⟨x.mB, 1, none⟩ = some (.int .i64 (S : Nat)) ∧ W.cell? ⟨gX, 0, none⟩ = some (.pointer (some ⟨gN, k * 3, none⟩)) ∧ W.cell? ⟨gN, k * 3, none⟩ = some (.slice A1 n1 c1) ∧ W.cell? ⟨gN, k * 3 + 1, none⟩ = some (.slice A2 n2 c2)) (i := 2) (v := ?_) rfl (by kernel_rfl) (by kernel_rfl) (by kernel_rfl) (fun _ _ _ h => h) (by decide) (fun _ _ h => h.1) (Or.inl ⟨by rfl, ?_⟩) (hS0 _) ?_; rotate_left; (· intro w hSw; (try dsimp only at hSw); go_simp; all_goals (with_reducible rfl)); (try simp only [Act.put, List.setIfInBounds_toArray, List.set_cons_zero, List.set_cons_succ]))
          (refine way_take (T := fun W => W.cell? ⟨x.mB, 1, none⟩ = some (.int .i64 (S : Nat)) ∧ W.cell? ⟨gX, 0, none⟩ = some (.pointer (some ⟨gN, k * 3, none⟩)) ∧ W.cell? ⟨gN, k * 3, none⟩ = some (.slice A1 n1 c1) ∧ W.cell? ⟨gN, k * 3 + 1, none⟩ = some (.slice A2 n2 c2)) (i := 3) (v := ?_) rfl (by kernel_rfl) (by kernel_rfl) (by kernel_rfl) (fun _ _ _ h => h) (by decide) (fun _ _ h => h.1) (Or.inl ⟨by rfl, ?_⟩) (hS0 _) ?_; rotate_left; (· intro w hSw; (try dsimp only at hSw); go_simp; all_goals (with_reducible rfl)); (try simp only [Act.put, List.setIfInBounds_toArray, List.set_cons_zero, List.set_cons_succ]))
          (refine way_take_till (d := 22) (T := fun W => (W.cell? ⟨x.mB, 1, none⟩ = some (.int .i64 (S : Nat)) ∧ W.cell? ⟨gX, 0, none⟩ = some (.pointer (some ⟨gN, k * 3, none⟩)) ∧ W.cell? ⟨gN, k * 3, none⟩ = some (.slice A1 n1 c1) ∧ W.cell? ⟨gN, k * 3 + 1, none⟩ = some (.slice A2 n2 c2)) ∧ W.cell? ⟨x.mB, 7, none⟩ = some (.slice (some ⟨gLk, 0, none⟩) u.sts.length cLk)) (i := 4) (v := ?_) rfl (by kernel_rfl) (by kernel_rfl) (by kernel_rfl) (fun _ _ _ h => h) (by decide) rfl (by kernel_rfl) (by kernel_rfl) (fun _ h => ⟨h.1, h.2 rfl⟩) (Or.inl ⟨by rfl, ?_⟩) (hS0 _) ?_; rotate_left; (· intro w hSw; (try dsimp only at hSw); go_simp; all_goals (with_reducible rfl)); (try simp only [Act.put, List.setIfInBounds_toArray, List.set_cons_zero, List.set_cons_succ]))
          (refine way_take (T := fun W => W.cell? ⟨x.mB, 1, none⟩ = some (.int .i64 (S : Nat)) ∧ W.cell? ⟨gX, 0, none⟩ = some (.pointer (some ⟨gN, k * 3, none⟩)) ∧ W.cell? ⟨gN, k * 3, none⟩ = some (.slice A1 n1 c1) ∧ W.cell? ⟨gN, k * 3 + 1, none⟩ = some (.slice A2 n2 c2)) (i := 5) (v := ?_) rfl (by kernel_rfl) (by kernel_rfl) (by kernel_rfl) (fun _ _ _ h => h) (by decide) (fun _ _ h => h.1) (Or.inl ⟨by rfl, ?_⟩) (hS0 _) ?_; rotate_left; (· intro w hSw; (try dsimp only at hSw); go_simp; all_goals (with_reducible rfl)); (try simp only [Act.put, List.setIfInBounds_toArray, List.set_cons_zero, List.set_cons_succ]))
          (refine way_take (T := fun W => W.cell? ⟨x.mB, 1, none⟩ = some (.int .i64 (S : Nat)) ∧ W.cell? ⟨gX, 0, none⟩ = some (.pointer (some ⟨gN, k * 3, none⟩)) ∧ W.cell? ⟨gN, k * 3, none⟩ = some (.slice A1 n1 c1) ∧ W.cell? ⟨gN, k * 3 + 1, none⟩ = some (.slice A2 n2 c2)) (i := 6) (v := ?_) rfl (by kernel_rfl) (by kernel_rfl) (by kernel_rfl) (fun _ _ _ h => h) (by decide) (fun _ _ h => h.1) (Or.inl ⟨by rfl, ?_⟩) (hS0 _) ?_; rotate_left; (· intro w hSw; (try dsimp only at hSw); go_simp; all_goals (with_reducible rfl)); (try simp only [Act.put, List.setIfInBounds_toArray, List.set_cons_zero, List.set_cons_succ]))
          (refine way_take (T := fun W => W.cell? ⟨x.mB, 1, none⟩ = some (.int .i64 (S : Nat)) ∧ W.cell? ⟨gX, 0, none⟩ = some (.pointer (some ⟨gN, k * 3, none⟩)) ∧ W.cell? ⟨gN, k * 3, none⟩ = some (.slice A1 n1 c1) ∧ W.cell? ⟨gN, k * 3 + 1, none⟩ = some (.slice A2 n2 c2)) (i := 7) (v := ?_) rfl (by kernel_rfl) (by kernel_rfl) (by kernel_rfl) (fun _ _ _ h => h) (by decide) (fun _ _ h => h.1) (Or.inl ⟨by rfl, ?_⟩) (hS0 _) ?_; rotate_left; (· intro w hSw; (try dsimp only at hSw); go_simp; all_goals (with_reducible rfl)); (try simp only [Act.put, List.setIfInBounds_toArray, List.set_cons_zero, List.set_cons_succ]))
          (refine way_take (T := fun W => W.cell? ⟨x.mB, 1, none⟩ = some (.int .i64 (S : Nat)) ∧ W.cell? ⟨gX, 0, none⟩ = some (.pointer (some ⟨gN, k * 3, none⟩)) ∧ W.cell? ⟨gN, k * 3, none⟩ = some (.slice A1 n1 c1) ∧ W.cell? ⟨gN, k * 3 + 1, none⟩ = some (.slice A2 n2 c2)) (i := 8) (v := ?_) rfl (by kernel_rfl) (by kernel_rfl) (by kernel_rfl) (fun _ _ _ h => h) (by decide) (fun _ _ h => h.1) (Or.inl ⟨by rfl, ?_⟩) (hS0 _) ?_; rotate_left; (· intro w hSw; (try dsimp only at hSw); go_simp; all_goals (with_reducible rfl)); (try simp only [Act.put, List.setIfInBounds_toArray, List.set_cons_zero, List.set_cons_succ]))
          (refine way_take (T := fun W => W.cell? ⟨x.mB, 1, none⟩ = some (.int .i64 (S : Nat)) ∧ W.cell? ⟨gX, 0, none⟩ = some (.pointer (some ⟨gN, k * 3, none⟩)) ∧ W.cell? ⟨gN, k * 3, none⟩ = some (.slice A1 n1 c1) ∧ W.cell? ⟨gN, k * 3 + 1, none⟩ = some (.slice A2 n2 c2)) (i := 9) (v := ?_) rfl (by kernel_rfl) (by kernel_rfl) (by kernel_rfl) (fun _ _ _ h => h) (by decide) (fun _ _ h => h.1) (Or.inl ⟨by rfl, ?_⟩) (hS0 _) ?_; rotate_left; (· intro w hSw; (try dsimp only at hSw); go_simp; all_goals (with_reducible rfl)); (try simp only [Act.put, List.setIfInBounds_toArray, List.set_cons_zero, List.set_cons_succ]))
          (refine way_take (T := fun W => W.cell? ⟨x.mB, 1, none⟩ = some (.int .i64 (S : Nat)) ∧ W.cell? ⟨gX, 0, none⟩ = some (.pointer (some ⟨gN, k * 3, none⟩)) ∧ W.cell? ⟨gN, k * 3, none⟩ = some (.slice A1 n1 c1) ∧ W.cell? ⟨gN, k * 3 + 1, none⟩ = some (.slice A2 n2 c2)) (i := 10) (v := ?_) rfl (by kernel_rfl) (by kernel_rfl) (by kernel_rfl) (fun _ _ _ h => h) (by decide) (fun _ _ h => h.1) (Or.inl ⟨by rfl, ?_⟩) (hS0 _) ?_; rotate_left; (· intro w hSw; (try dsimp only at hSw); go_simp; all_goals (with_reducible rfl)); (try simp only [Act.put, List.setIfInBounds_toArray, List.set_cons_zero, List.set_cons_succ]))
          (refine way_take (T := fun W => W.cell? ⟨x.mB, 1, none⟩ = some (.int .i64 (S : Nat)) ∧ W.cell? ⟨gX, 0, none⟩ = some (.pointer (some ⟨gN, k * 3, none⟩)) ∧ W.cell? ⟨gN, k * 3, none⟩ = some (.slice A1 n1 c1) ∧ W.cell? ⟨gN, k * 3 + 1, none⟩ = some (.slice A2 n2 c2)) (i := 11) (v := ?_) rfl (by kernel_rfl) (by kernel_rfl) (by kernel_rfl) (fun _ _ _ h => h) (by decide) (fun _ _ h => h.1) (Or.inl ⟨by rfl, ?_⟩) (hS0 _) ?_; rotate_left; (· intro w hSw; (try dsimp only at hSw); go_simp; all_goals (with_reducible rfl)); (try simp only [Act.put, List.setIfInBounds_toArray, List.set_cons_zero, List.set_cons_succ]))
          (refine way_take (T := fun W => W.cell? ⟨x.mB, 1, none⟩ = some (.int .i64 (S : Nat)) ∧ W.cell? ⟨gX, 0, none⟩ = some (.pointer (some ⟨gN, k * 3, none⟩)) ∧ W.cell? ⟨gN, k * 3, none⟩ = some (.slice A1 n1 c1) ∧ W.cell? ⟨gN, k * 3 + 1, none⟩ = some (.slice A2 n2 c2)) (i := 12) (v := ?_) rfl (by kernel_rfl) (by kernel_rfl) (by kernel_rfl) (fun _ _ _ h => h) (by decide) (fun _ _ h => h.1) (Or.inl ⟨by rfl, ?_⟩) (hS0 _) ?_; rotate_left; (· intro w hSw; (try dsimp only at hSw); go_simp; all_goals (with_reducible rfl)); (try simp only [Act.put, List.setIfInBounds_toArray, List.set_cons_zero, List.set_cons_succ]))
          (refine way_take (T := fun W => W.cell? ⟨x.mB, 1, none⟩ = some (.int .i64 (S : Nat)) ∧ W.cell? ⟨gX, 0, none⟩ = some (.pointer (some ⟨gN, k * 3, none⟩)) ∧ W.cell? ⟨gN, k * 3, none⟩ = some (.slice A1 n1 c1) ∧ W.cell? ⟨gN, k * 3 + 1, none⟩ = some (.slice A2 n2 c2)) (i := 13) (v := ?_) rfl (by kernel_rfl) (by kernel_rfl) (by kernel_rfl) (fun _ _ _ h => h) (by decide) (fun _ _ h => h.1) (Or.inl ⟨by rfl, ?_⟩) (hS0 _) ?_; rotate_left; (· intro w hSw; (try dsimp only at hSw); go_simp; all_goals (with_reducible rfl)); (try simp only [Act.put, List.setIfInBounds_toArray, List.set_cons_zero, List.set_cons_succ]))
          (refine way_take (T := fun W => W.cell? ⟨x.mB, 1, none⟩ = some (.int .i64 (S : Nat)) ∧ W.cell? ⟨gX, 0, none⟩ = some (.pointer (some ⟨gN, k * 3, none⟩)) ∧ W.cell? ⟨gN, k * 3, none⟩ = some (.slice A1 n1 c1) ∧ W.cell? ⟨gN, k * 3 + 1, none⟩ = some (.slice A2 n2 c2)) (i := 14) (v := ?_) rfl (by kernel_rfl) (by kernel_rfl) (by kernel_rfl) (fun _ _ _ h => h) (by decide) (fun _ _ h => h.1) (Or.inl ⟨by rfl, ?_⟩) (hS0 _) ?_; rotate_left; (· intro w hSw; (try dsimp only at hSw); go_simp; all_goals (with_reducible rfl)); (try simp only [Act.put, List.setIfInBounds_toArray, List.set_cons_zero, List.set_cons_succ]))
          (refine way_take (T := fun W => W.cell? ⟨x.mB, 1, none⟩ = some (.int .i64 (S : Nat)) ∧ W.cell? ⟨gX, 0, none⟩ = some (.pointer (some ⟨gN, k * 3, none⟩)) ∧ W.cell? ⟨gN, k * 3, none⟩ = some (.slice A1 n1 c1) ∧ W.cell? ⟨gN, k * 3 + 1, none⟩ = some (.slice A2 n2 c2)) (i := 15) (v := ?_) rfl (by kernel_rfl) (by kernel_rfl) (by kernel_rfl) (fun _ _ _ h => h) (by decide) (fun _ _ h => h.1) (Or.inl ⟨by rfl, ?_⟩) (hS0 _) ?_; rotate_left; (· intro w hSw; (try dsimp only at hSw); go_simp; all_goals (with_reducible rfl)); (try simp only [Act.put, List.setIfInBounds_toArray, List.set_cons_zero, List.set_cons_succ]))
          (refine way_take (T := fun W => W.cell? ⟨x.mB, 1, none⟩ = some (.int .i64 (S : Nat)) ∧ W.cell? ⟨gX, 0, none⟩ = some (.pointer (some ⟨gN, k * 3, none⟩)) ∧ W.cell? ⟨gN, k * 3, none⟩ = some (.slice A1 n1 c1) ∧ W.cell? ⟨gN, k * 3 + 1, none⟩ = some (.slice A2 n2 c2)) (i := 16) (v := ?_) rfl (by kernel_rfl) (by kernel_rfl) (by kernel_rfl) (fun _ _ _ h => h) (by decide) (fun _ _ h => h.1) (Or.inl ⟨by rfl, ?_⟩) (hS0 _) ?_; rotate_left; (· intro w hSw; (try dsimp only at hSw); go_simp; all_goals (with_reducible rfl)); (try simp only [Act.put, List.setIfInBounds_toArray, List.set_cons_zero, List.set_cons_succ]))
          (refine way_take (T := fun W => W.cell? ⟨x.mB, 1, none⟩ = some (.int .i64 (S : Nat)) ∧ W.cell? ⟨gX, 0, none⟩ = some (.pointer (some ⟨gN, k * 3, none⟩)) ∧ W.cell? ⟨gN, k * 3, none⟩ = some (.slice A1 n1 c1) ∧ W.cell? ⟨gN, k * 3 + 1, none⟩ = some (.slice A2 n2 c2)) (i := 17) (v := ?_) rfl (by kernel_rfl) (by kernel_rfl) (by kernel_rfl) (fun _ _ _ h => h) (by decide) (fun _ _ h => h.1) (Or.inl ⟨by rfl, ?_⟩) (hS0 _) ?_; rotate_left; (· intro w hSw; (try dsimp only at hSw); go_simp; all_goals (with_reducible rfl)); (try simp only [Act.put, List.setIfInBounds_toArray, List.set_cons_zero, List.set_cons_succ]))
          clear hS0
          refine way_one (i := 18) (by kernel_rfl) rfl (fun K hK => ?_)
          go_simp
          go_at_call 34
          refine (KNW.out _).mono ?_
          rintro e wn ⟨gt, rfl, hbt, hlt0, hbw⟩
          dsimp only
          have hbw0 : Below wb.heap.size wb wn := (Below.refl wb.heap.size wb).drew.trans hbw
          have hS1 := HT.out wn hbw0
          refine hK.out _ _ (hS1 _) ?_
          clear hK K
          (refine way_take (T := fun W => W.cell? ⟨x.mB, 1, none⟩ = some (.int .i64 (S : Nat)) ∧ W.cell? ⟨gX, 0, none⟩ = some (.pointer (some ⟨gN, k * 3, none⟩)) ∧ W.cell? ⟨gN, k * 3, none⟩ = some (.slice A1 n1 c1) ∧ W.cell? ⟨gN, k * 3 + 1, none⟩ = some (.slice A2 n2 c2)) (i := 19) (v := ?_) rfl (by kernel_rfl) (by kernel_rfl) (by kernel_rfl) (fun _ _ _ h => h) (by decide) (fun _ _ h => h.1) (Or.inl ⟨by rfl, ?_⟩) (hS1 _) ?_; rotate_left; (· intro w hSw; (try dsimp only at hSw); go_simp; all_goals (with_reducible rfl)); (try simp only [Act.put, List.setIfInBounds_toArray, List.set_cons_zero, List.set_cons_succ]))
          refine way_one (i := 20) (by kernel_rfl) rfl (fun K hK => ?_)
          go_simp
          obtain ⟨wp, hwp⟩ : ∃ W : World, W = wn.alloc (.cells #[.slice A1 n1 c1, .slice A2 n2 c2, .slice (some ⟨gt, 0, none⟩) S S] 89) := ⟨_, rfl⟩
          have hbp : Below wb.heap.size wb wp := by rw [hwp]; exact hbw0.alloc hbw0.size _
          have HBP : Keep (Blk wp wn.heap.size 89 #[.slice A1 n1 c1, .slice A2 n2 c2, .slice (some ⟨gt, 0, none⟩) S S]) := ⟨by rw [hwp]; exact Blk.new _ _ _⟩
          have HBT : Keep (Blk wp gt 3 (ints .i64 (List.replicate S (-1)))) := ⟨by rw [hwp]; exact hbt.below ((Below.refl _ _).alloc (Nat.le_refl _) _) hbt.lt⟩
          have LBP : Keep (wb.heap.size ≤ wn.heap.size) := ⟨hbw0.size⟩
          have LGT : Keep (wb.heap.size ≤ gt) := ⟨hlt0⟩
          generalize wn.heap.size = bP at *
          rw [← hwp]
          have hS2 := HT.out wp hbp
          refine hK.out _ _ (hS2 _) ?_
          clear hK K hS1 hwp hbt hlt0 hbw hbw0
          refine way_one (i := 21) (by kernel_rfl) rfl (fun K hK => ?_)
          go_simp
          obtain ⟨wq, hwq⟩ : ∃ W : World, W = wp.alloc (.cells #[.pointer (some ⟨bP, 0, none⟩)] 76) := ⟨_, rfl⟩
          have hbq : Below wb.heap.size wb wq := by rw [hwq]; exact hbp.alloc hbp.size _
          have HBQ : Keep (Blk wq bP 89 #[.slice A1 n1 c1, .slice A2 n2 c2, .slice (some ⟨gt, 0, none⟩) S S]) := ⟨by rw [hwq]; exact HBP.out.below ((Below.refl _ _).alloc (Nat.le_refl _) _) HBP.out.lt⟩
          have HTQ : Keep (Blk wq gt 3 (ints .i64 (List.replicate S (-1)))) := ⟨by rw [hwq]; exact HBT.out.below ((Below.refl _ _).alloc (Nat.le_refl _) _) HBT.out.lt⟩
          have HCQ : Keep (wq.cell? ⟨wp.heap.size, 0, none⟩ = some (.pointer (some ⟨bP, 0, none⟩))) := ⟨by rw [hwq]; exact one_cell _ _ _⟩
          rw [← hwq]
          generalize wp.heap.size = gQ at *
          have hS3 := HT.out wq hbq
          refine hK.out _ _ (hS3 _) ?_
          have BQ := Keep.mk hbq
          clear hK K hS2 hwq HBP HBT hbp hbq
          refine way_one (i := 22) (by kernel_rfl) rfl (fun K hK => ?_)
          have UQ : Keep (MkS x wq gLk cLk qk u.sts) := ⟨UB.out.ms.keep BQ.out⟩
          have hlen : (qk.map ptrQ).length = u.sts.length := by rw [List.length_map, UB.out.ms.fam.len]
          have hsl : u.sts.length < 512 := by have := UB.out.l; omega
          obtain ⟨ip, hip, hpz, hps, hpb⟩ := info_parts info_pstate
          refine step_append_lies wq rfl (.tmp 109) (.tmp 126) 80 rfl x.B0 76 ip (.pointer none) 1 8 Tryd.underlying80 hip hpz hps hpb rfl (by decide) (.slice (some ⟨gLk, 0, none⟩) u.sts.length cLk) u.sts.length (qk.map ptrQ) rfl (by have := UQ.out.lst; unfold OwnR at this; rw [hlen] at this; exact this) ⟨gQ, 0, none⟩ 1 1 [.pointer (some ⟨bP, 0, none⟩)] rfl rfl (fun j v hv => ?_) (by simp [Value.oneCell']) (by decide) (by simp only [maxLen]; omega) (by omega) UQ.out.mkr.l0 wq.heap.size rfl ?_
          · rcases j with _ | j
            · simp at hv
              subst hv
              exact HCQ.out
            · simp at hv
          intro gL2 cL2 w3 hown hgrow hat2 hlt3
          have hg2 : wq.grownBy w3 (some gLk) := hgrow
          have hL2 : gL2 = gLk ∨ gL2 = wq.heap.size := by
            rcases hat2 with e | e
            · left; exact (Option.some.inj e).symm
            · right; exact e
          have HG2 := Keep.mk hg2
          have HL2 := Keep.mk hL2
          have HOW : Keep (w3.ownsRow x.B0 76 1 (.slice (some ⟨gL2, 0, none⟩) (u.sts.length + 1) cL2) ((qk.map ptrQ).length + 1) (qk.map ptrQ ++ [.pointer (some ⟨bP, 0, none⟩)])) := ⟨by rw [hlen]; exact hown⟩
          have neM : x.mB ≠ gLk := Ne.symm UB.out.ms.oL.m
          have lmB : x.mB < wb.heap.size := UB.out.ms.mkr.lm
          have hNB : gN < wb.heap.size ∧ gN ≠ gLk ∧ w1.heap.size ≤ gN := by
            obtain ⟨cs, hbN, _⟩ := UB.out.nx.blk
            obtain ⟨_, _, c, hc⟩ := UB.out.ms.lst.block gLk rfl
            exact ⟨hbN.lt, hbN.ne_of_type hc (by decide), UB.out.nx.gB⟩
          have hm1 : x.mB < w1.heap.size := UB.out.m1.lm
          have hX2 := HXL.out
          have hX1 := LX1.out
          have fc : ∀ j i, j < wb.heap.size → j ≠ gLk → w3.cell? ⟨j, i, none⟩ = wb.cell? ⟨j, i, none⟩ := fun j i h1 h2 => by
            unfold World.cell?
            rw [HG2.out.block j (Nat.lt_of_lt_of_le h1 BQ.out.size) (fun e => h2 (Option.some.inj e)), BQ.out.block j h1]
          have z7 : w3.frozen? ⟨x.mB, 7, none⟩ = false := (World.frozen?_of_block (HG2.out.block _ (Nat.lt_of_lt_of_le lmB BQ.out.size) (fun e => neM (Option.some.inj e)))).trans UQ.out.fz
          obtain ⟨⟨d1, d2, d3, d4⟩, d5⟩ := HT.out wb (Below.refl _ _) false
          have d7 := (fc x.mB 7 lmB neM).trans (d5 rfl)
          have e1 := (fc x.mB 1 lmB neM).trans d1
          have e2 := (fc gX 0 BX.out.lt hX2).trans d2
          have e3 := (fc gN (k * 3) hNB.1 hNB.2.1).trans d3
          have e4 := (fc gN (k * 3 + 1) hNB.1 hNB.2.1).trans d4
          have hS4 : ∀ b : Bool, b = true → ((w3.cell? ⟨x.mB, 1, none⟩ = some (.int .i64 (S : Nat)) ∧ w3.cell? ⟨gX, 0, none⟩ = some (.pointer (some ⟨gN, k * 3, none⟩)) ∧ w3.cell? ⟨gN, k * 3, none⟩ = some (.slice A1 n1 c1) ∧ w3.cell? ⟨gN, k * 3 + 1, none⟩ = some (.slice A2 n2 c2)) ∧ (b = false → w3.cell? ⟨x.mB, 7, none⟩ = some (.slice (some ⟨gLk, 0, none⟩) u.sts.length cLk))) := fun b hb => ⟨⟨e1, e2, e3, e4⟩, fun h => up_no hb h⟩
          refine hK.out _ _ (hS4 _ (by kernel_rfl)) ?_
          clear hK K hS3 hown hgrow hat2 hg2 hL2
          (try simp only [Act.put, List.setIfInBounds_toArray, List.set_cons_zero, List.set_cons_succ])
          (refine way_take (T := fun W => W.cell? ⟨x.mB, 1, none⟩ = some (.int .i64 (S : Nat)) ∧ W.cell? ⟨gX, 0, none⟩ = some (.pointer (some ⟨gN, k * 3, none⟩)) ∧ W.cell? ⟨gN, k * 3, none⟩ = some (.slice A1 n1 c1) ∧ W.cell? ⟨gN, k * 3 + 1, none⟩ = some (.slice A2 n2 c2)) (i := 23) (v := ?_) rfl (by kernel_rfl) (by kernel_rfl) (by kernel_rfl) (fun _ _ _ h => h) (by decide) (fun _ _ h => h.1) (Or.inl ⟨by rfl, ?_⟩) (hS4 _ (by kernel_rfl)) ?_; rotate_left; (· intro w hSw; (try dsimp only at hSw); go_simp; all_goals (with_reducible rfl)); (try simp only [Act.put, List.setIfInBounds_toArray, List.set_cons_zero, List.set_cons_succ]))
          (refine way_take (T := fun W => W.cell? ⟨x.mB, 1, none⟩ = some (.int .i64 (S : Nat)) ∧ W.cell? ⟨gX, 0, none⟩ = some (.pointer (some ⟨gN, k * 3, none⟩)) ∧ W.cell? ⟨gN, k * 3, none⟩ = some (.slice A1 n1 c1) ∧ W.cell? ⟨gN, k * 3 + 1, none⟩ = some (.slice A2 n2 c2)) (i := 24) (v := ?_) rfl (by kernel_rfl) (by kernel_rfl) (by kernel_rfl) (fun _ _ _ h => h) (by decide) (fun _ _ h => h.1) (Or.inl ⟨by rfl, ?_⟩) (hS4 _ (by kernel_rfl)) ?_; rotate_left; (· intro w hSw; (try dsimp only at hSw); go_simp; all_goals (with_reducible rfl)); (try simp only [Act.put, List.setIfInBounds_toArray, List.set_cons_zero, List.set_cons_succ]))
          refine way_one (i := 25) (by kernel_rfl) rfl (fun K hK => ?_)
          go_simp
          have hS5 : ∀ b : Bool, b = true → (((w3.setCell ⟨x.mB, 7, none⟩ (.slice (some ⟨gL2, 0, none⟩) (u.sts.length + 1) cL2)).cell? ⟨x.mB, 1, none⟩ = some (.int .i64 (S : Nat)) ∧ (w3.setCell ⟨x.mB, 7, none⟩ (.slice (some ⟨gL2, 0, none⟩) (u.sts.length + 1) cL2)).cell? ⟨gX, 0, none⟩ = some (.pointer (some ⟨gN, k * 3, none⟩)) ∧ (w3.setCell ⟨x.mB, 7, none⟩ (.slice (some ⟨gL2, 0, none⟩) (u.sts.length + 1) cL2)).cell? ⟨gN, k * 3, none⟩ = some (.slice A1 n1 c1) ∧ (w3.setCell ⟨x.mB, 7, none⟩ (.slice (some ⟨gL2, 0, none⟩) (u.sts.length + 1) cL2)).cell? ⟨gN, k * 3 + 1, none⟩ = some (.slice A2 n2 c2)) ∧ (b = false → (w3.setCell ⟨x.mB, 7, none⟩ (.slice (some ⟨gL2, 0, none⟩) (u.sts.length + 1) cL2)).cell? ⟨x.mB, 7, none⟩ = some (.slice (some ⟨gLk, 0, none⟩) u.sts.length cLk))) := fun b hb => by
            refine ⟨⟨?_, ?_, ?_, ?_⟩, fun h => up_no hb h⟩
            · rw [World.cell?_setCell_other (h := by intro e; injection e with _ e1; cases e1)]; exact e1
            · rw [World.cell?_setCell_other (h := by intro e; injection e with e1 _; omega)]; exact e2
            · rw [World.cell?_setCell_other (h := by intro e; injection e with e1 _; omega)]; exact e3
            · rw [World.cell?_setCell_other (h := by intro e; injection e with e1 _; omega)]; exact e4
          refine hK.out _ _ (hS5 _ (by kernel_rfl)) ?_
          clear hK K hS4 hS5 e1 e2 e3 e4 d7 z7 d1 d2 d3 d4 d5
          refine way_done (by kernel_rfl) ?_ _
          have hqs : 0 < qk.length := by
            obtain ⟨more, e, _⟩ := UB.out.ext
            rw [e, List.length_append]; omega
          obtain ⟨g2, c2', q, hV⟩ := GrV.made (w2 := wq) (w3 := w3) UB.out hlt NE.out HSD.out HCS.out.2.1 hsl hqs BX.out HXL.out LX1.out (by rw [HVC.out, HVM.out]; exact HBQ.out) HTQ.out BQ.out LBP.out LGT.out HG2.out HOW.out HL2.out
          have HV := Keep.mk hV
          clear hV
          obtain ⟨w4, hw4⟩ : ∃ W : World, W = w3.setCell ⟨x.mB, 7, none⟩ (.slice (some ⟨gL2, 0, none⟩) (u.sts.length + 1) cL2) := ⟨_, rfl⟩
          rw [← hw4] at HV ⊢
          clear hw4 HG2 HOW HBQ HTQ UQ BQ fc
          have HG : Keep ((⟨u.sts ++ [⟨nxCore x.g OUT k, nxMask x.g OUT k, List.replicate x.g.S.toNat (-1)⟩], u.fresh ++ [u.sts.length], false⟩, u.sts.length) = growFind x.g u (nxCore x.g OUT k) (nxMask x.g OUT k)) := ⟨by
            unfold growFind
            rw [HFS.out]
            simp only [h5, if_false]⟩
          have HFL : Keep ((ints_ u.fresh).length < 100000) := ⟨by
            rw [ints_len]
            have h2 := growTo_fresh x.g x.F at_ sts k
            rw [← HU.out] at h2
            omega⟩
          obtain ⟨n8, hn8⟩ : ∃ n, n = u.sts.length := ⟨_, rfl⟩
          have HN8 := Keep.mk hn8
          rw [← hn8] at HV HG ⊢
          clear hn8 h5 h6 hlen hsl hqs hNB hm1 hX2 hX1 lmB neM hf1 HT KNW HL2 c7k BX HFS UB
          go_upto_region 23 with fail
          obtain ⟨wy, hwy⟩ : ∃ wp : World, wp = w4.alloc (.cells #[.int .i64 (n8 : Nat)] 3) := ⟨_, rfl⟩
          have VY := Keep.mk (HV.out.below (w' := wy) (by rw [hwy]; exact (Below.refl _ _).alloc (Nat.le_refl _) _))
          have HC1 : Keep (wy.cell? ⟨w4.heap.size, 0, none⟩ = some (.int .i64 (n8 : Nat))) := ⟨by rw [hwy]; exact one_cell w4 _ _⟩
          go_wp2_with (at_builtin; rw [← hwy]; refine wpl_append_made rfl (.tmp 130) (.tmp 132) rfl VY.out rfl w4.heap.size n8 rfl HC1.out HFL.out ?_)
          intro v8 w8 hV8 hv8
          obtain ⟨A8, m8, c8, e8⟩ := hv8.out
          subst e8
          have V8 := Keep.mk hV8
          clear hV8 hv8 VY HV HC1 hwy HFL
          go_wp2_with fail
          go_meet
          exact ⟨n8, g2, c2', gL2, cL2, qk ++ [q], _, rfl, V8, HG⟩
    case rest =>
    obtain ⟨n9, g2, c2, gL9, cL9, q9, u9, rfl, V, HGF⟩ := hcut
    have ha9 : at_ < q9.length := by
      obtain ⟨more, e, _⟩ := V.out.gu.ext
      rw [e, List.length_append]; omega
    have hau : at_ < u9.sts.length := by rw [← V.out.gu.ms.fam.len]; exact ha9
    have V2 := Keep.mk (V.out.led haq ha9)
    have HF9 : Keep (u9.full = false) := ⟨V.out.gu.nf⟩
    have HAU := Keep.mk hau
    have c7 := V.out.gu.ms.c7
    have cp := V.out.gu.ms.ptr ha9
    have i1 : (at_ : Int) < u9.sts.length := by omega
    have fT := V.out.gu.ms.frozenT ha9 k
    have hmem : stAt u9.sts at_ ∈ u9.sts := by
      unfold stAt
      rw [List.getD_eq_getElem?_getD, List.getElem?_eq_getElem hau]
      exact List.getElem_mem hau
    have hlS : (stAt u9.sts at_).led.length = S := by rw [HSD.out]; exact (V.out.gu.ok _ hmem).2.2
    obtain ⟨⟨cc, cm, ct, hb, l1, l2, l3⟩, _, _, ⟨cs3, h7, h8⟩, _⟩ := V.out.gu.ms.fam.sta at_ ha9
    have cb2 := hb.cell 2
    simp at cb2
    rw [hlS] at cb2
    have cT := h7.cell k
    rw [h8 k ((stAt u9.sts at_).led[k]'(by rw [hlS]; exact hlt)) (List.getElem?_eq_getElem _)] at cT
    generalize (stAt u9.sts at_).led[k]'(by rw [hlS]; exact hlt) = old at cT
    generalize q9[at_].b = b9 at *
    generalize q9[at_].gt = t9 at *
    clear hb h7 h8 l1 l2 l3 hmem hlS hau V
    go_upto_region 25 with fail
    obtain ⟨wd, hwd⟩ : ∃ wd : World, wd = wc.setCell ⟨t9, k, none⟩ (.int .i64 (n9 : Nat)) := ⟨_, rfl⟩
    rw [← hwd] at V2 ⊢
    clear hwd cp cb2 cT fT c7
    obtain ⟨u10, hu10⟩ : ∃ u, u = (⟨setTo u9.sts at_ k n9, u9.fresh, false⟩ : GrS) := ⟨_, rfl⟩
    rw [← hu10] at V2
    have HU10 := Keep.mk hu10
    clear hu10
    have hn9 : n9 < q9.length := by rw [V2.out.gu.ms.fam.len]; exact V2.out.lt
    obtain ⟨MS, hMS⟩ : ∃ m, m = (stAt u10.sts n9).mask := ⟨_, rfl⟩
    obtain ⟨M, hM⟩ : ∃ m, m = nxMask x.g OUT k := ⟨_, rfl⟩
    have hMb : ∀ y ∈ nxMask x.g OUT k, y < 2 ^ 64 := (nx_ok HCS.out.2.1 k).b
    have c7 := V2.out.gu.ms.c7
    have cp := V2.out.gu.ms.ptr hn9
    have cX := V2.out.bX.cell 0
    simp at cX
    have cM := V2.out.cM
    have i1 : (n9 : Int) < u10.sts.length := by have := V2.out.lt; omega
    have i2 : (0 : Int) ≤ n9 := by omega
    have KJ0 : Keep (∃ gm, gm = q9[n9].gm ∧ Calls Tryd.prog 62 #[.pointer (some ⟨q9[n9].b, 0, none⟩), .slice (some ⟨g2, 0, none⟩) M.length c2] wd.drew fun e w' => e = .returned (.bool (joinB MS M M.length)) ∧ PreM w' gm (joinM MS M) ∧ wd.drew.grownBy w' (some gm)) := ⟨by
      obtain ⟨⟨cc, cm, ct, hb, l1, l2, l3⟩, _, hp, _, hl⟩ := V2.out.gu.ms.fam.sta n9 hn9
      have hmem : stAt u10.sts n9 ∈ u10.sts := by
        unfold stAt
        rw [List.getD_eq_getElem?_getD, List.getElem?_eq_getElem V2.out.lt]
        exact List.getElem_mem V2.out.lt
      have hok := (V2.out.gu.ok _ hmem).1
      have hMS' : MS.length = (stAt u10.sts n9).core.length := by rw [hMS]; exact hl
      have hlen : M.length < 10000 := by
        rw [hM, ← nx_len]
        unfold nxCore
        rw [List.length_map]
        have := nxSel_len x.g OUT k (nSp x.g)
        omega
      obtain ⟨_, hp1, _⟩ := hp
      refine ⟨_, rfl, ?_⟩
      rw [← hMS] at hok
      exact joins_any wd.drew q9[n9].b q9[n9].gm g2 MS M cm c2 (by rw [hMS']; exact hb.cell 1) (hb.ne_of_type hp1 (by decide)) hb.lt (by rw [hMS]; exact (V2.out.gu.ms.fam.sta n9 hn9).mask) (by rw [hM]; exact V2.out.pm)
        (by rw [hM, hMS]; exact V2.out.ln.symm) (by rw [hM]; exact hMb) hok.b hlen (by rw [hM, hMS]; exact V2.out.ne hn9)⟩
    obtain ⟨gm, hgm, KJ1⟩ := KJ0.out
    have KJ := Keep.mk KJ1
    clear KJ0 KJ1
    have FIN : Keep (∀ W, PreM W gm (joinM MS M) → wd.grownBy W (some gm) → GrU x w1 W gL qs gN S vC vM OUT (k + 1) gL9 cL9 q9 ⟨setMask u10.sts n9 (joinM MS M), u10.fresh, false⟩ u11) := ⟨fun W h1 h2 => by
      rw [hMS, hM] at h1 ⊢
      rw [hgm] at h1 h2
      exact V2.out.join hn9 hMb h1 h2⟩
    have HMS := Keep.mk hMS
    have HMM := Keep.mk hM
    rw [← hM] at cM
    generalize q9[n9].b = bn at *
    clear hgm hMb hMS hM hn9
    go_cut [158] (fun s158 wx => s158 = .bool (joinB MS M M.length) ∧ Keep (PreM wx gm (joinM MS M)) ∧ Keep (wd.grownBy wx (some gm)))
    case first =>
      go_region_law (first
        | (go_simp; go_at_call 62; refine KJ.out.mono ?_; rintro e w8 ⟨rfl, hP, hG⟩; have P8 := Keep.mk hP; have G8 : Keep (wd.grownBy w8 (some gm)) := ⟨⟨hG.os, hG.tape, hG.output, hG.size, hG.block⟩⟩; clear hP hG))
      all_goals (
        go_wp2_with fail
        go_meet
        exact ⟨rfl, P8, G8⟩)
    case rest =>
    obtain ⟨rfl, P8, G8⟩ := hcut
    have UF := Keep.mk (FIN.out _ P8.out G8.out)
    have HUN : Keep (growTo x.g x.F at_ sts (k + 1) = ⟨setMask u10.sts n9 (joinM MS M), if joinB MS M M.length = true then u10.fresh ++ [n9] else u10.fresh, false⟩) := ⟨by
      rw [HGM.out, ← HU.out, growSym_put UB.out.nf NE.out HGF.out HF9.out HAU.out, HMS.out, HMM.out, HU10.out]⟩
    have HFL : Keep (u10.fresh.length < 100000) := ⟨by
      have h1 := growFind_fresh x.g u (nxCore x.g OUT k) (nxMask x.g OUT k)
      rw [← HGF.out] at h1
      have h4 : u9.fresh.length ≤ u.fresh.length + 1 := h1
      have h2 := growTo_fresh x.g x.F at_ sts k
      rw [← HU.out] at h2
      have h3 : u10.fresh = u9.fresh := by rw [HU10.out]
      rw [h3]
      omega⟩
    clear FIN P8 G8 KJ c7 cp cX cM V2
    generalize hjb : joinB MS M M.length = jb at *
    clear hjb
    cases jb with
    | false =>
      have UF2 : Keep (GrU x w1 wc gL qs gN S vC vM OUT (k + 1) gL9 cL9 q9 (growTo x.g x.F at_ sts (k + 1)) u11) := ⟨by rw [HUN.out]; exact UF.out⟩
      clear UF HUN HFL UB
      go_wp2
      go_roundg (S - (k + 1))
      case measure => omega
      case rel => exact ⟨k + 1, gL9, cL9, q9, _, by omega, by omega, by go_num, UF2, ⟨rfl⟩⟩
    | true =>
      go_upto_region 26 with fail
      obtain ⟨wp, hwp⟩ : ∃ wp : World, wp = wc.alloc (.cells #[.int .i64 (n9 : Nat)] 3) := ⟨_, rfl⟩
      have UP : Keep (GrU x w1 wp gL qs gN S vC vM OUT (k + 1) gL9 cL9 q9 ⟨setMask u10.sts n9 (joinM MS M), u10.fresh, false⟩ u11) := ⟨by rw [hwp]; exact UF.out.below UF.out.low.size ((Below.refl _ _).alloc (Nat.le_refl _) _)⟩
      have HC1 : Keep (wp.cell? ⟨wc.heap.size, 0, none⟩ = some (.int .i64 (n9 : Nat))) := ⟨by rw [hwp]; exact one_cell wc _ _⟩
      go_wp2_with (at_builtin; rw [← hwp]; refine wpl_append_fresh rfl (.tmp 159) (.tmp 161) rfl UP.out rfl wc.heap.size n9 rfl HC1.out HFL.out ?_)
      intro v8 w8 hU hv8
      obtain ⟨A8, n8, c8, e8⟩ := hv8.out
      clear hv8
      subst e8
      have UF2 : Keep (GrU x w1 w8 gL qs gN S vC vM OUT (k + 1) gL9 cL9 q9 (growTo x.g x.F at_ sts (k + 1)) (.slice A8 n8 c8)) := ⟨by rw [HUN.out]; exact hU⟩
      clear UF HUN HFL UB hU UP HC1 hwp
      go_wp2
      go_roundg (S - (k + 1))
      case measure => omega
      case rel => exact ⟨k + 1, gL9, cL9, q9, _, by omega, by omega, by go_num, UF2, ⟨rfl⟩⟩
  have k0 : (0:Int) ≤ k := by omega
  have k1 : (k : Int) < nSp x.g := by omega
  have kw : IntKind.i64.wrap ((k : Int) + 1) = (k : Int) + 1 := by rw [IntKind.wrap_i64]; omega
  have HKL := Keep.mk hlt
  obtain ⟨vC, vM, hN, hB⟩ := G.out
  have co := u64s_getD (O1.out.below hB O1.out.lt) (i := k) (by rw [HCS.out.1]; exact hlt)
  have NX := Keep.mk hN
  have BR := Keep.mk hB
  have KN1 := Keep.mk (KN.out wr hB k hlt)
  obtain ⟨y, hy⟩ : ∃ y, y = OUT.getD k 0 := ⟨_, rfl⟩
  have HY := Keep.mk hy
  rw [← hy] at co
  clear hN hB hy G hlt
  obtain ⟨z, hz⟩ : ∃ z, z = nextS x.g k := ⟨_, rfl⟩
  have HZ := Keep.mk hz
  have hz1 := nextS_lt HX.out.ok k
  rw [← hz] at KN1 hz1
  clear hz
  by_cases hc : y ≠ 0 ∧ 0 ≤ z
  · obtain ⟨s, rfl⟩ : ∃ s : Nat, z = (s : Int) := ⟨z.toNat, by omega⟩
    have hsS : s < S := by have := HSI.out; omega
    have t1 : ((y : Int) != 0) = true := by simp; omega
    have s0 : (0 : Int) ≤ s := by omega
    have s1 : (s : Int) < S := by omega
    have HC := Keep.mk hc
    clear hc hz1
    go_wp2_with fail
    refine KN1.out.mono ?_
    rintro e wn ⟨rfl, hbn⟩
    have NX1 := Keep.mk (NX.out.below hbn)
    have BR1 : Keep (Below w1.heap.size w1 wn) := ⟨below_step BR.out hbn BR.out.size⟩
    have cC := NX1.out.cellC hsS
    have fC := NX1.out.frozen (s * 3)
    clear NX BR hbn co KN1
    go_upto_region 8 with fail
    obtain ⟨wp, hwp⟩ : ∃ wp : World, wp = wn.alloc (.cells #[.int .i64 ((k : Int) + 1)] 3) := ⟨_, rfl⟩
    have NX2 : Keep (Nx wp w1.heap.size gN (· < S) vC vM (cCof x.g OUT k) (cMof x.g OUT k)) := ⟨by rw [hwp]; exact NX1.out.below ((Below.refl _ _).alloc (Nat.le_refl _) _)⟩
    have BR2 : Keep (Below w1.heap.size w1 wp) := ⟨by rw [hwp]; exact BR1.out.alloc BR1.out.size _⟩
    have LC : Keep ((cCof x.g OUT k s).length < 100000) := ⟨by unfold cCof; rw [List.length_map]; have := nxSel_len x.g OUT s k; omega⟩
    have LM : Keep ((cMof x.g OUT k s).length < 100000) := ⟨by unfold cMof; rw [List.length_map]; have := nxSel_len x.g OUT s k; omega⟩
    have HC1 : Keep (wp.cell? ⟨wn.heap.size, 0, none⟩ = some (.int .i64 ((k : Int) + 1))) := ⟨by rw [hwp]; exact one_cell wn _ _⟩
    go_wp2_with (at_builtin; rw [← hwp]; refine wpl_append_core rfl (.tmp 52) (.tmp 55) rfl NX2.out hsS rfl wn.heap.size ((k : Int) + 1) rfl HC1.out LC.out BR2.out.size ?_)
    intro v' w' hN hB hK2
    rw [← hwp] at hB hK2
    obtain ⟨cs, hbN, hcs⟩ := NX2.out.blk
    have hbN' := hK2 gN _ cs hbN (by decide)
    have cC' : w'.cell? ⟨gN, s * 3, none⟩ = some (vC s) := by rw [hbN'.cell]; exact (hcs s hsS).1
    have fC' := hbN'.frozen (s * 3)
    have BR3 : Keep (Below w1.heap.size w1 (w'.setCell ⟨gN, s * 3, none⟩ v')) := ⟨(BR2.out.trans hB).setCell NX2.out.gB v'⟩
    have hoN := hN.oC s hsS
    simp only [upd_same] at hoN
    obtain ⟨A8, n8, c8, e8⟩ : ∃ A n c, v' = .slice A n c := by obtain ⟨A, c, e, _⟩ := hoN.open_; exact ⟨A, _, c, e⟩
    have NX3 := Keep.mk hN
    have E8 := Keep.mk e8
    clear hN hB hK2 hbN hcs hbN' hoN NX2 BR2 HC1 LC hwp cC fC NX1 BR1
    subst e8
    go_upto_region 9 with fail
    obtain ⟨wq, hwq⟩ : ∃ wq : World, wq = w'.setCell ⟨gN, s * 3, none⟩ (.slice A8 n8 c8) := ⟨_, rfl⟩
    rw [← hwq] at NX3 BR3 ⊢
    clear hwq cC' fC' E8
    obtain ⟨vC2, hvC2⟩ : ∃ f : Nat → Value, f = upd vC s (.slice A8 n8 c8) := ⟨_, rfl⟩
    rw [← hvC2] at NX3
    clear hvC2
    have cM := NX3.out.cellM hsS
    obtain ⟨wp2, hwp2⟩ : ∃ wp : World, wp = wq.alloc (.cells #[.int .u64 (y : Nat)] 86) := ⟨_, rfl⟩
    have NX4 : Keep (Nx wp2 w1.heap.size gN (· < S) vC2 vM (upd (cCof x.g OUT k) s (cCof x.g OUT k s ++ [Value.int .i64 ((k : Int) + 1)])) (cMof x.g OUT k)) := ⟨by rw [hwp2]; exact NX3.out.below ((Below.refl _ _).alloc (Nat.le_refl _) _)⟩
    have BR4 : Keep (Below w1.heap.size w1 wp2) := ⟨by rw [hwp2]; exact BR3.out.alloc BR3.out.size _⟩
    have HC1 : Keep (wp2.cell? ⟨wq.heap.size, 0, none⟩ = some (.int .u64 (y : Nat))) := ⟨by rw [hwp2]; exact one_cell wq _ _⟩
    go_wp2_with (at_builtin; rw [← hwp2]; refine wpl_append_mask rfl (.tmp 65) (.tmp 67) rfl NX4.out hsS rfl wq.heap.size (y : Nat) rfl HC1.out LM.out BR4.out.size ?_)
    intro v2 w3 hN hB hK2
    rw [← hwp2] at hB hK2
    obtain ⟨cs, hbN, hcs⟩ := NX4.out.blk
    have hbN' := hK2 gN _ cs hbN (.inl (by decide))
    have cM' : w3.cell? ⟨gN, s * 3 + 1, none⟩ = some (vM s) := by rw [hbN'.cell]; exact (hcs s hsS).2
    have fM' := hbN'.frozen (s * 3 + 1)
    have BR5 : Keep (Below w1.heap.size w1 (w3.setCell ⟨gN, s * 3 + 1, none⟩ v2)) := ⟨(BR4.out.trans hB).setCell NX4.out.gB v2⟩
    have hoN := hN.oM s hsS
    simp only [upd_same] at hoN
    obtain ⟨A9, n9, c9, e9⟩ : ∃ A n c, v2 = .slice A n c := by obtain ⟨A, c, e, _⟩ := hoN.open_; exact ⟨A, _, c, e⟩
    rw [HY.out, ← cCof_hit (by rw [← HY.out]; exact HC.out.1) HZ.out, ← cMof_hit (by rw [← HY.out]; exact HC.out.1) HZ.out] at hN
    have G1 : Keep (GrW w1 (w3.setCell ⟨gN, s * 3 + 1, none⟩ v2) gN S x.g OUT (k + 1)) := ⟨_, _, hN, BR5.out⟩
    clear hN hB hK2 hbN hcs hbN' hoN NX4 BR4 HC1 LM hwp2 cM NX3 BR3 BR5
    subst e9
    go_wp2
    go_roundg (nSp x.g - (k + 1))
    case measure => omega
    case rel => exact ⟨k + 1, by omega, by omega, by go_num, G1⟩
  · have hm := cof_miss (g := x.g) (out := OUT) (k := k) (by rw [← HY.out, ← HZ.out]; exact hc)
    have FIN : Keep (∀ W, Below wr.heap.size wr W → GrW w1 W gN S x.g OUT (k + 1)) := ⟨fun W hW => ⟨vC, vM, by rw [hm.1, hm.2]; exact NX.out.below hW, below_step BR.out hW BR.out.size⟩⟩
    clear hm NX
    by_cases hy0 : y = 0
    · have t1 : ((y : Int) != 0) = false := by rw [hy0]; rfl
      have t2 : ((y : Int) = 0) := by omega
      clear hc hy0 hz1
      go_wp2_with fail
      refine KN1.out.mono ?_
      rintro e wn ⟨rfl, hbn⟩
      have G1 := Keep.mk (FIN.out wn hbn)
      clear FIN hbn KN1
      go_wp2
      go_roundg (nSp x.g - (k + 1))
      case measure => omega
      case rel => exact ⟨k + 1, by omega, by omega, by go_num, G1⟩
    · have t1 : ((y : Int) != 0) = true := by simp; omega
      have t2 : ¬ (0 ≤ z) := fun h => hc ⟨hy0, h⟩
      have t3 : z < 0 := by omega
      clear hc hz1
      go_wp2_with fail
      refine KN1.out.mono ?_
      rintro e wn ⟨rfl, hbn⟩
      have G1 := Keep.mk (FIN.out wn hbn)
      clear FIN hbn KN1
      go_wp2
      go_roundg (nSp x.g - (k + 1))
      case measure => omega
      case rel => exact ⟨k + 1, by omega, by omega, by go_num, G1⟩
end Go.Proofs.YtaooejidkeojjaaDoor.H
namespace Go.Proofs.YtaooejidkeojjaaDoor.H
open Go.RowKit
set_option linter.unusedVariables false
set_option linter.unusedSimpArgs false
def mkV (g : Gr) (A : Option Addr) (c gF n nB : Nat) (sp : Value) : Array Value := #[.int .i64 g.T, .int .i64 g.S, .int .i64 g.st, .slice A g.ps.length c, .slice (some ⟨gF, 0, none⟩) n n, .map (some nB), sp, .slice none 0 0]
structure BW (g : Gr) (A : Option Addr) (c : Nat) (w wr : World) (mB gF nB n : Nat) (m : List Nat) : Prop where
  bw : Below w.heap.size w wr
  bg : Blk wr w.heap.size 24 #[.int .i64 g.T, .int .i64 g.S, .int .i64 g.st, .slice A g.ps.length c]
  bm : Blk wr mB 82 (mkV g A c gF n nB (.slice none 0 0))
  bf : Blk wr gF 86 (u64s m)
  nm : MapI spotE 3 (spots g) wr nB (fun _ => none)
  lf : m.length = n
  l1 : w.heap.size ≤ mB
  l2 : w.heap.size < gF
  l3 : w.heap.size < nB
section
variable {g : Gr} {A : Option Addr} {c : Nat} {w wr w' : World} {mB gF nB n : Nat} {m : List Nat}
theorem BW.below (h : BW g A c w wr mB gF nB n m) (hb : Below wr.heap.size wr w') : BW g A c w w' mB gF nB n m :=
  ⟨below_step h.bw hb h.bw.size, h.bg.below hb h.bg.lt, h.bm.below hb h.bm.lt, h.bf.below hb h.bf.lt, h.nm.below hb h.nm.lt, h.lf, h.l1, h.l2, h.l3⟩
theorem BW.drewN (h : BW g A c w wr mB gF nB n m) (k : Nat) : BW g A c w (wr.drewN k) mB gF nB n m := h.below (below_drewN (Below.refl _ _) k)
theorem BW.setF (h : BW g A c w wr mB gF nB n m) (i b : Nat) : BW g A c w (wr.setCell ⟨gF, i, none⟩ (.int .u64 (b : Int))) mB gF nB n (m.set i b) := by
  have l2 := h.l2
  have hne : nB ≠ gF := fun e => by
    obtain ⟨D, ⟨es, clock, h1, _⟩, _⟩ := h.nm
    have h2 : wr.heap[gF]? = some _ := h.bf
    rw [e, h2] at h1
    cases h1
  refine ⟨h.bw.setCell (by show w.heap.size ≤ gF; omega) _, h.bg.far (by show _ ≠ gF; omega) _, h.bm.far (h.bm.ne_of_type h.bf (by decide)) _, ?_, h.nm.far hne _, by simp [h.lf], h.l1, h.l2, h.l3⟩
  have := h.bf.set_ i (.int .u64 (b : Int))
  rwa [u64s_set] at this
end
def numAt (g : Gr) (p d : Nat) (k : Nat × Nat) : Option Int := if (k.1 < p ∧ k.2 ≤ (bodyX g k.1).length) ∨ (k.1 = p ∧ k.2 < d) then some ((offS g k.1 + k.2 : Nat) : Int) else none
theorem numAt_put (g : Gr) (p d : Nat) : put (numAt g p d) (p, d) (some ((offS g p + d : Nat) : Int)) = numAt g p (d + 1) := by
  funext k
  by_cases e : k = (p, d)
  · subst e
    rw [put_same]
    unfold numAt
    rw [if_pos (.inr ⟨rfl, Nat.lt_succ_self _⟩)]
  · rw [put_other _ _ e]
    unfold numAt
    have : k.1 = p → k.2 ≠ d := fun h1 h2 => e (Prod.ext h1 h2)
    have h : ((k.1 < p ∧ k.2 ≤ (bodyX g k.1).length) ∨ (k.1 = p ∧ k.2 < d)) = ((k.1 < p ∧ k.2 ≤ (bodyX g k.1).length) ∨ (k.1 = p ∧ k.2 < d + 1)) := by
      apply propext
      constructor
      · rintro (h | ⟨h1, h2⟩)
        · exact .inl h
        · exact .inr ⟨h1, by omega⟩
      · rintro (h | ⟨h1, h2⟩)
        · exact .inl h
        · exact .inr ⟨h1, by have := this h1; omega⟩
    simp only [h]
theorem numAt_next (g : Gr) (p : Nat) : numAt g p ((bodyX g p).length + 1) = numAt g (p + 1) 0 := by
  funext k
  unfold numAt
  have h : ((k.1 < p ∧ k.2 ≤ (bodyX g k.1).length) ∨ (k.1 = p ∧ k.2 < (bodyX g p).length + 1)) = ((k.1 < p + 1 ∧ k.2 ≤ (bodyX g k.1).length) ∨ (k.1 = p + 1 ∧ k.2 < 0)) := by
    apply propext
    constructor
    · rintro (⟨h1, h2⟩ | ⟨h1, h2⟩)
      · exact .inl ⟨by omega, h2⟩
      · exact .inl ⟨by omega, by rw [h1]; omega⟩
    · rintro (⟨h1, h2⟩ | ⟨h1, h2⟩)
      · by_cases e : k.1 = p
        · exact .inr ⟨e, by rw [e] at h2; omega⟩
        · exact .inl ⟨by omega, h2⟩
      · omega
  simp only [h]
theorem numAt_end (g : Gr) : numAt g (g.ps.length + 1) 0 = numOf g := by
  funext k
  unfold numAt numOf
  have h : ((k.1 < g.ps.length + 1 ∧ k.2 ≤ (bodyX g k.1).length) ∨ (k.1 = g.ps.length + 1 ∧ k.2 < 0)) = (k.1 ≤ g.ps.length ∧ k.2 ≤ (bodyX g k.1).length) := by
    apply propext
    constructor
    · rintro (⟨h1, h2⟩ | ⟨h1, h2⟩)
      · exact ⟨by omega, h2⟩
      · omega
    · rintro ⟨h1, h2⟩
      exact .inl ⟨by omega, h2⟩
  simp only [h]
theorem numAt_zero (g : Gr) : numAt g 0 0 = fun _ => none := by
  funext k
  unfold numAt
  rw [if_neg]
  omega
def spotsAt (g : Gr) (p d : Nat) : List (Nat × Nat) := spotsTo g p ++ (List.range d).map fun e => (p, e)
theorem spotsAt_succ (g : Gr) (p d : Nat) : spotsAt g p (d + 1) = spotsAt g p d ++ [(p, d)] := by unfold spotsAt; rw [List.range_succ, List.map_append, ← List.append_assoc]; rfl
theorem spotsAt_next (g : Gr) (p : Nat) : spotsAt g p ((bodyX g p).length + 1) = spotsAt g (p + 1) 0 := by unfold spotsAt; simp [spotsTo]
def spC (l : List (Nat × Nat)) : List Value := l.flatMap fun k => [.int .i64 (k.1 : Nat), .int .i64 (k.2 : Nat)]
theorem spC_add (l : List (Nat × Nat)) (p d : Nat) : spC (l ++ [(p, d)]) = spC l ++ [.int .i64 (p : Nat), .int .i64 (d : Nat)] := by unfold spC; rw [List.flatMap_append]; rfl
theorem spC_at (l : List (Nat × Nat)) (p d : Nat) : ∀ n, l[n]? = some (p, d) → (spC l)[n * 2]? = some (.int .i64 (p : Nat)) ∧ (spC l)[n * 2 + 1]? = some (.int .i64 (d : Nat)) := by
  induction l with
  | nil => intro n h; simp at h
  | cons a l ih =>
    intro n h
    have e : spC (a :: l) = .int .i64 (a.1 : Nat) :: .int .i64 (a.2 : Nat) :: spC l := rfl
    rw [e]
    cases n with
    | zero =>
      simp at h
      subst h
      exact ⟨rfl, rfl⟩
    | succ n =>
      have h' : l[n]? = some (p, d) := by simpa using h
      obtain ⟨h1, h2⟩ := ih n h'
      rw [show (n + 1) * 2 = n * 2 + 1 + 1 from by omega]
      exact ⟨by simpa using h1, by simpa using h2⟩
structure BX (g : Gr) (A : Option Addr) (c : Nat) (w wr : World) (mB gF nB n p d e : Nat) (sp : Value) : Prop where
  bw : Below w.heap.size w wr
  bg : Blk wr w.heap.size 24 #[.int .i64 g.T, .int .i64 g.S, .int .i64 g.st, .slice A g.ps.length c]
  bm : Blk wr mB 82 (mkV g A c gF n nB sp)
  bf : Blk wr gF 86 (u64s (firstEnd g))
  nm : MapI spotE 3 (spots g) wr nB (numAt g p e)
  own : wr.ownsRow w.heap.size 84 2 sp (offS g p + d) (spC (spotsAt g p d))
  l1 : w.heap.size ≤ mB
  l2 : w.heap.size < gF
  l3 : w.heap.size < nB
section
variable {g : Gr} {A : Option Addr} {c : Nat} {w wr w' : World} {mB gF nB n p d e : Nat} {sp : Value} {m : List Nat}
theorem ownsRow_below {w w' : World} {B : Nat} {e : TypeId} {size : Nat} {v : Value} {n : Nat} {xs : List Value} (h : w.ownsRow B e size v n xs) (hb : Below w.heap.size w w') : w'.ownsRow B e size v n xs := by
  refine ⟨h.1, ?_⟩
  rcases h.2 with h | ⟨g, cap, cur, e1, e2, e3, e4⟩
  · exact .inl h
  · refine .inr ⟨g, cap, cur, e1, e2, ?_, e4⟩
    rw [hb.block g (Array.getElem?_eq_some_iff.1 e3).1]
    exact e3
theorem BX.below (h : BX g A c w wr mB gF nB n p d e sp) (hb : Below wr.heap.size wr w') : BX g A c w w' mB gF nB n p d e sp :=
  ⟨below_step h.bw hb h.bw.size, h.bg.below hb h.bg.lt, h.bm.below hb h.bm.lt, h.bf.below hb h.bf.lt, h.nm.below hb h.nm.lt, ownsRow_below h.own hb, h.l1, h.l2, h.l3⟩
theorem BW.spots (h : BW g A c w wr mB gF nB n m) (hm : m = firstEnd g) : BX g A c w wr mB gF nB n 0 0 0 (.slice none 0 0) :=
  ⟨h.bw, h.bg, h.bm, by rw [← hm]; exact h.bf, by rw [numAt_zero]; exact h.nm, ⟨rfl, .inl ⟨rfl, rfl⟩⟩, h.l1, h.l2, h.l3⟩
theorem BX.next (h : BX g A c w wr mB gF nB n p ((bodyX g p).length + 1) ((bodyX g p).length + 1) sp) : BX g A c w wr mB gF nB n (p + 1) 0 0 sp :=
  ⟨h.bw, h.bg, h.bm, h.bf, by rw [← numAt_next]; exact h.nm, by rw [← spotsAt_next]; exact h.own, h.l1, h.l2, h.l3⟩
theorem map_no_blk {E : KeyEnc Tryd.prog 84 (Nat × Nat)} {box : List (Nat × Nat)} {b : Nat} {f : Nat × Nat → Option Int} {t : TypeId} {cs : Array Value} (h : MapI E 3 box wr b f) {g : Nat} (hb : Blk wr g t cs) : g ≠ b := fun e => by
  obtain ⟨D, ⟨es, clock, h1, _⟩, _⟩ := h
  have h2 : wr.heap[g]? = some _ := hb
  rw [e, h1] at h2
  cases h2
theorem BX.num (h : BX g A c w wr mB gF nB n p d d sp) (hn : MapI spotE 3 (spots g) w' nB (put (numAt g p d) (p, d) (some ((offS g p + d : Nat) : Int)))) (hg : wr.grownBy w' (some nB)) : BX g A c w w' mB gF nB n p d (d + 1) sp := by
  have keep : ∀ {k : Nat} {t : TypeId} {cs : Array Value}, Blk wr k t cs → Blk w' k t cs := fun hb => hb.grown hg fun e => map_no_blk h.nm hb (Option.some.inj e)
  refine ⟨h.bw.grown hg h.bw.size (fun b hb => by rw [← Option.some.inj hb]; exact Nat.le_of_lt h.l3), keep h.bg, keep h.bm, keep h.bf, by rw [← numAt_put]; exact hn, ⟨h.own.1, ?_⟩, h.l1, h.l2, h.l3⟩
  rcases h.own.2 with h | ⟨g, cap, cur, e1, e2, e3, e4⟩
  · exact .inl h
  · exact .inr ⟨g, cap, cur, e1, e2, keep e3, e4⟩
theorem BX.app (h : BX g A c w wr mB gF nB n p d e sp) {v' : Value} (ho : w'.ownsRow w.heap.size 84 2 v' (offS g p + d + 1) (spC (spotsAt g p d ++ [(p, d)]))) (hg : wr.grownBy w' sp.ownBlock) : BX g A c w (w'.setCell ⟨mB, 6, none⟩ v') mB gF nB n p (d + 1) e v' := by
  have own : ∀ b, sp.ownBlock = some b → w.heap.size ≤ b ∧ ∃ cs, Blk wr b 84 cs := fun b hb => by
    rcases h.own.2 with ⟨h, _⟩ | ⟨g, cap, cur, e1, e2, e3, e4⟩
    · rw [h] at hb; cases hb
    · rw [e1] at hb
      have : g = b := Option.some.inj hb
      subst this
      exact ⟨e2, cur, e3⟩
  have keep : ∀ {k : Nat} {t : TypeId} {cs : Array Value}, Blk wr k t cs → t ≠ 84 → Blk w' k t cs := fun hb ht => hb.grown hg fun e => by
    obtain ⟨_, cs, hc⟩ := own _ e.symm
    exact hb.ne_of_type hc ht rfl
  have bm' := keep h.bm (by decide)
  have hB := h.bw.size
  have l1 := h.l1
  refine ⟨(h.bw.grown hg h.bw.size (fun b hb => (own b hb).1)).setCell l1 _, (keep h.bg (by decide)).far (h.bg.ne_of_type h.bm (by decide)) _, ?_, (keep h.bf (by decide)).far (h.bf.ne_of_type h.bm (by decide)) _, ?_, ?_, h.l1, h.l2, h.l3⟩
  · have := bm'.set_ 6 v'
    exact this
  · refine (h.nm.grown hg fun e => ?_).far (Ne.symm (map_no_blk h.nm h.bm)) _
    obtain ⟨_, cs, hc⟩ := own _ e.symm
    exact map_no_blk h.nm hc rfl
  · rw [spotsAt_succ]
    refine ⟨ho.1, ?_⟩
    rcases ho.2 with h | ⟨g, cap, cur, e1, e2, e3, e4⟩
    · omega
    · refine .inr ⟨g, cap, cur, e1, e2, ?_, e4⟩
      rw [Below.heap_setCell _ _ _ _ (show g ≠ mB from fun e => ?_)]
      · exact e3
      · subst e
        have h1 : w'.heap[g]? = some _ := bm'
        rw [e3] at h1
        injection h1 with h1
        injection h1 with _ h2
        exact absurd h2 (by decide)
theorem BX.keepm (h : BX g A c w wr mB gF nB n p d e sp) (hg : wr.grownBy w' sp.ownBlock) : Blk w' mB 82 (mkV g A c gF n nB sp) := h.bm.grown hg fun e => by
  rcases h.own.2 with ⟨h1, _⟩ | ⟨g, cap, cur, e1, e2, e3, e4⟩
  · rw [h1] at e; cases e
  · rw [e1] at e
    have : mB = g := Option.some.inj e
    subst this
    exact h.bm.ne_of_type (show Blk wr mB 84 cur from e3) (by decide) rfl
theorem info_spot : (Tryd.prog.info? 84).map (fun i => (i.zero, i.size, i.bytes)) = some (some (.agg #[.int .i64 0, .int .i64 0]), 2, 16) := by kernel_rfl
theorem wpl_append_spot {ops : Array Oper} {rest : List Oper} {o : Oper} {a : Act} {Q : Exit → Act → World → Prop} {W : World} {B k : Nat} {l : List (Nat × Nat)} (hgd : o.guard = none) (s y : Operand) (ho : o.op = .call { callee := .builtin .append, args := #[s, y], argTypes := #[79, 79] })
    (hs : a.eval s = sp) (own : W.ownsRow B 84 2 sp k (spC l)) (g1 : Nat) (hx : a.eval y = .slice (some ⟨g1, 0, none⟩) 1 1) (hc : Blk W g1 84 #[.int .i64 (p : Nat), .int .i64 (d : Nat)]) (hl : k < 100000) (hB : B ≤ W.heap.size)
    (hK : ∀ v' w', w'.ownsRow B 84 2 v' (k + 1) (spC (l ++ [(p, d)])) → W.grownBy w' sp.ownBlock → wpList Tryd.prog ops Q rest (a.put o.dst v') w') : wpList Tryd.prog ops Q (o :: rest) a W := by
  obtain ⟨i0, hi0, hz0, hz1, hz2⟩ := info_parts3 info_spot
  refine wpList_append_own_at W hgd s y 79 ho B 84 i0 _ 2 16 Tryd.underlying79 hi0 hz0 hz1 hz2 rfl (by decide) sp k (spC l) hs own ⟨g1, 0, none⟩ 1 1 [.int .i64 (p : Nat), .int .i64 (d : Nat)] hx rfl
    (fun j u hu => ?_) (by simp [Value.oneCell']) (by simp only [maxLen]; omega) (by omega) hB (fun v' w' h1 h2 _ _ => hK v' w' (by rw [spC_add]; exact h1) h2)
  have h0 := hc.cell 0
  have h1 := hc.cell 1
  simp at h0 h1
  rcases j with _ | _ | j
  · simp at hu
    subst hu
    exact h0
  · simp at hu
    subst hu
    exact h1
  · simp at hu
end
theorem below_alloc4 (w : World) (a b c d : Obj) : Below w.heap.size w ((((w.alloc a).alloc b).alloc c).alloc d) :=
  ((((Below.refl _ _).alloc (Nat.le_refl _) _).alloc (by simp) _).alloc (by simp; omega) _).alloc (by simp; omega) _
theorem wrap_pow (k : Nat) (h : k < 64) : IntKind.u64.wrap ((2 : Int) ^ k) = ((2 ^ k : Nat) : Int) := by
  have h2 : (2 : Nat) ^ k < 2 ^ 64 := Nat.pow_lt_pow_right (by decide) h
  have e : ((2 : Int) ^ k) = ((2 ^ k : Nat) : Int) := by simp
  rw [e]
  exact wraps_u64 _ (Int.natCast_nonneg _) (by exact_mod_cast h2)
theorem pow_set (k n : Nat) (h : k < n) : ((List.range k).map (fun s => 2 ^ s) ++ List.replicate (n - k) 0).set k (2 ^ k) = (List.range (k + 1)).map (fun s => 2 ^ s) ++ List.replicate (n - (k + 1)) 0 := by
  rw [List.set_append_right _ _ (by simp), List.length_map, List.length_range, Nat.sub_self, show n - k = (n - (k + 1)) + 1 from by omega, List.replicate_succ, List.set_cons_zero, List.range_succ, List.map_append]
  simp
structure Begun (x : Mx) (w : World) : Prop where
  mkr : Mk x w
  ok : MxOk x
  c7 : w.cell? ⟨x.mB, 7, none⟩ = some (.slice none 0 0)
  fz : w.frozen? ⟨x.mB, 7, none⟩ = false
  lo : x.B0 ≤ x.mB
  mF : x.gF ≠ x.mB
  mS : x.gS ≠ x.mB
  mN : x.nB ≠ x.mB
theorem BX.done {g : Gr} {A : Option Addr} {c : Nat} {w wr : World} {mB gF nB n : Nat} {sp : Value} (h : BX g A c w wr mB gF nB n (g.ps.length + 1) 0 0 sp) (hx : MxOk ⟨g, A, c, firstEnd g, 0, 0, 0, 0, nSp g, 0⟩) (hn : n = (firstEnd g).length) (hr : RdP wr w.heap.size A g.ps) :
    ∃ gS cs, Begun ⟨g, A, c, firstEnd g, mB, gF, nB, gS, cs, w.heap.size⟩ wr := by
  have hpos : 0 < nSp g := by unfold nSp; show 0 < offS g g.ps.length + (bodyX g g.ps.length).length + 1; omega
  have e0 : offS g (g.ps.length + 1) + 0 = nSp g := rfl
  have es : spotsAt g (g.ps.length + 1) 0 = spots g := by unfold spotsAt spots; simp
  have own := h.own
  rw [e0, es] at own
  rcases own.2 with ⟨_, h0⟩ | ⟨gS, cs, cur, e1, e2, e3, e4, e5, e6, e7⟩
  · omega
  · have bS : Blk wr gS 84 cur := e3
    have bm := h.bm
    rw [e1] at bm
    have c0 := bm.cell 0
    have c1 := bm.cell 1
    have c2 := bm.cell 2
    have c3 := bm.cell 3
    have c4 := bm.cell 4
    have c5 := bm.cell 5
    have c6 := bm.cell 6
    have c7 := bm.cell 7
    simp [mkV] at c0 c1 c2 c3 c4 c5 c6 c7
    rw [hn] at c4
    refine ⟨gS, cs, ⟨⟨c0, c1, c2, c3, c4, c5, c6, hr, h.bf, by have := h.nm; rw [numAt_end] at this; exact this, fun i p d hi => ?_, h.bm.lt, bS.lt, h.bw.size⟩, ⟨hx.ok, hx.ne, hx.c, hx.b, hx.fl, hx.fb, e4⟩, c7, h.bm.frozen 7, h.l1, Ne.symm (h.bm.ne_of_type h.bf (by decide)), Ne.symm (h.bm.ne_of_type bS (by decide)), fun e => map_no_blk h.nm h.bm e.symm⟩⟩
    obtain ⟨h1, h2⟩ := spC_at _ _ _ _ hi
    have hi' : i < nSp g := by rw [← spots_len]; exact (List.getElem?_eq_some_iff.1 hi).1
    have at_ : ∀ j u, j < nSp g * 2 → (spC (spots g))[j]? = some u → wr.cell? ⟨gS, j, none⟩ = some u := fun j u hj hu => by
      rw [← e7, List.getElem?_take, if_pos hj] at hu
      rw [bS.cell j]
      simpa using hu
    exact ⟨at_ _ _ (by omega) h1, at_ _ _ (by omega) h2⟩
set_option maxRecDepth 100000 in
set_option maxHeartbeats 8000000 in
theorem begun_tab (g : Gr) (A : Option Addr) (c : Nat) (w : World) (hr : RdP w w.heap.size A g.ps) (ok : GrOk g) (hc : g.ps.length ≤ c) (hne : ∀ p ∈ g.ps, 0 < p.body.length ∧ p.body.length ≤ 8) :
    Calls Tryd.prog 33 #[grV g A c] w fun e w' => ∃ mB gF nB gS cs, e = .returned (.pointer (some ⟨mB, 0, none⟩)) ∧ Begun ⟨g, A, c, firstEnd g, mB, gF, nB, gS, cs, w.heap.size⟩ w' ∧ Below w.heap.size w w' := by
  have OK := Keep.mk ok
  have HC := Keep.mk hc
  have HNE := Keep.mk hne
  have FS : Keep ((firstEnd g).length = g.S.toNat ∧ (∀ x ∈ firstEnd g, x < 2 ^ 64)) := ⟨by
    have := first_spec (g := g) ⟨ok, fun p hp => (hne p hp).1⟩
    exact ⟨this.1, this.2.1⟩⟩
  obtain ⟨T, S, st, ps⟩ := g
  obtain ⟨t0, t1, s0, s1, st0, st1, n0, n1, pr⟩ := ok
  dsimp only at *
  obtain ⟨t, rfl⟩ := Int.eq_ofNat_of_zero_le (show 0 ≤ T by omega)
  obtain ⟨n, rfl⟩ := Int.eq_ofNat_of_zero_le (show 0 ≤ S by omega)
  obtain ⟨G, hG⟩ : ∃ G : Gr, G = ⟨t, n, st, ps⟩ := ⟨_, rfl⟩
  rw [← hG] at OK FS ⊢
  have HG := Keep.mk hG
  have R0 : Keep (RdP w w.heap.size A ps) := ⟨hr⟩
  have P0 : Keep (∀ p ∈ ps, PrIn n p) := ⟨fun p hp => ⟨by have := pr p hp; omega, by have := pr p hp; omega, fun s hs => by have := (pr p hp).2.2 s hs; omega⟩⟩
  clear hr hne pr n0 st0 st1
  have eV : grV G A c = .agg #[.int .i64 t, .int .i64 n, .int .i64 st, .slice A ps.length c] := by rw [hG]; rfl
  rw [eV]
  clear hG eV
  have hmk := @run_make_row' Tryd.prog 77 86 (.int .u64 0) 8 Tryd.underlying77 info_looks rfl .i64 .i64 n (by omega) (by omega)
  simp only [madeCells_u64s] at hmk
  have hmm := @run_makeMap Tryd.prog
  go_enter Tryd.func33, Tryd.ntmps33
  go_upto_region 1 with fail
  go_cut [3] (fun s3 wx => ∃ mB gF nB : Nat, s3 = .pointer (some ⟨mB, 0, none⟩) ∧ Keep (BW G A c w wx mB gF nB n ((List.range 0).map (fun s => 2 ^ s) ++ List.replicate (n - 0) 0)))
  case first =>
    go_region
    · go_wp2_with fail
      go_meet
      refine ⟨w.heap.size + 1 + 1 + 1, w.heap.size + 1, w.heap.size + 1 + 1, rfl, ⟨?_⟩⟩
      rw [HG.out]
      refine ⟨(below_alloc4 w _ _ _ _).drew, (((Blk.new _ _ _).alloc _).alloc _).alloc _, Blk.newAt (by simp), ((Blk.newAt (by simp)).alloc _).alloc _, ?_, by simp, by omega, by omega, by omega⟩
      have h := ((MapI.made spotE 3 (spots ⟨t, n, st, ps⟩) ((w.alloc (.cells #[.int .i64 t, .int .i64 n, .int .i64 st, .slice A ps.length c] 24)).alloc (.cells (u64s (List.replicate n 0)) 86))).alloc (.cells (mkV ⟨t, n, st, ps⟩ A c (w.heap.size + 1) n (w.heap.size + 1 + 1) (.slice none 0 0)) 82)).drew
      simp only [World.size_alloc] at h
      exact h
    · go_wp2_with fail
      go_meet
      refine ⟨w.heap.size + 1 + 1 + 1, w.heap.size + 1 + 1, w.heap.size + 1, rfl, ⟨?_⟩⟩
      rw [HG.out]
      refine ⟨(below_alloc4 w _ _ _ _).drew, (((Blk.new _ _ _).alloc _).alloc _).alloc _, Blk.newAt (by simp), (Blk.newAt (by simp)).alloc _, ?_, by simp, by omega, by omega, by omega⟩
      have h := (((MapI.made spotE 3 (spots ⟨t, n, st, ps⟩) (w.alloc (.cells #[.int .i64 t, .int .i64 n, .int .i64 st, .slice A ps.length c] 24))).alloc (.cells (u64s (List.replicate n 0)) 86)).alloc (.cells (mkV ⟨t, n, st, ps⟩ A c (w.heap.size + 1 + 1) n (w.heap.size + 1) (.slice none 0 0)) 82)).drew
      simp only [World.size_alloc] at h
      exact h
  case rest =>
    obtain ⟨mB, gF, nB, rfl, U⟩ := hcut
    have g0 := U.out.bg.cell 0
    simp [HG.out] at g0
    clear hmk hmm
    go_wp2
    go_loopg [20] t (fun gg s20 wr => ∃ k : Nat, k ≤ t ∧ t - k ≤ gg ∧ s20 = .int .i64 k ∧ Keep (BW G A c w wr mB gF nB n ((List.range k).map (fun s => 2 ^ s) ++ List.replicate (n - k) 0)))
    case atStart => exact ⟨0, by omega, by omega, rfl, U⟩
    case round =>
      clear U g0
      obtain ⟨k, hk, hg, rfl, U⟩ := hrel
      by_cases hlt : k < t
      · have cc := U.out.bf.cell k
        rw [u64s_gn _ k (by rw [U.out.lf]; omega)] at cc
        have cf := U.out.bf.frozen k
        have c4 := U.out.bm.cell 4
        simp [mkV] at c4
        have i2 : (k : Int) < n := by omega
        have nfm : gF ≠ mB := Ne.symm (U.out.bm.ne_of_type U.out.bf (by decide))
        go_upto_region 5 with fail
        have d4 : wr.drew.cell? ⟨mB, 4, none⟩ = some (.slice (some ⟨gF, 0, none⟩) n n) := c4
        have dc : wr.drew.cell? ⟨gF, k, none⟩ = some _ := cc
        have df : wr.drew.frozen? ⟨gF, k, none⟩ = false := cf
        go_region_held3 (fun w' => w'.cell? ⟨mB, 4, none⟩ = some (.slice (some ⟨gF, 0, none⟩) n n)) (first | exact d4 | exact (World.cell?_setCell_far _ _ _ _ nfm).trans d4) (fail)
        go_wp2
        go_roundg (t - (k + 1))
        case measure => omega
        case rel =>
          refine ⟨k + 1, by omega, by omega, by go_num, ⟨?_⟩⟩
          have := (U.out.drewN 1).setF k (2 ^ k)
          rw [pow_set k n (by omega)] at this
          rw [wrap_pow k (by omega)]
          exact this
      · have ek : k = t := by omega
        subst ek
        have H0 : ((List.range k).map (fun s => 2 ^ s) ++ List.replicate (n - k) 0).length = n ∧ ∀ x ∈ (List.range k).map (fun s => 2 ^ s) ++ List.replicate (n - k) 0, x < 2 ^ 64 :=
          ⟨U.out.lf, first0_lt k (n - k) (by omega)⟩
        have HS : Keep (firstLoop ps (64 * n + 1) ⟨(List.range k).map (fun s => 2 ^ s) ++ List.replicate (n - k) 0, true⟩ = firstLoop ps (64 * n + 1) ⟨first0 ⟨k, n, st, ps⟩, true⟩) := ⟨by simp [first0]⟩
        have HF0 : Keep (lack ((List.range k).map (fun s => 2 ^ s) ++ List.replicate (n - k) 0) < 64 * n + 1) := ⟨by
          have := lack_le ((List.range k).map (fun s => 2 ^ s) ++ List.replicate (n - k) 0)
          rw [H0.1] at this
          omega⟩
        have HB0 := Keep.mk H0.2
        clear H0
        go_wp2
        go_loopg [5] (64 * n + 1) (fun gg s5 wr => ∃ u : Fi, s5 = .bool u.more ∧ Keep (u.more = true → lack u.m < gg) ∧ Keep (∀ x ∈ u.m, x < 2 ^ 64) ∧
          Keep (BW G A c w wr mB gF nB n u.m) ∧ Keep (firstLoop ps gg u = firstLoop ps (64 * n + 1) ⟨first0 ⟨k, n, st, ps⟩, true⟩))
        case atStart => exact ⟨_, rfl, ⟨fun _ => HF0.out⟩, HB0, U, HS⟩
        case round =>
          clear U HS HF0 HB0
          obtain ⟨⟨m, more⟩, rfl, HF, HB, U, HL⟩ := hrel
          dsimp only at *
          cases more with
          | false =>
            replace HL := HL.out
            rw [firstLoop_done _ _ _ rfl] at HL
            have HE : Keep (m = firstEnd G) := ⟨by rw [HG.out]; unfold firstEnd; dsimp only; rw [Int.toNat_natCast, ← HL]⟩
            clear HL
            have X0 := Keep.mk (U.out.spots HE.out)
            have h3 := U.out.bg.cell 3
            simp [HG.out] at h3
            have kp : IntKind.i64.wrap ((ps.length : Int) + 1) = (ps.length : Int) + 1 := by rw [IntKind.wrap_i64]; omega
            have HXO : Keep (MxOk ⟨G, A, c, firstEnd G, 0, 0, 0, 0, nSp G, 0⟩) := ⟨by
              refine ⟨OK.out, ?_, ?_, ?_, ?_, FS.out.2, Nat.le_refl _⟩
              · rw [HG.out]; exact fun p hp => (HNE.out p hp).1
              · rw [HG.out]; exact HC.out
              · rw [HG.out]; exact fun p hp => (HNE.out p hp).2
              · have := FS.out.1
                rw [HG.out] at this ⊢
                exact this⟩
            have HSP : Keep (nSp G ≤ 600 ∧ G.ps.length = ps.length) := ⟨nSp_le HXO.out, by rw [HG.out]⟩
            have KB : Keep (∀ W p d sp, BX G A c w W mB gF nB n p d d sp → p < ps.length + 1 → Calls Tryd.prog 55 #[.pointer (some ⟨mB, 0, none⟩), .int .i64 (p : Nat)] W fun e w' => ∃ A c, e = .returned (.slice A (bodyX G p).length c) ∧ Rd eI 1 w' w'.heap.size A (bodyX G p) ∧ (bodyX G p).length ≤ c ∧ Below W.heap.size W w') := ⟨fun W p d sp hX hp => by
              have c2 := hX.bm.cell 2
              have c3 := hX.bm.cell 3
              simp [mkV] at c2 c3
              refine body_wk G A c mB w.heap.size p (by rw [HSP.out.2]; omega) W c2 c3 ?_ hX.bw.size
              have := R0.out.below hX.bw
              rw [HG.out]
              exact this⟩
            have R1 : Keep (RdP w w.heap.size A ps) := ⟨R0.out⟩
            clear U HE HF HB R0 P0
            go_wp2
            go_loopg [85] (ps.length + 1) (fun gg s85 wr => ∃ (p : Nat) (sp : Value), p ≤ ps.length + 1 ∧ ps.length + 1 - p ≤ gg ∧ s85 = .int .i64 (p : Nat) ∧ Keep (BX G A c w wr mB gF nB n p 0 0 sp))
            case atStart => exact ⟨0, _, Nat.zero_le _, by omega, rfl, X0⟩
            case round =>
              clear X0 h3
              obtain ⟨p, sp, hp, hgp, rfl, X⟩ := hrel
              by_cases hlt : p < ps.length + 1
              rotate_left
              · have ep : p = ps.length + 1 := by omega
                subst ep
                have FIN : Keep (∃ gS cs, Begun ⟨G, A, c, firstEnd G, mB, gF, nB, gS, cs, w.heap.size⟩ wr) := ⟨by
                  have XE := X.out
                  rw [← HSP.out.2] at XE
                  have e1 : n = (firstEnd G).length := by rw [FS.out.1]; rfl
                  refine XE.done HXO.out e1 ?_
                  have := R1.out.below XE.bw
                  rw [HG.out]
                  exact this⟩
                have HB9 := Keep.mk X.out.bw
                clear X
                go_wp2
                go_ret
                obtain ⟨gS, cs, h⟩ := FIN.out
                exact ⟨mB, gF, nB, gS, cs, rfl, h, HB9.out⟩
              · obtain ⟨wo, rfl⟩ : ∃ wo : World, wo = wr := ⟨_, rfl⟩
                have KBp := Keep.mk (KB.out wo p 0 sp X.out hlt)
                have HPL : Keep (p ≤ G.ps.length) := ⟨by rw [HSP.out.2]; omega⟩
                have i1 : (0 : Int) ≤ p := by omega
                have i2 : (p : Int) < (ps.length : Int) + 1 := by omega
                go_wp2_with fail
                refine KBp.out.mono ?_
                rintro e w1 ⟨A1, c1, rfl, Rb1, lc1, hb⟩
                have X1 := Keep.mk (X.out.below hb)
                have hb8 : (bodyX G p).length ≤ 8 := bodyX_le HXO.out p HPL.out
                clear Rb1 lc1 hb X KBp
                obtain ⟨bl, hbl⟩ : ∃ b, b = (bodyX G p).length := ⟨_, rfl⟩
                rw [← hbl] at hb8 ⊢
                have HBL := Keep.mk hbl
                clear hbl
                have kb : IntKind.i64.wrap ((bl : Int) + 1) = (bl : Int) + 1 := by rw [IntKind.wrap_i64]; omega
                go_wp2
                go_loopg [93] (bl + 1) (fun gg s93 wr => ∃ (d : Nat) (sp : Value), d ≤ bl + 1 ∧ bl + 1 - d ≤ gg ∧ s93 = .int .i64 (d : Nat) ∧ Keep (BX G A c w wr mB gF nB n p d d sp))
                case atStart => exact ⟨0, sp, Nat.zero_le _, by omega, rfl, X1⟩
                case round =>
                  clear X1
                  obtain ⟨d, sp, hd, hgd, rfl, X⟩ := hrel
                  by_cases hlt2 : d < bl + 1
                  rotate_left
                  · have ed : d = bl + 1 := by omega
                    subst ed
                    have XN : Keep (BX G A c w wr mB gF nB n (p + 1) 0 0 sp) := ⟨by
                      have := X.out
                      rw [HBL.out] at this
                      exact this.next⟩
                    clear X
                    go_wp2
                    go_roundg (ps.length + 1 - (p + 1))
                    case measure => omega
                    case rel => exact ⟨p + 1, sp, by omega, by omega, by go_num, XN⟩
                  · have j1 : (0 : Int) ≤ d := by omega
                    have j2 : (d : Int) < (bl : Int) + 1 := by omega
                    have hof : offS G p + d < nSp G := off_lt HPL.out (by rw [← HBL.out]; omega)
                    have hof6 : offS G p + d < 600 := by have := HSP.out.1; omega
                    have hmem : (p, d) ∈ spots G := List.mem_of_getElem? (spots_at HPL.out (by rw [← HBL.out]; omega))
                    obtain ⟨w2, hrun, M2, G2⟩ := X.out.nm.drew.store spot_law Tryd.underlying78 Tryd.underlying3 (by rw [spots_len]; have := HSP.out.1; simp only [maxLen]; omega) (p, d) ⟨i64_small (by simp <;> omega) (by simp <;> omega), i64_small (by simp <;> omega) (by simp <;> omega)⟩ hmem ((offS G p + d : Nat) : Int) (i64_small (by omega) (by omega))
                    simp only [spotE, spV] at hrun
                    have X2 := Keep.mk (BX.num (wr := wr.drew) (X.out.below (below_drew1 (Below.refl _ _))) M2 G2)
                    obtain ⟨m, As, cs, es⟩ : ∃ m A c, sp = .slice A m c ∧ m = offS G p + d := by
                      rcases X.out.own.2 with ⟨e, e2⟩ | ⟨g, cap, cur, e, _⟩
                      · exact ⟨0, none, 0, e, e2.symm⟩
                      · exact ⟨_, _, _, e, rfl⟩
                    obtain ⟨rfl, em⟩ := es
                    rw [← em] at hrun
                    have HEM := Keep.mk em
                    have q5 := X.out.bm.cell 5
                    have q6 := X.out.bm.cell 6
                    have r5 := X2.out.bm.cell 5
                    have r6 := X2.out.bm.cell 6
                    simp [mkV] at q5 q6 r5 r6
                    have r5' : w2.cell? ⟨mB, 5, none⟩ = some (.map (some nB)) := r5
                    have q5' : wr.drew.cell? ⟨mB, 5, none⟩ = some (.map (some nB)) := q5
                    have q6' : wr.drew.cell? ⟨mB, 6, none⟩ = some (.slice As m cs) := q6
                    clear X hof hmem M2 G2 em r5 q5 q6
                    go_upto_region 23 with fail
                    go_region_held3 (fun w' => w'.cell? ⟨mB, 5, none⟩ = some (.map (some nB)) ∧ w'.cell? ⟨mB, 6, none⟩ = some (.slice As m cs)) (first | exact ⟨q5', q6'⟩ | exact ⟨r5', r6⟩) (fail)
                    clear q5' q6' hrun
                    go_upto_region 24 with fail
                    obtain ⟨wp, hwp⟩ : ∃ W : World, W = w2.alloc (.cells #[.int .i64 (p : Nat), .int .i64 (d : Nat)] 84) := ⟨_, rfl⟩
                    have X3 := Keep.mk (X2.out.below (w' := wp) (by rw [hwp]; exact (Below.refl _ _).alloc (Nat.le_refl _) _))
                    have BS : Keep (Blk wp w2.heap.size 84 #[.int .i64 (p : Nat), .int .i64 (d : Nat)]) := ⟨by rw [hwp]; exact Blk.new _ _ _⟩
                    have HL3 : Keep (offS G p + d < 100000) := ⟨by omega⟩
                    clear X2
                    go_wp2_with (at_builtin; rw [← hwp]; refine wpl_append_spot (p := p) (d := d) rfl (.tmp 112) (.tmp 116) rfl rfl X3.out.own w2.heap.size rfl BS.out HL3.out X3.out.bw.size ?_)
                    intro v9 w9 ho9 hg9
                    rw [← hwp] at hg9
                    have bm9 := X3.out.keepm hg9
                    have q6 := bm9.cell 6
                    have z6 := bm9.frozen 6
                    simp [mkV] at q6
                    have X9 := Keep.mk (X3.out.app ho9 hg9)
                    obtain ⟨m9, A9, c9, e9⟩ : ∃ m A c, v9 = .slice A m c := by
                      rcases ho9.2 with ⟨e, _⟩ | ⟨g, cap, cur, e, _⟩
                      · exact ⟨0, none, 0, e⟩
                      · exact ⟨_, _, _, e⟩
                    subst e9
                    clear ho9 hg9 bm9 X3 hwp BS HL3
                    go_wp2
                    go_roundg (bl + 1 - (d + 1))
                    case measure => omega
                    case rel => exact ⟨d + 1, _, by omega, by omega, by go_num, X9⟩
          | true =>
            obtain ⟨fu, rfl⟩ : ∃ m, gk = m + 1 := ⟨gk - 1, by have := HF.out rfl; omega⟩
            replace HL := HL.out
            rw [firstLoop_go _ _ _ rfl] at HL
            have HL2 := Keep.mk HL
            have HR := Keep.mk (firstRound_le (n := n) (u := ⟨m, true⟩) (ps := ps) U.out.lf HB.out (fun p hp => (P0.out p hp).2.1))
            clear HL
            have h3 := U.out.bg.cell 3
            simp [HG.out] at h3
            go_wp2
            go_loopg [5, 36] ps.length (fun gg s5 s36 wr => ∃ (j : Nat) (u : Fi), j ≤ ps.length ∧ ps.length - j ≤ gg ∧ s5 = .bool u.more ∧ s36 = .int .i64 j ∧
              Keep (u = (ps.take j).foldl firstIn ⟨m, false⟩) ∧ Keep (∀ x ∈ u.m, x < 2 ^ 64) ∧ Keep (BW G A c w wr mB gF nB n u.m))
            case atStart => exact ⟨0, ⟨m, false⟩, Nat.zero_le _, by omega, rfl, rfl, ⟨by simp⟩, HB, U⟩
            case round =>
              clear U h3 HB
              obtain ⟨j, u, hj, hgj, rfl, rfl, HU, HB, U⟩ := hrel
              by_cases hltj : j < ps.length
              · obtain ⟨ad, Ab, cb, rfl, hb, c0, c1, c2, hlb, hrb⟩ := R0.out j hltj
                replace c0 := cell_below c0 U.out.bw (by rw [add_block]; exact hb)
                replace c1 := cell_below c1 U.out.bw (by show (ad.add _).block < _; rw [add_block]; exact hb)
                replace c2 := cell_below c2 U.out.bw (by show (ad.add _).block < _; rw [add_block]; exact hb)
                have hbl : 0 < ps[j].body.length := by
                  have := HNE.out ps[j] (List.getElem_mem hltj)
                  exact this.1
                have hpi := Keep.mk (P0.out _ (List.getElem_mem hltj))
                have HU2 : Keep ((ps.take (j + 1)).foldl firstIn ⟨m, false⟩ = firstIn u ps[j]) := ⟨by rw [List.take_succ_eq_append_getElem hltj, List.foldl_append, ← HU.out]; rfl⟩
                have HN := Keep.mk (firstIn_le (p := ps[j]) U.out.lf HB.out hpi.out.2.1)
                clear HU
                generalize hx : ps[j] = p at *
                clear hx
                obtain ⟨hd, bd, rt⟩ := p
                dsimp only at *
                obtain ⟨d, rfl⟩ := Int.eq_ofNat_of_zero_le hpi.out.1
                have hdn : (d : Int) < n := by have := hpi.out.2.1; simp at this; omega
                obtain ⟨a2, rfl, hb2, hc2⟩ := hrb.int 0 hbl
                rw [show a2.add 0 = a2 from rfl] at hc2
                have hfx : firstX u.m ⟨d, bd, rt⟩ = (gn u.m d ||| gn u.m (bd[0]'hbl)) := by
                  unfold firstX
                  rw [show bd.getD 0 0 = bd[0]'hbl from by simp [hbl]]
                have HX : Keep (((gn u.m d ||| gn u.m (bd[0]'hbl)) = gn u.m d → firstIn u ⟨d, bd, rt⟩ = u) ∧ (¬ (gn u.m d ||| gn u.m (bd[0]'hbl)) = gn u.m d → firstIn u ⟨d, bd, rt⟩ = ⟨u.m.set d (gn u.m d ||| gn u.m (bd[0]'hbl)), true⟩)) := ⟨by
                  rw [← hfx]
                  exact ⟨fun h => if_pos h, fun h => if_neg h⟩⟩
                clear hfx
                have hy := hpi.out.2.2 _ (List.getElem_mem hbl)
                have hbl1 : (0 : Int) < bd.length := by omega
                replace hc2 := cell_below hc2 U.out.bw hb2
                generalize bd[0]'hbl = y at *
                obtain ⟨y, rfl⟩ := Int.eq_ofNat_of_zero_le hy.1
                have hyn : (y : Int) < n := by have := hy.2; simp at this; omega
                have i1 : (0:Int) ≤ j := by omega
                have i2 : (j : Int) < ps.length := by omega
                have ca := U.out.bf.cell d
                rw [u64s_gn _ d (by rw [U.out.lf]; omega)] at ca
                have cb' := U.out.bf.cell y
                rw [u64s_gn _ y (by rw [U.out.lf]; omega)] at cb'
                have cf := U.out.bf.frozen d
                have c4 := U.out.bm.cell 4
                simp [mkV] at c4
                have nw : gF < wr.heap.size := U.out.bf.lt
                have nm : mB < wr.heap.size := U.out.bm.lt
                have ha2 : a2.block < wr.heap.size := cell_lt hc2
                have hor := or64 (gn u.m d) (gn u.m y) (gn_lt HB.out _) (gn_lt HB.out _)
                clear hbl hy
                have HSET : Keep (u.m.set d (gn u.m d) = u.m) := ⟨by
                  have hd1 : d < u.m.length := by rw [U.out.lf]; omega
                  have e : gn u.m d = u.m[d] := by unfold gn; rw [List.getD_eq_getElem?_getD, Int.toNat_natCast, List.getElem?_eq_getElem hd1]; rfl
                  rw [e, List.set_getElem_self]⟩
                have nfm : gF ≠ mB := Ne.symm (U.out.bm.ne_of_type U.out.bf (by decide))
                generalize gn u.m d = v1 at *
                generalize gn u.m y = v2 at *
                obtain ⟨um, mo⟩ := u
                dsimp only at *
                obtain ⟨v3, hv3⟩ : ∃ v3, v3 = v1 ||| v2 := ⟨_, rfl⟩
                rw [← hv3] at hor HX
                clear hv3
                have HM : Keep (∃ mo' : Bool, mo' = (mo || ((v3 : Int) != (v1 : Int))) ∧ firstIn ⟨um, mo⟩ ⟨d, bd, rt⟩ = ⟨um.set d v3, mo'⟩) := ⟨by
                  by_cases h : v3 = v1
                  · subst h
                    refine ⟨mo, by simp, ?_⟩
                    rw [HX.out.1 rfl, HSET.out]
                  · have e : ((v3 : Int) != (v1 : Int)) = true := by simp; omega
                    refine ⟨true, by rw [e]; simp, ?_⟩
                    rw [HX.out.2 h]⟩
                have FIN : Keep (∀ W, Below wr.heap.size wr W → ∀ mo', mo' = (mo || ((v3 : Int) != (v1 : Int))) → ∃ u : Fi, mo' = u.more ∧ u = (ps.take (j + 1)).foldl firstIn ⟨m, false⟩ ∧ (∀ x ∈ u.m, x < 2 ^ 64) ∧ BW G (some ad) c w (W.setCell ⟨gF, d, none⟩ (.int .u64 (v3 : Nat))) mB gF nB n u.m) := ⟨fun W hW mo' e => by
                  obtain ⟨mo2, e2, e3⟩ := HM.out
                  rw [← e2] at e
                  subst e
                  refine ⟨⟨um.set d v3, mo'⟩, rfl, by rw [HU2.out, e3], ?_, (U.out.below hW).setF d v3⟩
                  have := HN.out.b
                  rw [e3] at this
                  exact this⟩
                clear HU2 HX HM HSET HN HB
                go_upto_region 13 with fail
                obtain ⟨wp, hwp⟩ : ∃ W : World, W = wr.alloc (.cells #[.int .i64 d, .slice (some a2) bd.length cb, .bool rt] 49) := ⟨_, rfl⟩
                have hbp : Below wr.heap.size wr wp := by rw [hwp]; exact (Below.refl _ _).alloc (Nat.le_refl _) _
                have BP : Blk wp wr.heap.size 49 #[.int .i64 d, .slice (some a2) bd.length cb, .bool rt] := by rw [hwp]; exact Blk.new _ _ _
                rw [← hwp]
                clear hwp
                have p0 := BP.cell 0
                have p1 := BP.cell 1
                simp at p0 p1
                replace ca := cell_below ca hbp nw
                replace cb' := cell_below cb' hbp nw
                replace c4 := cell_below c4 hbp nm
                replace hc2 := cell_below hc2 hbp ha2
                replace cf : wp.frozen? ⟨gF, d, none⟩ = false := (World.frozen?_of_block (hbp.block gF nw)).trans cf
                have BP1 := Keep.mk BP
                have HBP := Keep.mk hbp
                have nfp : gF ≠ wr.heap.size := by omega
                generalize wr.heap.size = gP at *
                clear BP hbp c0 c1 c2 hrb hlb hb
                go_quiet (fail)
                go_wp2
                cases mo with
                | true =>
                  go_quiet (fail)
                  go_upto_region 15 with fail
                  go_region_held3 (fun w' => w'.cell? ⟨mB, 4, none⟩ = some (.slice (some ⟨gF, 0, none⟩) n n) ∧ w'.cell? ⟨gP, 0, none⟩ = some (.int .i64 d)) (first | exact ⟨c4, p0⟩ | exact ⟨(World.cell?_setCell_far _ _ _ _ nfm).trans c4, (World.cell?_setCell_far _ _ _ _ nfp).trans p0⟩) (fail)
                  go_wp2
                  go_roundg (ps.length - (j + 1))
                  case measure => omega
                  case rel =>
                    obtain ⟨u, e1, e2, e3, e4⟩ := FIN.out (wp.drewN _) (below_drewN HBP.out _) _ rfl
                    exact ⟨j + 1, u, by omega, by omega, by rw [← e1]; simp, by go_num, ⟨e2⟩, ⟨e3⟩, ⟨e4⟩⟩
                | false =>
                  go_quiet (fail)
                  go_upto_region 15 with fail
                  go_region_held3 (fun w' => w'.cell? ⟨mB, 4, none⟩ = some (.slice (some ⟨gF, 0, none⟩) n n) ∧ w'.cell? ⟨gP, 0, none⟩ = some (.int .i64 d)) (first | exact ⟨c4, p0⟩ | exact ⟨(World.cell?_setCell_far _ _ _ _ nfm).trans c4, (World.cell?_setCell_far _ _ _ _ nfp).trans p0⟩) (fail)
                  go_wp2
                  go_roundg (ps.length - (j + 1))
                  case measure => omega
                  case rel =>
                    obtain ⟨u, e1, e2, e3, e4⟩ := FIN.out (wp.drewN _) (below_drewN HBP.out _) _ rfl
                    exact ⟨j + 1, u, by omega, by omega, by rw [← e1]; simp, by go_num, ⟨e2⟩, ⟨e3⟩, ⟨e4⟩⟩
              · have em : j = ps.length := by omega
                subst em
                go_wp2
                go_roundg fu
                case measure => omega
                case rel =>
                  have hu : u = firstRound ps ⟨m, true⟩ := by rw [HU.out, List.take_length]; rfl
                  refine ⟨u, rfl, ⟨fun h => ?_⟩, HB, U, ⟨by rw [hu]; exact HL2.out⟩⟩
                  have h1 := HR.out.2.2
                  rw [← hu] at h1
                  have h2 := HF.out (by first | rfl | trivial)
                  have h3 := h1 h
                  omega
end Go.Proofs.YtaooejidkeojjaaDoor.H
namespace Go.Proofs.YtaooejidkeojjaaDoor.H
set_option linter.unusedVariables false
set_option linter.unusedSimpArgs false
theorem findS_some {sts : List StD} {c : List Nat} {n : Nat} (h : findS sts c = some n) : n < sts.length ∧ (stAt sts n).core = c := by
  unfold findS at h
  have h1 := List.mem_of_find?_eq_some h
  have h2 := List.find?_some h
  exact ⟨List.mem_range.1 h1, of_decide_eq_true h2⟩
theorem findS_none {sts : List StD} {c : List Nat} (h : findS sts c = none) : ∀ n, n < sts.length → (stAt sts n).core ≠ c := by
  intro n hn e
  unfold findS at h
  have := List.find?_eq_none.1 h n (List.mem_range.2 hn)
  exact this (decide_eq_true e)
theorem growSym_cases {g : Gr} {out : List Nat} {at_ sym : Nat} {u : GrS} (P : GrS → Prop) (h0 : P u) (hf : u.full = false → P { u with full := true })
    (hc : ∀ n, u.full = false → nxCore g out sym ≠ [] → n < u.sts.length → (stAt u.sts n).core = nxCore g out sym → P (growPut at_ sym u n (nxMask g out sym)))
    (hd : u.full = false → nxCore g out sym ≠ [] → (∀ n, n < u.sts.length → (stAt u.sts n).core ≠ nxCore g out sym) → u.sts.length ≠ 512 →
      P (growPut at_ sym ⟨u.sts ++ [⟨nxCore g out sym, nxMask g out sym, List.replicate g.S.toNat (-1)⟩], u.fresh ++ [u.sts.length], false⟩ u.sts.length (nxMask g out sym))) : P (growSym g out at_ u sym) := by
  unfold growSym
  split
  · exact h0
  · rename_i h1
    have h1 : u.full = false := by simpa using h1
    split
    · exact h0
    · rename_i h2
      cases e : findS u.sts (nxCore g out sym) with
      | some n =>
        have e2 : growFind g u (nxCore g out sym) (nxMask g out sym) = (u, n) := by unfold growFind; rw [e]
        rw [e2]
        obtain ⟨a, b⟩ := findS_some e
        rw [if_neg (by rw [h1]; exact Bool.false_ne_true)]
        exact hc n h1 h2 a b
      | none =>
        by_cases h3 : u.sts.length = 512
        · have e2 : growFind g u (nxCore g out sym) (nxMask g out sym) = ({ u with full := true }, 0) := by unfold growFind; rw [e]; simp only [h3, if_true]
          rw [e2, if_pos rfl]
          exact hf h1
        · have e2 : growFind g u (nxCore g out sym) (nxMask g out sym) = (⟨u.sts ++ [⟨nxCore g out sym, nxMask g out sym, List.replicate g.S.toNat (-1)⟩], u.fresh ++ [u.sts.length], false⟩, u.sts.length) := by unfold growFind; rw [e]; simp only [h3, if_false]
          rw [e2, if_neg (by exact Bool.false_ne_true)]
          exact hd h1 h2 (findS_none e) h3
structure GsOk (g : Gr) (u : GrS) : Prop where
  ok : ∀ s ∈ u.sts, StOk g s.core s.mask ∧ 0 < s.core.length ∧ s.led.length = g.S.toNat
  l : u.sts.length ≤ 512
  f : ∀ n ∈ u.fresh, n < u.sts.length
def grMu (g : Gr) (u : GrS) : Nat := 2 * ((512 - u.sts.length) * (64 * nSp g + 1) + lacks u.sts) + u.fresh.length
theorem lacks_cons (s : StD) (l : List StD) : lacks (s :: l) = lack s.mask + lacks l := by simp [lacks]
theorem lacks_add (l : List StD) (s : StD) : lacks (l ++ [s]) = lacks l + lack s.mask := by simp [lacks]
theorem lacks_set (s : StD) : ∀ (l : List StD) (i : Nat), i < l.length → lacks (l.set i s) + lack (stAt l i).mask = lacks l + lack s.mask := by
  intro l
  induction l with
  | nil => intro i h; simp at h
  | cons a l ih =>
    intro i h
    cases i with
    | zero =>
      rw [List.set_cons_zero, lacks_cons, lacks_cons]
      show lack s.mask + lacks l + lack a.mask = _
      omega
    | succ i =>
      rw [List.set_cons_succ, lacks_cons, lacks_cons]
      have e : stAt (a :: l) (i + 1) = stAt l i := rfl
      rw [e]
      have := ih i (by simp at h; exact h)
      omega
theorem set_getD_self (a : List Nat) (k : Nat) : a.set k (a.getD k 0) = a := by
  refine List.ext_getElem? fun i => ?_
  rw [List.getElem?_set]
  split
  · rename_i e
    subst e
    split
    · rename_i h; rw [List.getD_eq_getElem?_getD, List.getElem?_eq_getElem h]; rfl
    · rename_i h; rw [List.getElem?_eq_none (by omega)]
  · rfl
theorem join_lack {a b : List Nat} (hb : ∀ y ∈ b, y < 2 ^ 64) : ∀ k, k ≤ a.length → lack (joinTo a b k) ≤ lack a ∧ (joinB a b k = true → lack (joinTo a b k) < lack a) := by
  intro k
  induction k with
  | zero => intro _; exact ⟨Nat.le_refl _, fun h => absurd h (by simp [joinB])⟩
  | succ k ih =>
    intro hk
    obtain ⟨h1, h2⟩ := ih (by omega)
    have e : (joinTo a b k).getD k 0 = a.getD k 0 := joinTo_later a b k k (Nat.le_refl _)
    rw [joinTo_succ, e, joinB_succ]
    by_cases hc : a.getD k 0 ||| b.getD k 0 = a.getD k 0
    · rw [hc, ← e, set_getD_self]
      refine ⟨h1, fun h => h2 ?_⟩
      rw [Bool.or_eq_true] at h
      rcases h with h | h
      · exact h
      · exact absurd h (by simp)
    · have h3 := lack_set (joinTo a b k) k (a.getD k 0 ||| b.getD k 0) (by rw [joinTo_len]; omega) (by
        rw [e]
        exact lack_or _ _ (getD_lt hb k) hc)
      exact ⟨by omega, fun _ => by omega⟩
theorem setTo_len (l : List StD) (i sym n : Nat) : (setTo l i sym n).length = l.length := by unfold setTo; rw [List.length_set]
theorem setMask_len (l : List StD) (i : Nat) (m : List Nat) : (setMask l i m).length = l.length := by unfold setMask; rw [List.length_set]
theorem stAt_mem {l : List StD} {i : Nat} (h : i < l.length) : stAt l i ∈ l := by
  unfold stAt
  rw [List.getD_eq_getElem?_getD, List.getElem?_eq_getElem h]
  exact List.getElem_mem h
theorem lacks_setTo (l : List StD) {i : Nat} (h : i < l.length) (sym n : Nat) : lacks (setTo l i sym n) = lacks l := by
  have := lacks_set { stAt l i with led := (stAt l i).led.set sym (n : Int) } l i h
  unfold setTo
  have e : lack ({ stAt l i with led := (stAt l i).led.set sym (n : Int) } : StD).mask = lack (stAt l i).mask := rfl
  omega
theorem growPut_sts (at_ sym : Nat) (u : GrS) (n : Nat) (m : List Nat) : (growPut at_ sym u n m).sts.length = u.sts.length := by
  unfold growPut
  rw [setMask_len, setTo_len]
theorem growPut_ok {g : Gr} {at_ sym n : Nat} {u : GrS} {m : List Nat} (h : GsOk g u) (hat : at_ < u.sts.length) (hn : n < u.sts.length) (hl : m.length = (stAt u.sts n).mask.length) (hb : ∀ y ∈ m, y < 2 ^ 64) :
    GsOk g (growPut at_ sym u n m) ∧ grMu g (growPut at_ sym u n m) ≤ grMu g u := by
  have len := growPut_sts at_ sym u n m
  have mu : lacks (growPut at_ sym u n m).sts + lack (stAt u.sts n).mask = lacks u.sts + lack (joinM (stAt u.sts n).mask m) := by
    unfold growPut setMask
    dsimp only
    have := lacks_set { stAt (setTo u.sts at_ sym n) n with mask := joinM (stAt u.sts n).mask m } (setTo u.sts at_ sym n) n (by rw [setTo_len]; exact hn)
    rw [lacks_setTo _ hat, setTo_mask _ hat] at this
    exact this
  have jl := join_lack hb m.length (by omega : m.length ≤ (stAt u.sts n).mask.length)
  refine ⟨⟨fun s hs => ?_, by rw [len]; exact h.l, fun k hk => ?_⟩, ?_⟩
  · have hto : ∀ s ∈ setTo u.sts at_ sym n, StOk g s.core s.mask ∧ 0 < s.core.length ∧ s.led.length = g.S.toNat := fun s hs => by
      unfold setTo at hs
      rcases List.mem_or_eq_of_mem_set hs with h1 | rfl
      · exact h.ok s h1
      · obtain ⟨a, b, c⟩ := h.ok _ (stAt_mem hat)
        exact ⟨a, b, by rw [List.length_set]; exact c⟩
    unfold growPut setMask at hs
    dsimp only at hs
    rcases List.mem_or_eq_of_mem_set hs with h1 | rfl
    · exact hto s h1
    · obtain ⟨a, b, c⟩ := hto _ (stAt_mem (l := setTo u.sts at_ sym n) (i := n) (by rw [setTo_len]; exact hn))
      rw [setTo_mask _ hat] at a
      exact ⟨stOk_join a hl hb, b, c⟩
  · rw [len]
    unfold growPut at hk
    dsimp only at hk
    split at hk
    · rcases List.mem_append.1 hk with hk | hk
      · exact h.f k hk
      · rw [List.mem_singleton.1 hk]; exact hn
    · exact h.f k hk
  · unfold grMu
    rw [len]
    have hfr : (growPut at_ sym u n m).fresh.length = if joinB (stAt u.sts n).mask m m.length = true then u.fresh.length + 1 else u.fresh.length := by
      unfold growPut
      dsimp only
      split <;> simp
    rw [hfr]
    unfold joinM at mu
    split
    · rename_i hj
      have := jl.2 hj
      omega
    · have := jl.1
      omega
theorem growSym_ok {g : Gr} {out : List Nat} {at_ : Nat} (sym : Nat) {u : GrS} (ho : ∀ y ∈ out, y < 2 ^ 64) (h : GsOk g u) (hat : at_ < u.sts.length) :
    GsOk g (growSym g out at_ u sym) ∧ grMu g (growSym g out at_ u sym) ≤ grMu g u ∧ u.sts.length ≤ (growSym g out at_ u sym).sts.length := by
  have nx := nx_ok (g := g) ho sym
  refine growSym_cases (fun v => GsOk g v ∧ grMu g v ≤ grMu g u ∧ u.sts.length ≤ v.sts.length) ⟨h, Nat.le_refl _, Nat.le_refl _⟩ (fun _ => ⟨⟨h.ok, h.l, h.f⟩, Nat.le_refl _, Nat.le_refl _⟩) (fun n _ hne hn hc => ?_) (fun _ hne hno h5 => ?_)
  · obtain ⟨a, b⟩ := growPut_ok (sym := sym) h hat hn (m := nxMask g out sym) (by rw [(h.ok _ (stAt_mem hn)).1.l, hc, nx_len]) nx.b
    exact ⟨a, b, by rw [growPut_sts]; exact Nat.le_refl _⟩
  · have h1 : GsOk g ⟨u.sts ++ [⟨nxCore g out sym, nxMask g out sym, List.replicate g.S.toNat (-1)⟩], u.fresh ++ [u.sts.length], false⟩ := by
      refine ⟨fun s hs => ?_, ?_, fun k hk => ?_⟩
      · rcases List.mem_append.1 hs with hs | hs
        · exact h.ok s hs
        · rw [List.mem_singleton.1 hs]
          exact ⟨nx, List.length_pos_iff.2 hne, List.length_replicate⟩
      · have := h.l
        show (u.sts ++ [_]).length ≤ 512
        rw [List.length_append]; simp only [List.length_singleton]; omega
      · show k < (u.sts ++ [_]).length
        rw [List.length_append]; simp only [List.length_singleton]
        rcases List.mem_append.1 hk with hk | hk
        · have := h.f k hk; omega
        · rw [List.mem_singleton.1 hk]; omega
    have e1 : stAt (u.sts ++ [⟨nxCore g out sym, nxMask g out sym, List.replicate g.S.toNat (-1)⟩]) u.sts.length = ⟨nxCore g out sym, nxMask g out sym, List.replicate g.S.toNat (-1)⟩ := by
      unfold stAt
      rw [List.getD_eq_getElem?_getD]; simp
    obtain ⟨a, b⟩ := growPut_ok (at_ := at_) (sym := sym) (n := u.sts.length) h1 (by show at_ < (u.sts ++ [_]).length; rw [List.length_append]; omega) (by show _ < (u.sts ++ [_]).length; simp) (m := nxMask g out sym) (by show _ = (stAt (u.sts ++ [_]) u.sts.length).mask.length; rw [e1]) nx.b
    obtain ⟨S1, hS1⟩ : ∃ S1, S1 = u.sts ++ [⟨nxCore g out sym, nxMask g out sym, List.replicate g.S.toNat (-1)⟩] := ⟨_, rfl⟩
    have hl1 : S1.length = u.sts.length + 1 := by rw [hS1, List.length_append]; rfl
    have hl2 : lacks S1 = lacks u.sts + lack (nxMask g out sym) := by rw [hS1, lacks_add]
    rw [← hS1] at a b ⊢
    have b2 : grMu g ⟨S1, u.fresh ++ [u.sts.length], false⟩ ≤ grMu g u := ?_
    · exact ⟨a, Nat.le_trans b b2, by rw [growPut_sts]; show _ ≤ S1.length; omega⟩
    unfold grMu
    dsimp only
    rw [hl1, List.length_append, hl2, List.length_singleton]
    have hl : lack (nxMask g out sym) ≤ 64 * nSp g := by
      have h1 := lack_le (nxMask g out sym)
      have h2 : (nxMask g out sym).length ≤ nSp g := by unfold nxMask; rw [List.length_map]; exact nxSel_len g out sym (nSp g)
      omega
    have h5' := h.l
    obtain ⟨r, hr⟩ : ∃ r, 512 - u.sts.length = r + 1 := ⟨512 - u.sts.length - 1, by omega⟩
    rw [show 512 - (u.sts.length + 1) = r from by omega, hr]
    clear a b h1 e1 hS1 nx h
    replace hl : lack (nxMask g out sym) + 1 ≤ 64 * nSp g + 1 := by omega
    generalize (64 * nSp g + 1) = K at *
    have e9 : (r + 1) * K = r * K + K := by rw [Nat.add_mul, Nat.one_mul]
    rw [e9]
    generalize r * K = rK at *
    omega
theorem growTo_ok {g : Gr} {F : List Nat} (ok : GrOk g) (hF : ∀ x ∈ F, x < 2 ^ 64) {at_ : Nat} {sts : List StD} (h : GsOk g ⟨sts, [], false⟩) (hat : at_ < sts.length) :
    ∀ k, GsOk g (growTo g F at_ sts k) ∧ grMu g (growTo g F at_ sts k) ≤ grMu g ⟨sts, [], false⟩ ∧ sts.length ≤ (growTo g F at_ sts k).sts.length := by
  intro k
  induction k with
  | zero => exact ⟨h, Nat.le_refl _, Nat.le_refl _⟩
  | succ k ih =>
    obtain ⟨a, b, c⟩ := ih
    rw [growTo_succ]
    obtain ⟨a2, b2, c2⟩ := growSym_ok k (close_spec ok hF (h.ok _ (stAt_mem hat)).1).2.1 a (at_ := at_) (by omega)
    exact ⟨a2, Nat.le_trans b2 b, Nat.le_trans c c2⟩
structure OfOk (g : Gr) (u : OfS) : Prop where
  ok : ∀ s ∈ u.sts, StOk g s.core s.mask ∧ 0 < s.core.length ∧ s.led.length = g.S.toNat
  l : u.sts.length ≤ 512
  t : ∀ n ∈ u.todo, n < u.sts.length
theorem ofStep_ok {g : Gr} {F : List Nat} (ok : GrOk g) (hF : ∀ x ∈ F, x < 2 ^ 64) {u : OfS} (h : OfOk g u) (hne : u.todo ≠ []) : OfOk g (ofStep g F u) ∧ ofMu g (ofStep g F u) < ofMu g u ∧ u.sts.length ≤ (ofStep g F u).sts.length := by
  obtain ⟨sts, todo, full⟩ := u
  cases todo with
  | nil => exact absurd rfl hne
  | cons a rest =>
    have hat : a < sts.length := h.t a List.mem_cons_self
    obtain ⟨h1, h2, h3⟩ := growTo_ok ok hF (sts := sts) (at_ := a) ⟨h.ok, h.l, fun n hn => absurd hn (by simp)⟩ hat g.S.toNat
    have e : ofStep g F ⟨sts, a :: rest, full⟩ = ⟨(growTo g F a sts g.S.toNat).sts, rest ++ (growTo g F a sts g.S.toNat).fresh, (growTo g F a sts g.S.toNat).full⟩ := rfl
    rw [e]
    refine ⟨⟨h1.ok, h1.l, fun n hn => ?_⟩, ?_, h3⟩
    · rcases List.mem_append.1 hn with hn | hn
      · have h4 : n < sts.length := h.t n (List.mem_cons_of_mem _ hn)
        exact Nat.lt_of_lt_of_le h4 h3
      · exact h1.f n hn
    · unfold ofMu
      unfold grMu at h2
      dsimp only at h2 ⊢
      rw [List.length_append, List.length_cons]
      simp only [List.length_nil] at h2
      omega
theorem ofRun_done {g : Gr} {F : List Nat} {u : OfS} (h : u.full = true ∨ u.todo = []) : ∀ k, ofRun g F k u = u := by
  intro k
  cases k with
  | zero => rfl
  | succ k => unfold ofRun; rw [if_pos h]
theorem ofRun_go {g : Gr} {F : List Nat} {u : OfS} (h1 : u.full = false) (h2 : u.todo ≠ []) (k : Nat) : ofRun g F (k + 1) u = ofRun g F k (ofStep g F u) := by
  rw [ofRun, if_neg]
  rintro (h | h)
  · rw [h1] at h; cases h
  · exact h2 h
theorem start0_ok {g : Gr} (ok : GrOk g) : OfOk g (start0 g) := by
  have h32 : g.T.toNat < 64 := by have := ok.t1; omega
  refine ⟨fun s hs => ?_, by show 1 ≤ 512; omega, fun n hn => ?_⟩
  · have : s = ⟨[offS g g.ps.length], [2 ^ g.T.toNat], List.replicate g.S.toNat (-1)⟩ := List.mem_singleton.1 hs
    subst this
    refine ⟨⟨by simp, fun n hn => ?_, rfl, fun x hx => ?_, fun x hx => ?_⟩, by show 0 < 1; omega, List.length_replicate⟩
    · rw [List.mem_singleton.1 hn]
      have := off_lt (g := g) (p := g.ps.length) (d := 0) (Nat.le_refl _) (Nat.zero_le _)
      omega
    · rw [List.mem_singleton.1 hx]
      exact Nat.pow_lt_pow_right (by decide) h32
    · rw [List.mem_singleton.1 hx]
      exact Nat.ne_of_gt (Nat.two_pow_pos _)
  · have : n = 0 := List.mem_singleton.1 hn
    rw [this]; show 0 < 1; omega
theorem ofRun_ind {g : Gr} {F : List Nat} (ok : GrOk g) (hF : ∀ x ∈ F, x < 2 ^ 64) (P : OfS → Prop) (hP : ∀ u, OfOk g u → P u → u.full = false → u.todo ≠ [] → P (ofStep g F u)) : ∀ (k : Nat) (u : OfS), ofMu g u ≤ k → OfOk g u → P u → OfOk g (ofRun g F k u) ∧ P (ofRun g F k u) ∧ ((ofRun g F k u).full = true ∨ (ofRun g F k u).todo = []) := by
  intro k
  induction k with
  | zero =>
    intro u hm hu hp
    have e : u.todo = [] := by unfold ofMu at hm; exact List.length_eq_zero_iff.1 (by omega)
    exact ⟨hu, hp, .inr e⟩
  | succ k ih =>
    intro u hm hu hp
    by_cases hc : u.full = true ∨ u.todo = []
    · rw [ofRun_done hc]
      exact ⟨hu, hp, hc⟩
    · have h1 : u.full = false := by cases e : u.full <;> simp_all
      have h2 : u.todo ≠ [] := fun e => hc (.inr e)
      rw [ofRun_go h1 h2]
      obtain ⟨a, b, _⟩ := ofStep_ok ok hF hu h2
      exact ih _ (by omega) a (hP u hu hp h1 h2)
end Go.Proofs.YtaooejidkeojjaaDoor.H
namespace Go.Proofs.YtaooejidkeojjaaDoor.H
open Go.RowKit
set_option linter.unusedVariables false
set_option linter.unusedSimpArgs false
set_option maxRecDepth 100000
def brTab : List Int := [0, 1, 56, 2, 57, 49, 28, 3, 61, 58, 42, 50, 38, 29, 17, 4, 62, 47, 59, 36, 45, 43, 51, 22, 53, 39, 33, 30, 24, 18, 12, 5, 63, 55, 48, 27, 60, 41, 37, 16, 46, 35, 44, 21, 52, 32, 23, 11, 54, 26, 40, 15, 34, 20, 31, 10, 25, 14, 19, 9, 13, 8, 7, 6]
def Laid (w : World) : Prop := Lib.TabIs Tryd.prog w "math/bits.deBruijn64tab" .u8 brTab
theorem br_global : Tryd.prog.globalNamed "math/bits.deBruijn64tab" = some 0 := by kernel_rfl
theorem Laid.cell {w : World} (h : Laid w) (i : Nat) (hi : i < 64) : w.cell? ⟨0, i, none⟩ = some (.int .u8 (brTab.getD i 0)) := Lib.TabIs.cell h br_global i hi
theorem Laid.pos {w : World} (h : Laid w) : 0 < w.heap.size := cell_lt (h.cell 0 (by decide))
theorem Laid.below {w w' : World} (h : Laid w) (hb : Below w.heap.size w w') : Laid w' := by
  have hp := h.pos
  unfold Laid Lib.TabIs World.var? at *
  rw [br_global] at *
  simp only [Option.bind_some] at *
  rw [hb.block 0 hp]
  exact h
theorem Laid.low {B : Nat} {w w' : World} (h : Laid w) (hb : Below B w w') (hB : 0 < B) : Laid w' := by
  unfold Laid Lib.TabIs World.var? at *
  rw [br_global] at *
  simp only [Option.bind_some] at *
  rw [hb.block 0 hB]
  exact h
theorem low_split : ∀ (x : Nat), x ≠ 0 → ∃ j m, x = 2 ^ j * (2 * m + 1) := by
  intro x
  induction x using Nat.strongRecOn with
  | _ x ih =>
  intro hx
  by_cases h : x % 2 = 1
  · exact ⟨0, x / 2, by omega⟩
  · obtain ⟨j, m, e⟩ := ih (x / 2) (by omega) (by omega)
    refine ⟨j + 1, m, ?_⟩
    have : x = 2 * (x / 2) := by omega
    rw [this, e, Nat.pow_succ, Nat.mul_comm (2 ^ j) 2, Nat.mul_assoc]
theorem bit_odd (m : Nat) : (2 * m + 1).testBit 0 = true := by rw [Nat.testBit_zero]; simp
theorem bit_split (j m i : Nat) : (2 ^ j * (2 * m + 1)).testBit i = (decide (j ≤ i) && (2 * m + 1).testBit (i - j)) := by
  rw [Nat.testBit_two_pow_mul]
theorem bit_succ (m i : Nat) : (2 * m + 1).testBit (i + 1) = m.testBit i := by
  rw [Nat.testBit_succ]
  congr 1
  omega
theorem bit_succ0 (m i : Nat) : (2 * m).testBit (i + 1) = m.testBit i := by
  rw [Nat.testBit_succ]
  congr 1
  omega
theorem and_odd (a b : Nat) (h : a &&& b = 0) : (2 * a + 1) &&& (2 * b + 1) = 1 := by
  apply Nat.eq_of_testBit_eq
  intro i
  rw [Nat.testBit_and]
  cases i with
  | zero => rw [bit_odd, bit_odd]; rfl
  | succ i =>
    rw [bit_succ, bit_succ, ← Nat.testBit_and, h]
    simp [Nat.testBit_succ]
theorem and_compl (k m : Nat) (h : m < 2 ^ k) : m &&& (2 ^ k - (m + 1)) = 0 := by
  apply Nat.eq_of_testBit_eq
  intro i
  rw [Nat.testBit_and, Nat.testBit_two_pow_sub_succ h]
  cases m.testBit i <;> simp
theorem low_and {j m : Nat} (h : 2 ^ j * (2 * m + 1) < 2 ^ 64) : j < 64 ∧ (2 ^ j * (2 * m + 1)) &&& (2 ^ 64 - 2 ^ j * (2 * m + 1)) = 2 ^ j := by
  have hj : j < 64 := by
    apply Nat.lt_of_not_le
    intro hc
    have h1 : 2 ^ 64 ≤ 2 ^ j := Nat.pow_le_pow_right (by decide) hc
    have h2 : 2 ^ j * 1 ≤ 2 ^ j * (2 * m + 1) := Nat.mul_le_mul_left _ (by omega)
    omega
  refine ⟨hj, ?_⟩
  obtain ⟨k, hk⟩ : ∃ k, 64 = j + (k + 1) := ⟨63 - j, by omega⟩
  have hp : 2 ^ 64 = 2 ^ j * (2 * 2 ^ k) := by rw [hk, Nat.pow_add, Nat.pow_succ, Nat.mul_comm 2]
  rw [hp] at h ⊢
  have hm : 2 * m + 1 < 2 * 2 ^ k := Nat.lt_of_mul_lt_mul_left h
  have hm' : m < 2 ^ k := by omega
  have e : 2 ^ j * (2 * 2 ^ k) - 2 ^ j * (2 * m + 1) = 2 ^ j * (2 * (2 ^ k - (m + 1)) + 1) := by
    rw [← Nat.mul_sub]
    congr 1
    omega
  rw [e]
  have h1 := and_odd m (2 ^ k - (m + 1)) (and_compl k m hm')
  apply Nat.eq_of_testBit_eq
  intro i
  rw [Nat.testBit_and, bit_split, bit_split, Nat.testBit_two_pow]
  by_cases hi : j ≤ i
  · have h2 : ((2 * m + 1) &&& (2 * (2 ^ k - (m + 1)) + 1)).testBit (i - j) = (1 : Nat).testBit (i - j) := by rw [h1]
    rw [Nat.testBit_and] at h2
    simp only [hi, decide_true, Bool.true_and]
    rw [h2]
    by_cases e : j = i
    · subst e; simp
    · have : i - j = (i - j - 1) + 1 := by omega
      rw [this]
      simp [Nat.testBit_succ, e]
  · have : ¬ j = i := by omega
    simp [hi, this]
theorem low_off (j m i : Nat) : ((2 ^ j * (2 * m + 1)) &&& (2 ^ j * (2 * m + 1) - 1)).testBit i = ((2 ^ j * (2 * m + 1)).testBit i && decide (j < i)) := by
  have hpos : 0 < 2 ^ j := Nat.two_pow_pos j
  have e : 2 ^ j * (2 * m + 1) - 1 = 2 ^ j * (2 * m) + (2 ^ j - 1) := by
    rw [Nat.mul_add, Nat.mul_one]; omega
  rw [Nat.testBit_and, e, Nat.testBit_two_pow_mul_add _ (by omega), bit_split]
  by_cases h : i < j
  · have h1 : ¬ j ≤ i := by omega
    simp [h1]
  · have h1 : j ≤ i := by omega
    simp only [h, if_false, h1, decide_true, Bool.true_and]
    by_cases e2 : i = j
    · subst e2
      simp
    · have h3 : j < i := by omega
      have h4 : i - j = (i - j - 1) + 1 := by omega
      rw [h4, bit_succ, bit_succ0]
      simp [h3]
theorem low_bit (j m : Nat) : (2 ^ j * (2 * m + 1)).testBit j = true := by rw [bit_split]; simp [bit_odd]
theorem low_none {j m i : Nat} (h : i < j) : (2 ^ j * (2 * m + 1)).testBit i = false := by
  rw [bit_split]
  have : ¬ j ≤ i := by omega
  simp [this]
theorem br_all : ∀ j : Nat, j < 64 → brTab.getD ((2 ^ j * 285870213051353865 % 2 ^ 64) / 2 ^ 58) 0 = (j : Int) ∧ (2 ^ j * 285870213051353865 % 2 ^ 64) / 2 ^ 58 < 64 := by decide +kernel
theorem neg_u64 (x : Nat) (h0 : x ≠ 0) (h : x < 18446744073709551616) : IntKind.u64.wrap (-(x : Int)) = ((18446744073709551616 - x : Nat) : Int) := by
  simp only [IntKind.wrap, IntKind.bits, IntKind.signed]
  have e : (2 : Int) ^ 64 = 18446744073709551616 := by decide
  simp
  omega
theorem mul_u64 (p : Nat) : IntKind.u64.wrap ((p : Int) * 285870213051353865) = ((p * 285870213051353865 % 18446744073709551616 : Nat) : Int) := by
  simp [IntKind.wrap, IntKind.bits, IntKind.signed]
theorem shr_58 (y : Nat) : ((y : Int) / 288230376151711744) = ((y / 288230376151711744 : Nat) : Int) := by simp
set_option maxHeartbeats 4000000 in
theorem tz_walk (x nx p y q j : Nat) (x0 : ¬ (x : Int) = 0) (neg : IntKind.u64.wrap (-(x : Int)) = (nx : Nat)) (an : bits .and .u64 (x : Int) (nx : Int) = (p : Nat)) (mu : IntKind.u64.wrap ((p : Int) * 285870213051353865) = (y : Nat)) (sh : ((y : Int) / 288230376151711744) = (q : Nat)) (hq : q < 64) (hj : j < 64)
    (w : World) (c : w.cell? ⟨0, q, none⟩ = some (.int .u8 (j : Nat))) : Calls Tryd.prog 64 #[.int .u64 (x : Nat)] w fun e w' => e = .returned (.int .i64 (j : Nat)) ∧ w' = w := by
  go_enter Tryd.func64, Tryd.ntmps64
  go_wp2
  go_ret
  exact ⟨rfl, rfl⟩
theorem tz_any (j m : Nat) (h : 2 ^ j * (2 * m + 1) < 2 ^ 64) (w : World) (hl : Laid w) :
    Calls Tryd.prog 64 #[.int .u64 ((2 ^ j * (2 * m + 1) : Nat) : Int)] w fun e w' => e = .returned (.int .i64 (j : Nat)) ∧ w' = w := by
  obtain ⟨hj, ha⟩ := low_and h
  have hne : 2 ^ j * (2 * m + 1) ≠ 0 := Nat.ne_of_gt (Nat.mul_pos (Nat.two_pow_pos j) (Nat.succ_pos _))
  obtain ⟨hb1, hb2⟩ := br_all j hj
  have c := hl.cell _ hb2
  rw [hb1] at c
  have an := and64 (2 ^ j * (2 * m + 1)) (2 ^ 64 - 2 ^ j * (2 * m + 1)) h (Nat.sub_lt (by decide) (Nat.pos_of_ne_zero hne))
  rw [ha] at an
  exact tz_walk _ _ _ _ _ j (fun e => hne (by exact_mod_cast e)) (neg_u64 _ hne h) an (mul_u64 _) (shr_58 _) hb2 hj w c
end Go.Proofs.YtaooejidkeojjaaDoor.H
