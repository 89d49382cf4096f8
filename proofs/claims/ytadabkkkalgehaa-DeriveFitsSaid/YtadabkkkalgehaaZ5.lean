import Derived.Test.YtadabkkkalgehaaZ1
import Derived.Test.YtadabkkkalgehaaZ4
import Derived.Deep.RegionHeld3
import Derived.Test.YtadabkkkalgehaaProg
import Derived.Below
import Derived.Deep.Draws
import Derived.Deep.AppendLies
import Derived.Maps.AppendAt
import Derived.OwnWalk
import Derived.Laws.BytesArg
import Derived.Laws.MakeOwn
import Derived.Laws.OwnMore
import Derived.Deep.OwnRows
import Derived.Tactics
import Derived.Lib.ConvBytes
import Derived.Laws.Slices
import Derived.WalkKit
import Derived.KernelRfl
import Derived.RowKit3
import Derived.Deep.LoopGhost
import Derived.Deep.QuietTactic
import Derived.BigQuiet
import Derived.WideLaws
import Derived.Deep.DeepCutAuto
import Derived.Deep.CutBlock
import Derived.Laws.Rows
import Derived.Lib.AppendStr
import Derived.ArgAppend
import Derived.Laws.IdiomCopy
import Derived.OrdersHeld
import Derived.Laws.BitsLemmas
import Derived.RowKit
import Derived.Laws.EntriesVeiled
import Derived.Test.YtadabkkkalgehaaWWords
import Derived.Test.YtadabkkkalgehaaZ3
namespace Go.Proofs.Ytadabkkkalgehaa.H
set_option linter.unusedVariables false
set_option linter.unusedSimpArgs false
def BLe (m m' : List Bool) : Prop := m'.length = m.length ∧ ∀ i : Nat, m[i]? = some true → m'[i]? = some true
theorem BLe.refl (m : List Bool) : BLe m m := ⟨rfl, fun _ h => h⟩
theorem BLe.trans {a b c : List Bool} (h : BLe a b) (k : BLe b c) : BLe a c := ⟨k.1.trans h.1, fun i hi => k.2 i (h.2 i hi)⟩
theorem BLe.antisymm {a b : List Bool} (h : BLe a b) (k : BLe b a) : a = b := by
  refine List.ext_getElem? fun i => ?_
  by_cases hi : i < a.length
  · have hj : i < b.length := by rw [h.1]; exact hi
    rw [List.getElem?_eq_getElem hi, List.getElem?_eq_getElem hj]
    cases ha : a[i] with
    | true =>
      have := h.2 i (by rw [List.getElem?_eq_getElem hi, ha])
      rw [List.getElem?_eq_getElem hj] at this
      exact this.symm
    | false =>
      cases hb : b[i] with
      | false => rfl
      | true =>
        have := k.2 i (by rw [List.getElem?_eq_getElem hj, hb])
        rw [List.getElem?_eq_getElem hi, ha] at this
        cases this
  · rw [List.getElem?_eq_none (by omega), List.getElem?_eq_none (by rw [h.1]; omega)]
theorem BLe.count : ∀ {m m' : List Bool}, BLe m m' → m'.count false ≤ m.count false ∧ (m'.count false = m.count false → m' = m) := by
  intro m
  induction m with
  | nil =>
    intro m' h
    have : m' = [] := List.eq_nil_of_length_eq_zero (by simpa using h.1)
    subst this
    exact ⟨Nat.le_refl _, fun _ => rfl⟩
  | cons x xs ih =>
    intro m' h
    cases m' with
    | nil => have := h.1; simp at this
    | cons y ys =>
      have ht : BLe xs ys := ⟨by have := h.1; simpa using this, fun i hi => by have := h.2 (i + 1) (by simpa using hi); simpa using this⟩
      obtain ⟨h1, h2⟩ := ih ht
      have hx := h.2 0
      cases x with
      | true =>
        have : y = true := by simpa using hx
        subst this
        refine ⟨by simpa using h1, fun e => ?_⟩
        rw [h2 (by simpa using e)]
      | false =>
        cases y with
        | false =>
          refine ⟨by simpa using h1, fun e => ?_⟩
          rw [h2 (by simpa using e)]
        | true =>
          refine ⟨by simp; omega, fun e => ?_⟩
          simp at e
          omega
theorem BLe.set {m : List Bool} {j : Nat} {b : Bool} (h : m[j]? = some true → b = true) : BLe m (m.set j b) := by
  refine ⟨by simp, fun i hi => ?_⟩
  rw [List.getElem?_set]
  by_cases e : j = i
  · subst e
    rw [if_pos rfl]
    have hlt : j < m.length := (List.getElem?_eq_some_iff.1 hi).1
    rw [if_pos hlt, h hi]
  · rw [if_neg e]; exact hi
theorem gb_some {m : List Bool} {s : Int} (h : s.toNat < m.length) : (gb m s = true ↔ m[s.toNat]? = some true) := by
  unfold gb
  rw [List.getD_eq_getElem?_getD, List.getElem?_eq_getElem h]
  simp
def its (R : List Bool → List Bool) : Nat → List Bool → List Bool
  | 0, m => m
  | k + 1, m => its R k (R m)
theorem its_still {R : List Bool → List Bool} {m : List Bool} (h : R m = m) : ∀ k, its R k m = m := by
  intro k
  induction k with
  | zero => rfl
  | succ k ih => unfold its; rw [h, ih]
theorem its_fix {R : List Bool → List Bool} {n : Nat} (hR : ∀ m : List Bool, m.length = n → BLe m (R m)) : ∀ (k : Nat) (m : List Bool), m.length = n → m.count false ≤ k → R (its R k m) = its R k m := by
  intro k
  induction k with
  | zero =>
    intro m hm hk
    have h := hR m hm
    exact (h.count).2 (by have := h.count.1; omega)
  | succ k ih =>
    intro m hm hk
    have h := hR m hm
    by_cases e : R m = m
    · have h1 : its R (k + 1) m = m := its_still e (k + 1)
      rw [h1, e]
    · refine ih (R m) (by rw [h.1]; exact hm) ?_
      have h1 := h.count.1
      have h2 : (R m).count false ≠ m.count false := fun e' => e (h.count.2 e')
      omega
theorem its_ind {R : List Bool → List Bool} {P : List Bool → Prop} (hR : ∀ m, P m → P (R m)) : ∀ k m, P m → P (its R k m) := by
  intro k
  induction k with
  | zero => intro m h; exact h
  | succ k ih => intro m h; exact ih _ (hR m h)
theorem foldl_le {α : Type} {f : List Bool → α → List Bool} {n : Nat} (l : List α) (hf : ∀ u x, x ∈ l → u.length = n → BLe u (f u x)) : ∀ m : List Bool, m.length = n → BLe m (l.foldl f m) := by
  induction l with
  | nil => intro m _; exact BLe.refl m
  | cons x l ih =>
    intro m hm
    have h := hf m x (by simp) hm
    exact h.trans (ih (fun u y hy hu => hf u y (by simp [hy]) hu) _ (by rw [h.1]; exact hm))
theorem foldl_fix {α : Type} {f : List Bool → α → List Bool} {n : Nat} (l : List α) (hf : ∀ u x, x ∈ l → u.length = n → BLe u (f u x)) : ∀ m : List Bool, m.length = n → l.foldl f m = m → ∀ x ∈ l, f m x = m := by
  induction l with
  | nil => intro m _ _ x hx; cases hx
  | cons x l ih =>
    intro m hm e y hy
    have h := hf m x (by simp) hm
    have h2 := foldl_le l (fun u y hy hu => hf u y (by simp [hy]) hu) (f m x) (by rw [h.1]; exact hm)
    rw [List.foldl_cons] at e
    have e1 : f m x = m := by
      rw [e] at h2
      exact h2.antisymm h
    rcases List.mem_cons.1 hy with rfl | hy
    · exact e1
    · rw [e1] at e
      exact ih (fun u y hy hu => hf u y (by simp [hy]) hu) m hm e y hy
theorem foldl_ind {α β : Type} {f : β → α → β} {P : β → Prop} (l : List α) (hf : ∀ u x, x ∈ l → P u → P (f u x)) : ∀ m, P m → P (l.foldl f m) := by
  induction l with
  | nil => intro m h; exact h
  | cons x l ih => intro m h; exact ih (fun u y hy hu => hf u y (by simp [hy]) hu) _ (hf m x (by simp) h)
def cIn (h : Int) (m : List Bool) (y : Int) : List Bool := m.set y.toNat (gb m y || gb m h)
def cStep (m : List Bool) (p : Pr) : List Bool := p.body.foldl (cIn p.head) m
def cRound (ps : List Pr) (m : List Bool) : List Bool := ps.foldl cStep m
def comeL (g : Gr) : List Bool := its (cRound g.ps) g.S.toNat ((List.replicate g.S.toNat false).set g.st.toNat true)
theorem cIn_le {h : Int} {m : List Bool} {y : Int} : BLe m (cIn h m y) := BLe.set fun e => by
  have hlt : y.toNat < m.length := (List.getElem?_eq_some_iff.1 e).1
  rw [(gb_some hlt).2 e]
  rfl
theorem cStep_le {n : Nat} {m : List Bool} {p : Pr} (hm : m.length = n) : BLe m (cStep m p) := foldl_le (n := n) p.body (fun u y _ _ => cIn_le) m hm
theorem cRound_le {n : Nat} {ps : List Pr} (m : List Bool) (hm : m.length = n) : BLe m (cRound ps m) := foldl_le (n := n) ps (fun u p _ hu => cStep_le hu) m hm
theorem set_fix {m : List Bool} {y : Int} {b : Bool} (h0 : 0 ≤ y) (hl : y.toNat < m.length) (h : m.set y.toNat b = m) : gb m y = b := by
  have := gb_set (b := b) h0 hl y h0
  rw [h, if_pos rfl] at this
  exact this
theorem comeL_len (g : Gr) : (comeL g).length = g.S.toNat := its_ind (P := fun m => m.length = g.S.toNat) (fun m hm => by rw [(cRound_le (ps := g.ps) m hm).1]; exact hm) _ _ (by simp)
theorem come_spec {g : Gr} (ok : GrOk g) (s : Int) (h0 : 0 ≤ s) (h1 : s < g.S) : gb (comeL g) s = true ↔ Cm g.st g.ps s := by
  have hT := ok.t0
  have hS := ok.s0
  have hst := ok.st0
  have hst1 := ok.st1
  have hpin : ∀ p ∈ g.ps, PrIn g.S.toNat p := fun p hp => ⟨by have := ok.pr p hp; omega, by have := ok.pr p hp; omega, fun y hy => by have := (ok.pr p hp).2.2 y hy; omega⟩
  constructor
  · have inv : (comeL g).length = g.S.toNat ∧ ∀ s, 0 ≤ s → s.toNat < g.S.toNat → gb (comeL g) s = true → Cm g.st g.ps s := by
      refine its_ind (P := fun m => m.length = g.S.toNat ∧ ∀ s, 0 ≤ s → s.toNat < g.S.toNat → gb m s = true → Cm g.st g.ps s) (fun m hm => ?_) _ _ ?_
      · refine foldl_ind (P := fun m => m.length = g.S.toNat ∧ ∀ s, 0 ≤ s → s.toNat < g.S.toNat → gb m s = true → Cm g.st g.ps s) g.ps (fun u p hp hu => ?_) m hm
        refine foldl_ind (P := fun m => m.length = g.S.toNat ∧ ∀ s, 0 ≤ s → s.toNat < g.S.toNat → gb m s = true → Cm g.st g.ps s) p.body (fun v y hy hv => ?_) u hu
        have hyn := (hpin p hp).2.2 y hy
        refine ⟨by simp [cIn, hv.1], fun t ht0 htn hg => ?_⟩
        unfold cIn at hg
        rw [gb_set hyn.1 (by rw [hv.1]; exact hyn.2) t ht0] at hg
        split at hg
        · rename_i e
          subst e
          rcases Bool.or_eq_true_iff.1 hg with h | h
          · exact hv.2 t ht0 htn h
          · exact .step hp (hv.2 _ (hpin p hp).1 (hpin p hp).2.1 h) hy
        · exact hv.2 t ht0 htn hg
      · refine ⟨by simp, fun t ht0 htn hg => ?_⟩
        rw [gb_set (by omega) (by simp; omega) t ht0] at hg
        split at hg
        · rename_i e; subst e; exact .start
        · unfold gb at hg
          rw [List.getD_eq_getElem?_getD, List.getElem?_eq_getElem (by simpa using htn)] at hg
          simp at hg
    exact inv.2 s h0 (by omega)
  · have hlen := comeL_len g
    have fix : cRound g.ps (comeL g) = comeL g := its_fix (n := g.S.toNat) (fun m hm => cRound_le m hm) g.S.toNat _ (by simp) (by have := List.count_le_length (a := false) (l := (List.replicate g.S.toNat false).set g.st.toNat true); simpa using this)
    have hstart : gb (comeL g) g.st = true := by
      have hmono : BLe ((List.replicate g.S.toNat false).set g.st.toNat true) (comeL g) := its_ind (P := fun m => m.length = g.S.toNat ∧ BLe ((List.replicate g.S.toNat false).set g.st.toNat true) m) (fun m hm => by
        have := cRound_le (ps := g.ps) m hm.1
        exact ⟨by rw [this.1]; exact hm.1, hm.2.trans this⟩) _ _ ⟨by simp, BLe.refl _⟩ |>.2
      refine (gb_some (by rw [hlen]; omega)).2 (hmono.2 _ ?_)
      rw [List.getElem?_set_self (by rw [List.length_replicate]; omega)]
    have hcl : ∀ p ∈ g.ps, gb (comeL g) p.head = true → ∀ y ∈ p.body, gb (comeL g) y = true := fun p hp hh y hy => by
      have e1 := foldl_fix (n := g.S.toNat) g.ps (fun u p _ hu => cStep_le hu) (comeL g) hlen fix p hp
      have e2 := foldl_fix (n := g.S.toNat) p.body (fun u y _ _ => cIn_le (h := p.head)) (comeL g) hlen e1 y hy
      have hyn := (hpin p hp).2.2 y hy
      have := set_fix hyn.1 (by rw [hlen]; exact hyn.2) e2
      rw [hh, Bool.or_true] at this
      exact this
    intro h
    induction h with
    | start => exact hstart
    | step hp h hy ih => exact hcl _ hp (ih (by have := (ok.pr _ hp).1; omega) (ok.pr _ hp).2.1) _ hy
def gStep (m : List Bool) (p : Pr) : List Bool := m.set p.head.toNat (gb m p.head || p.body.all (gb m))
def gRound (ps : List Pr) (m : List Bool) : List Bool := ps.foldl gStep m
def goodL (g : Gr) : List Bool := its (gRound g.ps) g.S.toNat (List.replicate g.T.toNat true ++ List.replicate (g.S.toNat - g.T.toNat) false)
theorem gStep_le {m : List Bool} {p : Pr} : BLe m (gStep m p) := BLe.set fun e => by
  have hlt : p.head.toNat < m.length := (List.getElem?_eq_some_iff.1 e).1
  rw [(gb_some hlt).2 e]
  rfl
theorem gRound_le {n : Nat} {ps : List Pr} (m : List Bool) (hm : m.length = n) : BLe m (gRound ps m) := foldl_le (n := n) ps (fun u p _ hu => gStep_le) m hm
theorem good0_len {g : Gr} (ok : GrOk g) : (List.replicate g.T.toNat true ++ List.replicate (g.S.toNat - g.T.toNat) false).length = g.S.toNat := by
  have := ok.t0; have := ok.s0
  simp; omega
theorem goodL_len {g : Gr} (ok : GrOk g) : (goodL g).length = g.S.toNat := its_ind (P := fun m => m.length = g.S.toNat) (fun m hm => by rw [(gRound_le (ps := g.ps) m hm).1]; exact hm) _ _ (good0_len ok)
theorem good_spec {g : Gr} (ok : GrOk g) (s : Int) (h0 : 0 ≤ s) (h1 : s < g.S) : gb (goodL g) s = true ↔ Gd g.T g.ps s := by
  have hT := ok.t0
  have hS := ok.s0
  have hpin : ∀ p ∈ g.ps, PrIn g.S.toNat p := fun p hp => ⟨by have := ok.pr p hp; omega, by have := ok.pr p hp; omega, fun y hy => by have := (ok.pr p hp).2.2 y hy; omega⟩
  constructor
  · have inv : (goodL g).length = g.S.toNat ∧ ∀ s, 0 ≤ s → s.toNat < g.S.toNat → gb (goodL g) s = true → Gd g.T g.ps s := by
      refine its_ind (P := fun m => m.length = g.S.toNat ∧ ∀ s, 0 ≤ s → s.toNat < g.S.toNat → gb m s = true → Gd g.T g.ps s) (fun m hm => ?_) _ _ ?_
      · refine foldl_ind (P := fun m => m.length = g.S.toNat ∧ ∀ s, 0 ≤ s → s.toNat < g.S.toNat → gb m s = true → Gd g.T g.ps s) g.ps (fun u p hp hu => ?_) m hm
        have hpn := hpin p hp
        refine ⟨by simp [gStep, hu.1], fun t ht0 htn hg => ?_⟩
        unfold gStep at hg
        rw [gb_set hpn.1 (by rw [hu.1]; exact hpn.2.1) t ht0] at hg
        split at hg
        · rename_i e
          subst e
          rcases Bool.or_eq_true_iff.1 hg with h | h
          · exact hu.2 _ ht0 htn h
          · exact .head hp fun y hy => hu.2 y (hpn.2.2 y hy).1 (hpn.2.2 y hy).2 (List.all_eq_true.1 h y hy)
        · exact hu.2 t ht0 htn hg
      · refine ⟨good0_len ok, fun t ht0 htn hg => ?_⟩
        rw [gb_rep _ _ _ _ _ (by omega)] at hg
        split at hg
        · exact .term ht0 (by omega)
        · cases hg
    exact inv.2 s h0 (by omega)
  · have hlen := goodL_len ok
    have hmono : BLe (List.replicate g.T.toNat true ++ List.replicate (g.S.toNat - g.T.toNat) false) (goodL g) := (its_ind (P := fun m => m.length = g.S.toNat ∧ BLe (List.replicate g.T.toNat true ++ List.replicate (g.S.toNat - g.T.toNat) false) m) (fun m hm => by
        have := gRound_le (ps := g.ps) m hm.1
        exact ⟨by rw [this.1]; exact hm.1, hm.2.trans this⟩) _ _ ⟨good0_len ok, BLe.refl _⟩).2
    have fix : gRound g.ps (goodL g) = goodL g := its_fix (n := g.S.toNat) (fun m hm => gRound_le m hm) g.S.toNat _ (good0_len ok) (by have := List.count_le_length (a := false) (l := (List.replicate g.T.toNat true ++ List.replicate (g.S.toNat - g.T.toNat) false)); rwa [good0_len ok] at this)
    intro h
    clear h0 h1
    induction h with
    | @term s h0 h =>
      refine (gb_some (by rw [hlen]; omega)).2 (hmono.2 _ ?_)
      have := gb_rep g.T.toNat (g.S.toNat - g.T.toNat) true false s (by omega)
      rw [if_pos (by omega)] at this
      exact (gb_some (by rw [good0_len ok]; omega)).1 this
    | @head p hp h ih =>
      have e1 := foldl_fix (n := g.S.toNat) g.ps (fun u p _ hu => gStep_le) (goodL g) hlen fix p hp
      have hpn := hpin p hp
      have := set_fix hpn.1 (by rw [hlen]; exact hpn.2.1) e1
      rw [List.all_eq_true.2 ih, Bool.or_true] at this
      exact this
inductive Rch (ps : List Pr) : Int → Int → Prop where
  | one {p : Pr} (hp : p ∈ ps) (hl : p.body.length = 1) : Rch ps p.head (p.body.getD 0 0)
  | more {s : Int} {p : Pr} (h : Rch ps s p.head) (hp : p ∈ ps) (hl : p.body.length = 1) : Rch ps s (p.body.getD 0 0)
def rStep (s : Int) (m : List Bool) (p : Pr) : List Bool := if p.body.length = 1 ∧ (p.head = s ∨ gb m p.head = true) then m.set (p.body.getD 0 0).toNat true else m
def rRound (ps : List Pr) (s : Int) (m : List Bool) : List Bool := ps.foldl (rStep s) m
def rchL (g : Gr) (s : Int) : List Bool := its (rRound g.ps s) (g.S.toNat + 1) (List.replicate g.S.toNat false)
theorem rStep_le {s : Int} {m : List Bool} {p : Pr} : BLe m (rStep s m p) := by
  unfold rStep
  split
  · exact BLe.set fun _ => rfl
  · exact BLe.refl m
theorem rRound_le {n : Nat} {ps : List Pr} {s : Int} (m : List Bool) (hm : m.length = n) : BLe m (rRound ps s m) := foldl_le (n := n) ps (fun u p _ hu => rStep_le) m hm
theorem rchL_len (g : Gr) (s : Int) : (rchL g s).length = g.S.toNat := its_ind (P := fun m => m.length = g.S.toNat) (fun m hm => by rw [(rRound_le (ps := g.ps) (s := s) m hm).1]; exact hm) _ _ (by simp)
theorem one_mem {p : Pr} (hl : p.body.length = 1) : p.body.getD 0 0 ∈ p.body := by
  rw [List.getD_eq_getElem?_getD, List.getElem?_eq_getElem (by omega)]
  exact List.getElem_mem _
theorem rch_spec {g : Gr} (ok : GrOk g) (s t : Int) (h0 : 0 ≤ t) (h1 : t < g.S) : gb (rchL g s) t = true ↔ Rch g.ps s t := by
  have hT := ok.t0
  have hS := ok.s0
  have hpin : ∀ p ∈ g.ps, PrIn g.S.toNat p := fun p hp => ⟨by have := ok.pr p hp; omega, by have := ok.pr p hp; omega, fun y hy => by have := (ok.pr p hp).2.2 y hy; omega⟩
  constructor
  · have inv : (rchL g s).length = g.S.toNat ∧ ∀ t, 0 ≤ t → t.toNat < g.S.toNat → gb (rchL g s) t = true → Rch g.ps s t := by
      refine its_ind (P := fun m => m.length = g.S.toNat ∧ ∀ t, 0 ≤ t → t.toNat < g.S.toNat → gb m t = true → Rch g.ps s t) (fun m hm => ?_) _ _ ?_
      · refine foldl_ind (P := fun m => m.length = g.S.toNat ∧ ∀ t, 0 ≤ t → t.toNat < g.S.toNat → gb m t = true → Rch g.ps s t) g.ps (fun u p hp hu => ?_) m hm
        have hpn := hpin p hp
        unfold rStep
        split
        · rename_i hc
          have hyn := hpn.2.2 _ (one_mem hc.1)
          refine ⟨by simp [hu.1], fun t ht0 htn hg => ?_⟩
          rw [gb_set hyn.1 (by rw [hu.1]; exact hyn.2) t ht0] at hg
          split at hg
          · rename_i e
            subst e
            rcases hc.2 with e | e
            · rw [← e]; exact .one hp hc.1
            · exact .more (hu.2 _ hpn.1 hpn.2.1 e) hp hc.1
          · exact hu.2 t ht0 htn hg
        · exact hu
      · refine ⟨by simp, fun t ht0 htn hg => ?_⟩
        unfold gb at hg
        rw [List.getD_eq_getElem?_getD, List.getElem?_eq_getElem (by simpa using htn)] at hg
        simp at hg
    exact inv.2 t h0 (by omega)
  · have hlen := rchL_len g s
    have fix : rRound g.ps s (rchL g s) = rchL g s := its_fix (n := g.S.toNat) (fun m hm => rRound_le m hm) (g.S.toNat + 1) _ (by simp) (by have := List.count_le_length (a := false) (l := List.replicate g.S.toNat false); simp at this ⊢)
    have hcl : ∀ p ∈ g.ps, p.body.length = 1 → (p.head = s ∨ gb (rchL g s) p.head = true) → gb (rchL g s) (p.body.getD 0 0) = true := fun p hp hl hh => by
      have e1 := foldl_fix (n := g.S.toNat) g.ps (fun u p _ hu => rStep_le) (rchL g s) hlen fix p hp
      unfold rStep at e1
      rw [if_pos ⟨hl, hh⟩] at e1
      have hyn := (hpin p hp).2.2 _ (one_mem hl)
      exact set_fix hyn.1 (by rw [hlen]; exact hyn.2) e1
    have key : ∀ {x y : Int}, Rch g.ps x y → x = s → gb (rchL g s) y = true := by
      intro x y h
      induction h with
      | one hp hl => exact fun e => hcl _ hp hl (.inl e)
      | more h hp hl ih => exact fun e => hcl _ hp hl (.inr (ih e))
    exact fun h => key h rfl
theorem Rch.trans {ps : List Pr} {a b c : Int} (h : Rch ps a b) (k : Rch ps b c) : Rch ps a c := by
  induction k with
  | one hp hl => exact .more h hp hl
  | more _ hp hl ih => exact .more (ih h) hp hl
theorem cyc_rch {ps : List Pr} : ∀ (n : Nat) (X : Int → Prop), (∃ s, X s) → (∀ s, X s → 0 ≤ s ∧ s < n) → Cyc ps X → ∃ s, X s ∧ Rch ps s s := by
  intro n
  induction n with
  | zero =>
    rintro X ⟨s, hs⟩ hb _
    have := hb s hs
    omega
  | succ n ih =>
    intro X hX hb hC
    by_cases hn : X (n : Int)
    · by_cases hr : Rch ps (n : Int) (n : Int)
      · exact ⟨_, hn, hr⟩
      · obtain ⟨p, hp, e1, e2, e3⟩ := hC _ hn
        have r0 : Rch ps (n : Int) (p.body.getD 0 0) := by rw [← e1]; exact .one hp e2
        obtain ⟨s, h1, h2⟩ := ih (fun x => X x ∧ Rch ps (n : Int) x) ⟨_, e3, r0⟩ (fun x hx => by
            have h := hb x hx.1
            have : x ≠ n := fun e => hr (by have := hx.2; rw [e] at this; exact this)
            omega) (fun x hx => by
          obtain ⟨q, hq, f1, f2, f3⟩ := hC x hx.1
          exact ⟨q, hq, f1, f2, f3, .more (by rw [f1]; exact hx.2) hq f2⟩)
        exact ⟨s, h1.1, h2⟩
    · exact ih X hX (fun x hx => by
        have h := hb x hx
        have : x ≠ n := fun e => hn (e ▸ hx)
        omega) hC
theorem round_rch {g : Gr} (ok : GrOk g) : roundB g = true ↔ ∃ s, g.T ≤ s ∧ s < g.S ∧ Rch g.ps s s := by
  have hT := ok.t0
  have hS := ok.s0
  rw [round_spec ok]
  constructor
  · rintro ⟨X, hX, hb, hC⟩
    obtain ⟨s, h1, h2⟩ := cyc_rch g.S.toNat X hX (fun s hs => by have := hb s hs; omega) hC
    exact ⟨s, (hb s h1).1, (hb s h1).2, h2⟩
  · rintro ⟨s, h1, h2, h3⟩
    refine ⟨fun t => g.T ≤ t ∧ t < g.S ∧ Rch g.ps t s, ⟨s, h1, h2, h3⟩, fun t ht => ⟨ht.1, ht.2.1⟩, fun t ht => ?_⟩
    have key : ∀ {a b : Int}, Rch g.ps a b → ∀ z, (b = z ∨ Rch g.ps b z) → g.T ≤ z → ∃ p ∈ g.ps, p.head = a ∧ p.body.length = 1 ∧ (p.body.getD 0 0 = z ∨ Rch g.ps (p.body.getD 0 0) z) := by
      intro a b h
      induction h with
      | one hp hl => exact fun z hz _ => ⟨_, hp, rfl, hl, hz⟩
      | more h hp hl ih =>
        intro z hz hz0
        refine ih z (.inr ?_) hz0
        rcases hz with rfl | hz
        · exact .one hp hl
        · exact (Rch.one hp hl).trans hz
    obtain ⟨p, hp, e1, e2, e3⟩ := key ht.2.2 s (.inl rfl) h1
    refine ⟨p, hp, e1, e2, ?_⟩
    have hy := (ok.pr p hp).2.2 _ (one_mem e2)
    have hys : Rch g.ps (p.body.getD 0 0) s := by
      rcases e3 with e | e
      · rw [e]; exact h3
      · exact e
    refine ⟨?_, hy.2, hys⟩
    have hd : ∀ {a b : Int}, Rch g.ps a b → ∃ q ∈ g.ps, q.head = a := by
      intro a b h
      induction h with
      | one hp _ => exact ⟨_, hp, rfl⟩
      | more _ _ _ ih => exact ih
    obtain ⟨q, hq, e⟩ := hd hys
    rw [← e]
    exact (ok.pr q hq).1
theorem used_ref {g : Gr} (ok : GrOk g) : usedB g = true ↔ ∀ s, g.T ≤ s → s < g.S → gb (comeL g) s = true ∧ gb (goodL g) s = true := by
  have hT := ok.t0
  rw [used_spec ok]
  constructor
  · rintro ⟨h1, h2⟩ s hs0 hs1
    exact ⟨(come_spec ok s (by omega) hs1).2 (h1 s hs0 hs1), (good_spec ok s (by omega) hs1).2 (h2 s (by omega) hs1)⟩
  · intro h
    refine ⟨fun s hs0 hs1 => (come_spec ok s (by omega) hs1).1 (h s hs0 hs1).1, fun s hs0 hs1 => ?_⟩
    by_cases hs : s < g.T
    · exact .term hs0 hs
    · exact (good_spec ok s hs0 hs1).1 (h s (by omega) hs1).2
theorem round_ref {g : Gr} (ok : GrOk g) : roundB g = true ↔ ∃ s, g.T ≤ s ∧ s < g.S ∧ gb (rchL g s) s = true := by
  have hT := ok.t0
  rw [round_rch ok]
  constructor
  · rintro ⟨s, h1, h2, h3⟩
    exact ⟨s, h1, h2, (rch_spec ok s s (by omega) h2).2 h3⟩
  · rintro ⟨s, h1, h2, h3⟩
    exact ⟨s, h1, h2, (rch_spec ok s s (by omega) h2).1 h3⟩
end Go.Proofs.Ytadabkkkalgehaa.H
namespace Go.Proofs.Ytadabkkkalgehaa.H
open Go.RowKit
set_option linter.unusedVariables false
set_option linter.unusedSimpArgs false
structure RfW (w wr : World) (gv : Array Value) (gO n : Nat) (m : List Bool) : Prop where
  bw : Below w.heap.size w wr
  bg : Blk wr w.heap.size 24 gv
  bo : Blk wr gO 4 (bools m)
  go : w.heap.size < gO
  lo : m.length = n
theorem RfW.set {w wr : World} {gv : Array Value} {gO n : Nat} {m : List Bool} (h : RfW w wr gv gO n m) (i : Nat) (b : Bool) : RfW w (wr.setCell ⟨gO, i, none⟩ (.bool b)) gv gO n (m.set i b) := by
  refine ⟨h.bw.setCell (by show w.heap.size ≤ gO; have := h.go; omega) _, h.bg.far (by show _ ≠ gO; have := h.go; omega) _, ?_, h.go, by simp [h.lo]⟩
  have := h.bo.set_ i (.bool b)
  rwa [bools_set] at this
theorem RfW.drew {w wr : World} {gv : Array Value} {gO n : Nat} {m : List Bool} (h : RfW w wr gv gO n m) : RfW w wr.drew gv gO n m := ⟨below_drew1 h.bw, h.bg.drew, h.bo.drew, h.go, h.lo⟩
theorem its_step (R : List Bool → List Bool) (k : Nat) (m : List Bool) : its R (k + 1) m = R (its R k m) := by
  induction k generalizing m with
  | zero => rfl
  | succ k ih => show its R (k + 1) (R m) = R (its R k (R m)); exact ih _
theorem rfw_start {w : World} {gv : Array Value} {n : Nat} : RfW w ((w.alloc (.cells gv 24)).alloc (.cells (bools (List.replicate n false)) 4)) gv (w.heap.size + 1) n (List.replicate n false) :=
  ⟨((Below.refl _ _).alloc (Nat.le_refl _) _).alloc (by simp) _, (Blk.new _ _ _).alloc _, Blk.newAt (by simp), by omega, by simp⟩
theorem take_fold {α β : Type} (f : β → α → β) (l : List α) (k : Nat) (hk : k < l.length) (b : β) : (l.take (k + 1)).foldl f b = f ((l.take k).foldl f b) l[k] := by
  rw [List.take_succ_eq_append_getElem hk, List.foldl_append]; rfl
set_option maxRecDepth 100000 in
set_option maxHeartbeats 4000000 in
theorem refCome (g : Gr) (A : Option Addr) (c : Nat) (w : World) (hbl : ∀ p ∈ g.ps, p.body.length ≤ 9223372036854775807) (hr : RdP w w.heap.size A g.ps) (ok : GrOk g) :
    Calls Try.prog 55 #[grV g A c] w fun e w' => ∃ gO, e = .returned (.slice (some ⟨gO, 0, none⟩) g.S.toNat g.S.toNat) ∧ w.heap.size ≤ gO ∧ Blk w' gO 4 (bools (comeL g)) ∧ Below w.heap.size w w' := by
  obtain ⟨T, S, st, ps⟩ := g
  obtain ⟨t0, t1, s0, s1, st0, st1, n0, n1, pr⟩ := ok
  dsimp only at *
  obtain ⟨t, rfl⟩ := Int.eq_ofNat_of_zero_le (show 0 ≤ T by omega)
  obtain ⟨n, rfl⟩ := Int.eq_ofNat_of_zero_le (show 0 ≤ S by omega)
  obtain ⟨a, rfl⟩ := Int.eq_ofNat_of_zero_le (show 0 ≤ st by omega)
  have R0 : Keep (RdP w w.heap.size A ps) := ⟨hr⟩
  have B0 : Keep (∀ p ∈ ps, p.body.length ≤ 9223372036854775807) := ⟨hbl⟩
  have P0 : Keep (∀ p ∈ ps, PrIn n p) := ⟨fun p hp => ⟨by have := pr p hp; omega, by have := pr p hp; omega, fun s hs => by have := (pr p hp).2.2 s hs; omega⟩⟩
  clear hr hbl pr
  generalize hG : comeL ⟨t, n, a, ps⟩ = RES
  have HG : Keep (its (cRound ps) n ((List.replicate n false).set a true) = RES) := ⟨hG⟩
  clear hG
  unfold grV
  dsimp only
  rw [Int.toNat_natCast]
  have hmk := @run_make_row' Try.prog 76 4 (.bool false) 1 Try.underlying76 info_bool rfl .i64 .i64 n (by omega) (by omega)
  simp only [madeCells_bools] at hmk
  go_enter Try.func55, Try.ntmps55
  have U0 := Keep.mk (rfw_start (w := w) (gv := #[.int .i64 t, .int .i64 n, .int .i64 a, .slice A ps.length c]) (n := n))
  have cc := U0.out.bo.cell a
  rw [bools_at _ a (by simp; omega)] at cc
  have cf := U0.out.bo.frozen a
  have U1 : Keep (RfW w ((w.alloc (.cells #[.int .i64 t, .int .i64 n, .int .i64 a, .slice A ps.length c] 24)).alloc (.cells ((bools (List.replicate n false)).setIfInBounds a (.bool true)) 4)) #[.int .i64 t, .int .i64 n, .int .i64 a, .slice A ps.length c] (w.heap.size + 1) n ((List.replicate n false).set a true)) := ⟨((Below.refl _ _).alloc (Nat.le_refl _) _).alloc (by simp) _, (Blk.new _ _ _).alloc _, by rw [bools_set]; exact Blk.newAt (by simp), by omega, by simp⟩
  have i1 : (a : Int) < n := by omega
  clear U0
  go_wp2
  clear cc cf hmk
  go_loopg [4] n (fun gg s4 wr => ∃ k : Nat, k ≤ n ∧ n - k ≤ gg ∧ s4 = .int .i64 k ∧ Keep (RfW w wr #[.int .i64 t, .int .i64 n, .int .i64 a, .slice A ps.length c] (w.heap.size + 1) n (its (cRound ps) k ((List.replicate n false).set a true))))
  case atStart => exact ⟨0, Nat.zero_le _, by omega, rfl, U1⟩
  case round =>
    clear U1
    obtain ⟨k, hk, hg, rfl, U⟩ := hrel
    have q1 := U.out.bg.cell 1
    simp at q1
    by_cases hlt : k < n
    · have HS := Keep.mk (its_step (cRound ps) k ((List.replicate n false).set a true))
      generalize its (cRound ps) k ((List.replicate n false).set a true) = m0 at *
      have k1 : (k : Int) < n := by omega
      go_wp2
      clear q1
      go_loopg [5] ps.length (fun gg s5 wr => ∃ i : Nat, i ≤ ps.length ∧ ps.length - i ≤ gg ∧ s5 = .int .i64 i ∧ Keep (RfW w wr #[.int .i64 t, .int .i64 n, .int .i64 a, .slice A ps.length c] (w.heap.size + 1) n ((ps.take i).foldl cStep m0)))
      case atStart => exact ⟨0, Nat.zero_le _, by omega, rfl, U⟩
      case round =>
        clear U
        obtain ⟨i, hi, hgi, rfl, U⟩ := hrel
        have q3 := U.out.bg.cell 3
        simp at q3
        by_cases hlti : i < ps.length
        · obtain ⟨ad, Ab, cb, rfl, hb, c0, c1, c2, hlb, hrb⟩ := R0.out i hlti
          have hbl := B0.out _ (List.getElem_mem hlti)
          have hpi := Keep.mk (P0.out _ (List.getElem_mem hlti))
          have HU2 := Keep.mk (take_fold cStep ps i hlti m0)
          generalize (ps.take i).foldl cStep m0 = m1 at *
          generalize hx : ps[i] = p at *
          clear hx
          obtain ⟨hd, bd, rt⟩ := p
          dsimp only at *
          obtain ⟨d, rfl⟩ := Int.eq_ofNat_of_zero_le hpi.out.1
          have hdn : (d : Int) < n := by have := hpi.out.2.1; simp at this; omega
          have j1 : (0:Int) ≤ i := by omega
          have j2 : (i : Int) < ps.length := by omega
          have C0 := Keep.mk c0
          have C1 := Keep.mk c1
          clear c0 c1 c2
          go_wp2
          clear q3
          go_loopg [6] bd.length (fun gg s6 wr => ∃ j : Nat, j ≤ bd.length ∧ bd.length - j ≤ gg ∧ s6 = .int .i64 j ∧ Keep (RfW w wr #[.int .i64 t, .int .i64 n, .int .i64 a, .slice (some ad) ps.length c] (w.heap.size + 1) n ((bd.take j).foldl (cIn d) m1)))
          case atStart => exact ⟨0, Nat.zero_le _, by omega, rfl, U⟩
          case round =>
            clear U
            obtain ⟨j, hj, hgj, rfl, U⟩ := hrel
            have q3 := U.out.bg.cell 3
            simp at q3
            have c0 := cell_below C0.out U.out.bw (by rw [add_block]; exact hb)
            have c1 := cell_below C1.out U.out.bw (by show (ad.add _).block < _; rw [add_block]; exact hb)
            by_cases hltj : j < bd.length
            · obtain ⟨a2, rfl, hb2, hc2⟩ := hrb.int j hltj
              replace hc2 := cell_below hc2 U.out.bw (by rw [add_block]; exact hb2)
              have hs := hpi.out.2.2 _ (List.getElem_mem hltj)
              have HV2 := Keep.mk (take_fold (cIn d) bd j hltj m1)
              generalize (bd.take j).foldl (cIn d) m1 = m2 at *
              generalize hy : bd[j] = y at *
              clear hy
              obtain ⟨y, rfl⟩ := Int.eq_ofNat_of_zero_le hs.1
              have hyn : (y : Int) < n := by have := hs.2; simp at this; omega
              have e1 : (0:Int) ≤ j := by omega
              have e2 : (j : Int) < bd.length := by omega
              have ca := U.out.bo.cell d
              rw [bools_gb _ d (by rw [U.out.lo]; omega)] at ca
              have cb' := U.out.bo.cell y
              rw [bools_gb _ y (by rw [U.out.lo]; omega)] at cb'
              have cf := U.out.bo.frozen y
              have hci : Keep (cIn d m2 y = m2.set y (gb m2 y || gb m2 d)) := ⟨rfl⟩
              clear hs
              have U3 := fun b => Keep.mk (U.out.set y b)
              clear U
              generalize gb m2 d = v1 at *
              generalize gb m2 y = v2 at *
              cases v2 with
              | true =>
                have UU := U3 true
                clear U3
                go_wp2
                go_region
                go_wp2
                go_roundg (bd.length - (j + 1))
                case measure => omega
                case rel => exact ⟨j + 1, by omega, by omega, by go_num, ⟨by rw [HV2.out, hci.out]; exact UU.out.drew⟩⟩
              | false =>
                have UU := U3 v1
                clear U3
                go_wp2
                go_region
                go_wp2
                go_roundg (bd.length - (j + 1))
                case measure => omega
                case rel => exact ⟨j + 1, by omega, by omega, by go_num, ⟨by rw [HV2.out, hci.out]; exact UU.out.drew⟩⟩
            · have ej : j = bd.length := by omega
              subst ej
              go_wp2
              go_roundg (ps.length - (i + 1))
              case measure => omega
              case rel => exact ⟨i + 1, by omega, by omega, by go_num, ⟨by rw [HU2.out]; have := U.out; rw [List.take_length] at this; exact this⟩⟩
        · have em : i = ps.length := by omega
          subst em
          go_wp2
          go_roundg (n - (k + 1))
          case measure => omega
          case rel => exact ⟨k + 1, by omega, by omega, by go_num, ⟨by rw [HS.out]; have := U.out; rw [List.take_length] at this; exact this⟩⟩
    · have ek : k = n := by omega
      subst ek
      go_wp2
      go_ret
      refine ⟨w.heap.size + 1, rfl, by omega, ?_, U.out.bw⟩
      have := U.out.bo
      rwa [HG.out] at this
end Go.Proofs.Ytadabkkkalgehaa.H
namespace Go.Proofs.Ytadabkkkalgehaa.H
open Go.RowKit
set_option linter.unusedVariables false
set_option linter.unusedSimpArgs false
theorem all_take (f : Int → Bool) (l : List Int) (k : Nat) (hk : k < l.length) : (l.take (k + 1)).all f = ((l.take k).all f && f l[k]) := by
  rw [List.take_succ_eq_append_getElem hk, List.all_append]; simp
set_option maxRecDepth 100000 in
set_option maxHeartbeats 4000000 in
theorem refGood (g : Gr) (A : Option Addr) (c : Nat) (w : World) (hbl : ∀ p ∈ g.ps, p.body.length ≤ 9223372036854775807) (hr : RdP w w.heap.size A g.ps) (ok : GrOk g) :
    Calls Try.prog 56 #[grV g A c] w fun e w' => ∃ gO, e = .returned (.slice (some ⟨gO, 0, none⟩) g.S.toNat g.S.toNat) ∧ w.heap.size ≤ gO ∧ Blk w' gO 4 (bools (goodL g)) ∧ Below w.heap.size w w' := by
  obtain ⟨T, S, st, ps⟩ := g
  obtain ⟨t0, t1, s0, s1, st0, st1, n0, n1, pr⟩ := ok
  dsimp only at *
  obtain ⟨t, rfl⟩ := Int.eq_ofNat_of_zero_le (show 0 ≤ T by omega)
  obtain ⟨n, rfl⟩ := Int.eq_ofNat_of_zero_le (show 0 ≤ S by omega)
  have R0 : Keep (RdP w w.heap.size A ps) := ⟨hr⟩
  have B0 : Keep (∀ p ∈ ps, p.body.length ≤ 9223372036854775807) := ⟨hbl⟩
  have P0 : Keep (∀ p ∈ ps, PrIn n p) := ⟨fun p hp => ⟨by have := pr p hp; omega, by have := pr p hp; omega, fun s hs => by have := (pr p hp).2.2 s hs; omega⟩⟩
  clear hr hbl pr
  generalize hG : goodL ⟨t, n, st, ps⟩ = RES
  have HG : Keep (its (gRound ps) n (List.replicate t true ++ List.replicate (n - t) false) = RES) := ⟨by rw [← hG]; unfold goodL; simp⟩
  clear hG
  unfold grV
  dsimp only
  rw [Int.toNat_natCast]
  have hmk := @run_make_row' Try.prog 76 4 (.bool false) 1 Try.underlying76 info_bool rfl .i64 .i64 n (by omega) (by omega)
  simp only [madeCells_bools] at hmk
  go_enter Try.func56, Try.ntmps56
  have U0 := Keep.mk (rfw_start (w := w) (gv := #[.int .i64 t, .int .i64 n, .int .i64 st, .slice A ps.length c]) (n := n))
  go_wp2
  clear hmk
  go_loopg [4] t (fun gg s4 wr => ∃ k : Nat, k ≤ t ∧ t - k ≤ gg ∧ s4 = .int .i64 k ∧ Keep (RfW w wr #[.int .i64 t, .int .i64 n, .int .i64 st, .slice A ps.length c] (w.heap.size + 1) n (List.replicate k true ++ List.replicate (n - k) false)))
  case atStart => exact ⟨0, Nat.zero_le _, by omega, rfl, U0⟩
  case round =>
  clear U0
  obtain ⟨k, hk, hg, rfl, U⟩ := hrel
  have q0 := U.out.bg.cell 0
  simp at q0
  by_cases hlt : k < t
  · have cc := U.out.bo.cell k
    rw [bools_gb _ k (by rw [U.out.lo]; omega)] at cc
    generalize gb _ _ = v9 at cc
    have cf := U.out.bo.frozen k
    have U2 := Keep.mk (U.out.set k true)
    rw [fill_set k n (by omega)] at U2
    have i0 : (k : Int) < n := by omega
    have i1 : (k : Int) < t := by omega
    clear U
    go_wp2
    go_roundg (t - (k + 1))
    case measure => omega
    case rel => exact ⟨k + 1, by omega, by omega, by go_num, U2⟩
  have ek : k = t := by omega
  subst ek
  clear hg hk hlt
  go_wp2
  clear q0
  go_loopg [5] n (fun gg s5 wr => ∃ h : Nat, h ≤ n ∧ n - h ≤ gg ∧ s5 = .int .i64 h ∧ Keep (RfW w wr #[.int .i64 k, .int .i64 n, .int .i64 st, .slice A ps.length c] (w.heap.size + 1) n (its (gRound ps) h (List.replicate k true ++ List.replicate (n - k) false))))
  case atStart => exact ⟨0, Nat.zero_le _, by omega, rfl, U⟩
  case round =>
    clear U
    obtain ⟨h, hk, hg, rfl, U⟩ := hrel
    have q1 := U.out.bg.cell 1
    simp at q1
    by_cases hlt : h < n
    · have HS := Keep.mk (its_step (gRound ps) h (List.replicate k true ++ List.replicate (n - k) false))
      generalize its (gRound ps) h (List.replicate k true ++ List.replicate (n - k) false) = m0 at *
      have k1 : (h : Int) < n := by omega
      go_wp2
      clear q1
      go_loopg [6] ps.length (fun gg s6 wr => ∃ i : Nat, i ≤ ps.length ∧ ps.length - i ≤ gg ∧ s6 = .int .i64 i ∧ Keep (RfW w wr #[.int .i64 k, .int .i64 n, .int .i64 st, .slice A ps.length c] (w.heap.size + 1) n ((ps.take i).foldl gStep m0)))
      case atStart => exact ⟨0, Nat.zero_le _, by omega, rfl, U⟩
      case round =>
        clear U
        obtain ⟨i, hi, hgi, rfl, U⟩ := hrel
        have q3 := U.out.bg.cell 3
        simp at q3
        by_cases hlti : i < ps.length
        · obtain ⟨ad, Ab, cb, rfl, hb, c0, c1, c2, hlb, hrb⟩ := R0.out i hlti
          have hbl := B0.out _ (List.getElem_mem hlti)
          have hpi := Keep.mk (P0.out _ (List.getElem_mem hlti))
          have HU2 := Keep.mk (take_fold gStep ps i hlti m0)
          generalize (ps.take i).foldl gStep m0 = m1 at *
          generalize hx : ps[i] = p at *
          clear hx
          obtain ⟨hd, bd, rt⟩ := p
          dsimp only at *
          obtain ⟨d, rfl⟩ := Int.eq_ofNat_of_zero_le hpi.out.1
          have hdn : (d : Int) < n := by have := hpi.out.2.1; simp at this; omega
          have j1 : (0:Int) ≤ i := by omega
          have j2 : (i : Int) < ps.length := by omega
          have C0 := Keep.mk c0
          have C1 := Keep.mk c1
          clear c0 c1 c2
          go_wp2
          clear q3
          go_loopg [7, 8] bd.length (fun gg s7 s8 wr => ∃ j : Nat, j ≤ bd.length ∧ bd.length - j ≤ gg ∧ s7 = .bool ((bd.take j).all (gb m1)) ∧ s8 = .int .i64 j ∧ Keep (RfW w wr #[.int .i64 k, .int .i64 n, .int .i64 st, .slice (some ad) ps.length c] (w.heap.size + 1) n m1))
          case atStart => exact ⟨0, Nat.zero_le _, by omega, rfl, rfl, U⟩
          case round =>
            clear U
            obtain ⟨j, hj, hgj, rfl, rfl, U⟩ := hrel
            have q3 := U.out.bg.cell 3
            simp at q3
            have c0 := cell_below C0.out U.out.bw (by rw [add_block]; exact hb)
            have c1 := cell_below C1.out U.out.bw (by show (ad.add _).block < _; rw [add_block]; exact hb)
            by_cases hltj : j < bd.length
            · obtain ⟨a2, rfl, hb2, hc2⟩ := hrb.int j hltj
              replace hc2 := cell_below hc2 U.out.bw (by rw [add_block]; exact hb2)
              have hs := hpi.out.2.2 _ (List.getElem_mem hltj)
              have HV2 := Keep.mk (all_take (gb m1) bd j hltj)
              generalize (bd.take j).all (gb m1) = v0 at *
              generalize hy : bd[j] = y at *
              clear hy
              obtain ⟨y, rfl⟩ := Int.eq_ofNat_of_zero_le hs.1
              have hyn : (y : Int) < n := by have := hs.2; simp at this; omega
              have e1 : (0:Int) ≤ j := by omega
              have e2 : (j : Int) < bd.length := by omega
              have cb' := U.out.bo.cell y
              rw [bools_gb _ y (by rw [U.out.lo]; omega)] at cb'
              clear hs
              generalize gb m1 y = v2 at *
              cases v0 with
              | true =>
                go_wp2
                go_roundg (bd.length - (j + 1))
                case measure => omega
                case rel => exact ⟨j + 1, by omega, by omega, by rw [HV2.out]; rfl, by go_num, by first | exact U | exact ⟨U.out.drew⟩⟩
              | false =>
                go_wp2
                go_roundg (bd.length - (j + 1))
                case measure => omega
                case rel => exact ⟨j + 1, by omega, by omega, by rw [HV2.out]; rfl, by go_num, by first | exact U | exact ⟨U.out.drew⟩⟩
            · have ej : j = bd.length := by omega
              subst ej
              rw [List.take_length]
              have ca := U.out.bo.cell d
              rw [bools_gb _ d (by rw [U.out.lo]; omega)] at ca
              have cf := U.out.bo.frozen d
              have hci : Keep (gStep m1 ⟨d, bd, rt⟩ = m1.set d (gb m1 d || bd.all (gb m1))) := ⟨rfl⟩
              have U3 := fun b => Keep.mk (U.out.set d b)
              generalize gb m1 d = v1 at *
              generalize bd.all (gb m1) = v2 at *
              cases v1 with
              | true =>
                have UU := U3 true
                clear U3
                go_wp2
                go_region
                go_wp2
                go_roundg (ps.length - (i + 1))
                case measure => omega
                case rel => exact ⟨i + 1, by omega, by omega, by go_num, ⟨by rw [HU2.out, hci.out]; exact UU.out.drew⟩⟩
              | false =>
                have UU := U3 v2
                clear U3
                go_wp2
                go_region
                go_wp2
                go_roundg (ps.length - (i + 1))
                case measure => omega
                case rel => exact ⟨i + 1, by omega, by omega, by go_num, ⟨by rw [HU2.out, hci.out]; exact UU.out.drew⟩⟩
        · have em : i = ps.length := by omega
          subst em
          go_wp2
          go_roundg (n - (h + 1))
          case measure => omega
          case rel => exact ⟨h + 1, by omega, by omega, by go_num, ⟨by rw [HS.out]; have := U.out; rw [List.take_length] at this; exact this⟩⟩
    · have ek : h = n := by omega
      subst ek
      go_wp2
      go_ret
      refine ⟨w.heap.size + 1, rfl, by omega, ?_, U.out.bw⟩
      have := U.out.bo
      rwa [HG.out] at this
end Go.Proofs.Ytadabkkkalgehaa.H
namespace Go.Proofs.Ytadabkkkalgehaa.H
open Go.RowKit
set_option linter.unusedVariables false
set_option linter.unusedSimpArgs false
set_option maxRecDepth 100000 in
set_option maxHeartbeats 4000000 in
theorem refRound (g : Gr) (s : Int) (A : Option Addr) (c : Nat) (w : World) (hbl : ∀ p ∈ g.ps, p.body.length ≤ 9223372036854775807) (hr : RdP w w.heap.size A g.ps) (ok : GrOk g) (hs0 : 0 ≤ s) (hs1 : s < g.S) :
    Calls Try.prog 57 #[grV g A c, .int .i64 s] w fun e w' => e = .returned (.bool (gb (rchL g s) s)) ∧ Below w.heap.size w w' := by
  obtain ⟨T, S, st, ps⟩ := g
  obtain ⟨t0, t1, s0, s1, st0, st1, n0, n1, pr⟩ := ok
  dsimp only at *
  obtain ⟨n, rfl⟩ := Int.eq_ofNat_of_zero_le (show 0 ≤ S by omega)
  obtain ⟨x, rfl⟩ := Int.eq_ofNat_of_zero_le hs0
  have R0 : Keep (RdP w w.heap.size A ps) := ⟨hr⟩
  have B0 : Keep (∀ p ∈ ps, p.body.length ≤ 9223372036854775807) := ⟨hbl⟩
  have P0 : Keep (∀ p ∈ ps, PrIn n p) := ⟨fun p hp => ⟨by have := pr p hp; omega, by have := pr p hp; omega, fun s hs => by have := (pr p hp).2.2 s hs; omega⟩⟩
  clear hr hbl pr
  generalize hG : rchL ⟨T, n, st, ps⟩ x = RES
  have HG : Keep (its (rRound ps x) (n + 1) (List.replicate n false) = RES) := ⟨hG⟩
  clear hG
  unfold grV
  dsimp only
  have hmk := @run_make_row' Try.prog 76 4 (.bool false) 1 Try.underlying76 info_bool rfl .i64 .i64 n (by omega) (by omega)
  simp only [madeCells_bools] at hmk
  go_enter Try.func57, Try.ntmps57
  have U0 := Keep.mk (rfw_start (w := w) (gv := #[.int .i64 T, .int .i64 n, .int .i64 st, .slice A ps.length c]) (n := n))
  go_wp2
  clear hmk
  go_loopg [6] (n + 1) (fun gg s6 wr => ∃ h : Nat, h ≤ n + 1 ∧ n + 1 - h ≤ gg ∧ s6 = .int .i64 h ∧ Keep (RfW w wr #[.int .i64 T, .int .i64 n, .int .i64 st, .slice A ps.length c] (w.heap.size + 1) n (its (rRound ps x) h (List.replicate n false))))
  case atStart => exact ⟨0, Nat.zero_le _, by omega, rfl, U0⟩
  case round =>
    clear U0
    obtain ⟨h, hk, hg, rfl, U⟩ := hrel
    have q1 := U.out.bg.cell 1
    simp at q1
    by_cases hlt : h < n + 1
    · have HS := Keep.mk (its_step (rRound ps x) h (List.replicate n false))
      generalize its (rRound ps x) h (List.replicate n false) = m0 at *
      have k1 : (h : Int) ≤ n := by omega
      go_wp2
      clear q1
      go_loopg [7] ps.length (fun gg s7 wr => ∃ i : Nat, i ≤ ps.length ∧ ps.length - i ≤ gg ∧ s7 = .int .i64 i ∧ Keep (RfW w wr #[.int .i64 T, .int .i64 n, .int .i64 st, .slice A ps.length c] (w.heap.size + 1) n ((ps.take i).foldl (rStep x) m0)))
      case atStart => exact ⟨0, Nat.zero_le _, by omega, rfl, U⟩
      case round =>
        clear U
        obtain ⟨i, hi, hgi, rfl, U⟩ := hrel
        have q3 := U.out.bg.cell 3
        simp at q3
        by_cases hlti : i < ps.length
        · obtain ⟨ad, Ab, cb, rfl, hb, c0, c1, c2, hlb, hrb⟩ := R0.out i hlti
          replace c0 := cell_below c0 U.out.bw (by rw [add_block]; exact hb)
          replace c1 := cell_below c1 U.out.bw (by show (ad.add _).block < _; rw [add_block]; exact hb)
          have hbl := B0.out _ (List.getElem_mem hlti)
          have hpi := Keep.mk (P0.out _ (List.getElem_mem hlti))
          have HU2 := Keep.mk (take_fold (rStep x) ps i hlti m0)
          generalize (ps.take i).foldl (rStep x) m0 = m1 at *
          generalize hx : ps[i] = p at *
          clear hx c2
          obtain ⟨hd, bd, rt⟩ := p
          dsimp only at *
          obtain ⟨d, rfl⟩ := Int.eq_ofNat_of_zero_le hpi.out.1
          have hdn : (d : Int) < n := by have := hpi.out.2.1; simp at this; omega
          have j1 : (0:Int) ≤ i := by omega
          have j2 : (i : Int) < ps.length := by omega
          have hci : Keep (rStep x m1 ⟨d, bd, rt⟩ = if bd.length = 1 ∧ ((d : Int) = x ∨ gb m1 d = true) then m1.set (bd.getD 0 0).toNat true else m1) := ⟨rfl⟩
          have ca := U.out.bo.cell d
          rw [bools_gb _ d (by rw [U.out.lo]; omega)] at ca
          by_cases hl : bd.length = 1
          · obtain ⟨a2, rfl, hb2, hc2⟩ := hrb.int 0 (by omega)
            have hs := hpi.out.2.2 _ (List.getElem_mem (show 0 < bd.length by omega))
            replace hc2 := cell_below hc2 U.out.bw (by rw [add_block]; exact hb2)
            have hc3 := hc2
            have eg : Keep (bd.getD 0 0 = bd[0]) := ⟨by rw [List.getD_eq_getElem?_getD, List.getElem?_eq_getElem (by omega)]; rfl⟩
            generalize hy : bd[0] = y at *
            try simp [Addr.add] at hc3
            clear hy
            obtain ⟨y, rfl⟩ := Int.eq_ofNat_of_zero_le hs.1
            have hyn : (y : Int) < n := by have := hs.2; simp at this; omega
            have cb' := U.out.bo.cell y
            rw [bools_gb _ y (by rw [U.out.lo]; omega)] at cb'
            have cf := U.out.bo.frozen y
            generalize gb m1 y = v9 at cb'
            generalize gb m1 d = v1 at *
            rw [hl] at *
            clear hs hl
            by_cases hds : (d : Int) = x
            · have t2 : ((d : Int) == x) = true := by simp [hds]
              have e : Keep (rStep x m1 ⟨d, bd, rt⟩ = m1.set y true) := ⟨by rw [hci.out, if_pos ⟨rfl, .inl hds⟩, eg.out]; rfl⟩
              have UU := Keep.mk (U.out.set y true)
              clear hds
              go_wp2
              go_roundg (ps.length - (i + 1))
              case measure => omega
              case rel => exact ⟨i + 1, by omega, by omega, by go_num, ⟨by rw [HU2.out, e.out]; first | exact UU.out | exact UU.out.drew⟩⟩
            · have t2 : ((d : Int) == x) = false := by simp only [beq_eq_false_iff_ne]; exact hds
              cases v1 with
              | true =>
                have e : Keep (rStep x m1 ⟨d, bd, rt⟩ = m1.set y true) := ⟨by rw [hci.out, if_pos ⟨rfl, .inr rfl⟩, eg.out]; rfl⟩
                have UU := Keep.mk (U.out.set y true)
                clear hds
                go_wp2
                go_roundg (ps.length - (i + 1))
                case measure => omega
                case rel => exact ⟨i + 1, by omega, by omega, by go_num, ⟨by rw [HU2.out, e.out]; first | exact UU.out | exact UU.out.drew⟩⟩
              | false =>
                have e : Keep (rStep x m1 ⟨d, bd, rt⟩ = m1) := ⟨by rw [hci.out, if_neg (by rintro ⟨_, h | h⟩; exact hds h; cases h)]⟩
                clear hds
                go_wp2
                go_roundg (ps.length - (i + 1))
                case measure => omega
                case rel => exact ⟨i + 1, by omega, by omega, by go_num, ⟨by rw [HU2.out, e.out]; first | exact U.out | exact U.out.drew⟩⟩
          · have t1 : ((bd.length : Int) == 1) = false := by simp only [beq_eq_false_iff_ne]; omega
            have e : Keep (rStep x m1 ⟨d, bd, rt⟩ = m1) := ⟨by rw [hci.out, if_neg (fun h => hl h.1)]⟩
            clear hl
            go_wp2
            go_roundg (ps.length - (i + 1))
            case measure => omega
            case rel => exact ⟨i + 1, by omega, by omega, by go_num, ⟨by rw [HU2.out, e.out]; first | exact U.out | exact U.out.drew⟩⟩
        · have em : i = ps.length := by omega
          subst em
          go_wp2
          go_roundg (n + 1 - (h + 1))
          case measure => omega
          case rel => exact ⟨h + 1, by omega, by omega, by go_num, ⟨by rw [HS.out]; have := U.out; rw [List.take_length] at this; exact this⟩⟩
    · have ek : h = n + 1 := by omega
      subst ek
      have hU := U.out
      rw [HG.out] at hU
      have cx := hU.bo.cell x
      rw [bools_gb _ x (by rw [hU.lo]; omega)] at cx
      have k2 : ¬ ((n : Int) + 1 ≤ n) := by omega
      go_wp2
      go_ret
      exact ⟨rfl, U.out.bw⟩
end Go.Proofs.Ytadabkkkalgehaa.H
namespace Go.Proofs.Ytadabkkkalgehaa.H
open Go.RowKit
set_option linter.unusedVariables false
set_option linter.unusedSimpArgs false
theorem okAt_false_head {g : Gr} {i : Nat} (hi : i < g.ps.length) (h : (decide (g.T ≤ g.ps[i].head) && decide (g.ps[i].head < g.S)) = false) : okAt g i = false := by
  unfold okAt; rw [List.getElem?_eq_getElem hi]; simp only [prodB]; rw [h]; simp
theorem okAt_false_sym {g : Gr} {i k : Nat} (hi : i < g.ps.length) (hk : k < g.ps[i].body.length) (h : (decide (0 ≤ g.ps[i].body[k]) && decide (g.ps[i].body[k] < g.S)) = false) : okAt g i = false := by
  unfold okAt; rw [List.getElem?_eq_getElem hi]; simp only [prodB]
  have : (g.ps[i].body).all (symB g.S) = false := List.all_eq_false.2 ⟨_, List.getElem_mem hk, by simp only [symB]; rw [h]; simp⟩
  rw [this]; simp
theorem okAt_false_same {g : Gr} {i k : Nat} (hi : i < g.ps.length) (hk : k < i) (h : sameP g.ps[i] (g.ps[k]'(by omega)) = true) : okAt g i = false := by
  unfold okAt; rw [List.getElem?_eq_getElem hi]; simp only [prodB]
  have : (g.ps.take i).any (sameP g.ps[i]) = true := List.any_eq_true.2 ⟨g.ps[k], by
    rw [List.mem_take_iff_getElem]; exact ⟨k, by omega, rfl⟩, h⟩
  rw [this]; simp
theorem okAt_true {g : Gr} {i : Nat} (hi : i < g.ps.length) (h1 : (decide (g.T ≤ g.ps[i].head) && decide (g.ps[i].head < g.S)) = true) (h2 : ∀ k (hk : k < g.ps[i].body.length), (decide (0 ≤ g.ps[i].body[k]) && decide (g.ps[i].body[k] < g.S)) = true)
    (h3 : ∀ k (hk : k < i), sameP g.ps[i] (g.ps[k]'(by omega)) = false) : okAt g i = true := by
  unfold okAt; rw [List.getElem?_eq_getElem hi]; simp only [prodB]
  rw [h1]
  have a : (g.ps[i].body).all (symB g.S) = true := List.all_eq_true.2 (fun y hy => by
    obtain ⟨k, hk, rfl⟩ := List.getElem_of_mem hy
    exact h2 k hk)
  have b : (g.ps.take i).any (sameP g.ps[i]) = false := List.any_eq_false.2 (fun q hq => by
    obtain ⟨k, hk, rfl⟩ := List.mem_take_iff_getElem.1 hq
    rw [h3 k (by omega)]; simp)
  rw [a, b]; rfl
set_option maxRecDepth 100000 in
set_option maxHeartbeats 8000000 in
theorem refNumbers (g : Gr) (A : Option Addr) (c : Nat) (w : World) (h : GrIn w g A c) :
    Calls Try.prog 54 #[grV g A c] w fun e w' => e = .returned (.bool (numbersB g)) ∧ Below w.heap.size w w' := by
  have R0 := Keep.mk h.r
  have B0 := Keep.mk h.b
  have HL : g.ps.length ≤ 9223372036854775807 := h.l2
  have hlc := h.l
  clear h
  have KH := Keep.mk fun W s => refHead g s A c W
  have KS := Keep.mk fun W s => refSymbol g s A c W
  have P1 := Keep.mk (fun (hh : headB g = false) => numbersB_head hh)
  have P2 := Keep.mk (fun i (hi : i < g.ps.length) (h : okAt g i = false) => numbersB_at hi h)
  have P3 := Keep.mk (fun (hh : headB g = true) h => numbersB_all hh h)
  have Q1 := Keep.mk (fun i (hi : i < g.ps.length) h => okAt_false_head (g := g) hi h)
  have Q2 := Keep.mk (fun i k (hi : i < g.ps.length) hk h => okAt_false_sym (g := g) (k := k) hi hk h)
  have Q3 := Keep.mk (fun i k (hi : i < g.ps.length) (hk : k < i) h => okAt_false_same (g := g) hi hk h)
  have Q4 := Keep.mk (fun i (hi : i < g.ps.length) h1 h2 h3 => okAt_true (g := g) hi h1 h2 h3)
  have HH : Keep (headB g = decide (1 ≤ g.T ∧ g.T ≤ 32 ∧ g.T < g.S ∧ g.S ≤ 64 ∧ g.T ≤ g.st ∧ g.st < g.S ∧ 0 < g.ps.length ∧ g.ps.length ≤ 64)) := ⟨rfl⟩
  generalize numbersB g = RES at *
  generalize headB g = HD at *
  generalize okAt g = OK at *
  obtain ⟨T, S, st, ps⟩ := g
  unfold grV at *
  dsimp only at *
  have B1 : Keep (Below w.heap.size w (w.alloc (.cells #[.int .i64 T, .int .i64 S, .int .i64 st, .slice A ps.length c] 24))) := ⟨(Below.refl _ _).alloc (Nat.le_refl _) _⟩
  have BG1 : Keep (Blk (w.alloc (.cells #[.int .i64 T, .int .i64 S, .int .i64 st, .slice A ps.length c] 24)) w.heap.size 24 #[.int .i64 T, .int .i64 S, .int .i64 st, .slice A ps.length c]) := ⟨Blk.new _ _ _⟩
  go_enter Try.func54, Try.ntmps54
  go_upto_region 1 with fail
  go_cut [44] (fun s44 wx => s44 = .bool (!HD) ∧ Keep (Below w.heap.size w wx) ∧ Keep (Blk wx w.heap.size 24 #[.int .i64 T, .int .i64 S, .int .i64 st, .slice A ps.length c]))
  case first =>
    by_cases h4 : 1 ≤ T ∧ T ≤ 32 ∧ T < S ∧ S ≤ 64
    · obtain ⟨a1, a2, a3, a4⟩ := h4
      go_wp2_with fail
      refine (KH.out _ _).mono ?_
      rintro e w1 ⟨rfl, hb⟩
      have B2 : Keep (Below w.heap.size w w1) := ⟨below_step B1.out hb B1.out.size⟩
      have BG2 := Keep.mk (BG1.out.below hb BG1.out.lt)
      have q3 := BG2.out.cell 3
      simp at q3
      by_cases hs : T ≤ st ∧ st < S
      · have t : (decide (T ≤ st) && decide (st < S)) = true := by simp [hs.1, hs.2]
        rw [t]
        by_cases hn : 0 < ps.length ∧ ps.length ≤ 64
        · obtain ⟨n0, n1⟩ := hn
          have e : Keep (HD = true) := ⟨by rw [HH.out]; simp only [decide_eq_true_eq]; exact ⟨a1, a2, a3, a4, hs.1, hs.2, n0, n1⟩⟩
          clear hs
          go_wp2_with fail
          go_meet
          exact ⟨by rw [e.out]; first | rfl | (simp; omega), B2, BG2⟩
        · have e : Keep (HD = false) := ⟨by rw [HH.out]; simp only [decide_eq_false_iff_not]; omega⟩
          have hnn : (ps.length : Int) < 1 ∨ 64 < (ps.length : Int) := by omega
          clear hs
          rcases hnn with hnn | hnn
          · go_wp2_with fail
            go_meet
            exact ⟨by rw [e.out]; first | rfl | (simp; omega), B2, BG2⟩
          · have : ¬ (ps.length : Int) < 1 := by omega
            go_wp2_with fail
            go_meet
            exact ⟨by rw [e.out]; first | rfl | (simp; omega), B2, BG2⟩
      · have t : (decide (T ≤ st) && decide (st < S)) = false := by rw [← Bool.decide_and]; simpa using hs
        have e : Keep (HD = false) := ⟨by rw [HH.out]; simp only [decide_eq_false_iff_not]; omega⟩
        rw [t]
        clear hs
        go_wp2_with fail
        go_meet
        exact ⟨by rw [e.out]; first | rfl | (simp; omega), B2, BG2⟩
    · have e : Keep (HD = false) := ⟨by rw [HH.out]; simp only [decide_eq_false_iff_not]; omega⟩
      go_wp2_with fail
      all_goals (first | (go_meet; exact ⟨by rw [e.out]; first | rfl | (simp; omega), B1, BG1⟩) | (exfalso; omega))
  case rest =>
    obtain ⟨rfl, B2, BG2⟩ := hcut
    clear B1 BG1
    cases HD with
    | false =>
      go_wp2
      go_ret
      exact ⟨by rw [P1.out (by first | rfl | trivial)]; rfl, B2.out⟩
    | true =>
      have n1 : ps.length ≤ 64 := by have := HH.out; simp only [Bool.true_eq, decide_eq_true_eq] at this; omega
      go_wp2
      go_loopg [3] ps.length (fun gg s3 wr => ∃ i : Nat, i ≤ ps.length ∧ ps.length - i ≤ gg ∧ s3 = .int .i64 i ∧ Keep (∀ j, j < i → OK j = true) ∧ Keep (Below w.heap.size w wr) ∧
        Keep (Blk wr w.heap.size 24 #[.int .i64 T, .int .i64 S, .int .i64 st, .slice A ps.length c]))
      case atStart => exact ⟨0, Nat.zero_le _, by omega, rfl, ⟨fun j hj => absurd hj (Nat.not_lt_zero _)⟩, B2, BG2⟩
      case round =>
        clear B2 BG2
        obtain ⟨i, hi, hg, rfl, HA, BW, BK⟩ := hrel
        obtain ⟨wo, rfl⟩ : ∃ wo : World, wo = wr := ⟨_, rfl⟩
        have q0 := BK.out.cell 0
        have q1 := BK.out.cell 1
        have q2 := BK.out.cell 2
        have q3 := BK.out.cell 3
        simp at q0 q1 q2 q3
        have nw := BK.out.lt
        by_cases hlt : i < ps.length
        · obtain ⟨ad, Ab, cb, rfl, hb, c0, c1, c2, hlb, hrb⟩ := R0.out i hlt
          have na : (ad.add (i * 3)).block < wo.heap.size := by rw [add_block]; have := BW.out.size; omega
          have C0 := Keep.mk (cell_below c0 BW.out (by rw [add_block]; exact hb))
          have C1 := Keep.mk (cell_below c1 BW.out (by show (ad.add _).block < _; rw [add_block]; exact hb))
          have C2 := Keep.mk (cell_below c2 BW.out (by show (ad.add _).block < _; rw [add_block]; exact hb))
          have hbl := B0.out _ (List.getElem_mem hlt)
          have Q1' := Keep.mk (Q1.out i hlt)
          have Q2' := Keep.mk (fun k => Q2.out i k hlt)
          have Q3' := Keep.mk (fun k => Q3.out i k hlt)
          have Q4' := Keep.mk (Q4.out i hlt)
          have P2' := Keep.mk (P2.out i hlt)
          clear c0 c1 c2 Q1 Q2 Q3 Q4 P2
          generalize hx : ps[i] = p at *
          have HX := Keep.mk hx
          clear hx
          obtain ⟨hd, bd, rt⟩ := p
          dsimp only at *
          have c0 := C0.out
          have i1 : (0:Int) ≤ i := by omega
          have i2 : (i : Int) < ps.length := by omega
          go_upto_region 6 with fail
          go_cut [60] (fun sx wx => sx = .bool (!(decide (T ≤ hd) && decide (hd < S))) ∧ Keep (Below wo.heap.size wo wx))
          case first =>
            go_region_held3 (fun w' => w'.cell? ⟨w.heap.size, 0, none⟩ = some (.int .i64 T) ∧ w'.cell? ⟨w.heap.size, 1, none⟩ = some (.int .i64 S) ∧ w'.cell? ⟨w.heap.size, 2, none⟩ = some (.int .i64 st) ∧ w'.cell? ⟨w.heap.size, 3, none⟩ = some (.slice (some ad) ps.length c) ∧ w'.cell? (ad.add (i * 3)) = some (.int .i64 hd))
              (first | exact ⟨q0, q1, q2, q3, c0⟩ | exact ⟨s0, s1, s2, s3, s4⟩) (first
              | (go_at_call 68; refine (KH.out _ hd).mono ?_; rintro e w9 ⟨rfl, hb9⟩; have Z9 : Keep (Below wo.heap.size wo w9) := ⟨below_step (below_drew1 (Below.refl _ _)) hb9 (Nat.le_refl _)⟩; have s0 := cell_below q0 Z9.out nw; have s1 := cell_below q1 Z9.out nw; have s2 := cell_below q2 Z9.out nw; have s3 := cell_below q3 Z9.out nw; have s4 := cell_below c0 Z9.out na; clear hb9))
            all_goals (go_wp2_with fail; go_meet; exact ⟨by first | rfl | simp, Z9⟩)
          case rest =>
          obtain ⟨rfl, Z9⟩ := hcut
          clear q0 q1 q2 q3 c0
          generalize hq : (decide (T ≤ hd) && decide (hd < S)) = b
          have HQ := Keep.mk hq
          clear hq
          cases b with
          | false =>
            go_wp2
            go_ret
            exact ⟨by rw [P2'.out (Q1'.out HQ.out)]; rfl, below_step BW.out Z9.out BW.out.size⟩
          | true =>
            go_wp2
            clear Q1'
            go_loopg [4] bd.length (fun gg s4 wr => ∃ m : Nat, m ≤ bd.length ∧ bd.length - m ≤ gg ∧ s4 = .int .i64 m ∧ Keep (∀ k (hk : k < bd.length), k < m → (decide (0 ≤ bd[k]) && decide (bd[k] < S)) = true) ∧ Keep (Below wo.heap.size wo wr))
            case atStart => exact ⟨0, Nat.zero_le _, by omega, rfl, ⟨fun k _ hk => absurd hk (Nat.not_lt_zero _)⟩, Z9⟩
            case round =>
              clear Z9
              obtain ⟨m, hm, hgm, rfl, HS, BW2⟩ := hrel
              have BK2 := BK.out.below BW2.out BK.out.lt
              have q0 := BK2.cell 0
              have q1 := BK2.cell 1
              have q2 := BK2.cell 2
              have q3 := BK2.cell 3
              simp at q0 q1 q2 q3
              have c1 := cell_below C1.out BW2.out na
              have nw2 := BK2.lt
              obtain ⟨wi, rfl⟩ : ∃ wi : World, wi = wr := ⟨_, rfl⟩
              have na2 : (ad.add (i * 3)).block < wi.heap.size := by have := BW2.out.size; omega
              by_cases hltm : m < bd.length
              · obtain ⟨a2, rfl, hb2, hc2⟩ := hrb.int m hltm
                replace hc2 := cell_below hc2 (below_step BW.out BW2.out BW.out.size) (by rw [add_block]; exact hb2)
                have nb2 : (a2.add m).block < wi.heap.size := by rw [add_block]; have := BW2.out.size; have := BW.out.size; omega
                have Q2m := Keep.mk (Q2'.out m hltm)
                generalize hy : bd[m] = y at *
                have HY := Keep.mk hy
                clear hy
                have j1 : (0:Int) ≤ m := by omega
                have j2 : (m : Int) < bd.length := by omega
                go_upto_region 11 with fail
                go_cut [83] (fun sx wx => sx = .bool (!(decide (0 ≤ y) && decide (y < S))) ∧ Keep (Below wi.heap.size wi wx))
                case first =>
                  go_region_held3 (fun w' => w'.cell? ⟨w.heap.size, 0, none⟩ = some (.int .i64 T) ∧ w'.cell? ⟨w.heap.size, 1, none⟩ = some (.int .i64 S) ∧ w'.cell? ⟨w.heap.size, 2, none⟩ = some (.int .i64 st) ∧ w'.cell? ⟨w.heap.size, 3, none⟩ = some (.slice (some ad) ps.length c) ∧ w'.cell? ⟨(ad.add (i * 3)).block, (ad.add (i * 3)).off + 1, none⟩ = some (.slice (some a2) bd.length cb) ∧ w'.cell? (a2.add m) = some (.int .i64 y))
                    (first | exact ⟨q0, q1, q2, q3, c1, hc2⟩ | exact ⟨s0, s1, s2, s3, s4, s5⟩) (first
                    | (go_at_call 69; refine (KS.out _ y).mono ?_; rintro e w9 ⟨rfl, hb9⟩; have Z9 : Keep (Below wi.heap.size wi w9) := ⟨below_step (below_drew1 (Below.refl _ _)) hb9 (Nat.le_refl _)⟩; have s0 := cell_below q0 Z9.out nw2; have s1 := cell_below q1 Z9.out nw2; have s2 := cell_below q2 Z9.out nw2; have s3 := cell_below q3 Z9.out nw2; have s4 := cell_below c1 Z9.out na2; have s5 := cell_below hc2 Z9.out nb2; clear hb9))
                  all_goals (go_wp2_with fail; go_meet; exact ⟨by first | rfl | simp, Z9⟩)
                case rest =>
                obtain ⟨rfl, Z9⟩ := hcut
                clear q0 q1 q2 q3 c1 hc2
                generalize hq : (decide (0 ≤ y) && decide (y < S)) = b2
                have HQ2 := Keep.mk hq
                clear hq
                cases b2 with
                | false =>
                  go_wp2
                  go_ret
                  exact ⟨by rw [P2'.out (Q2m.out HQ2.out)]; rfl, below_step BW.out (below_step BW2.out Z9.out BW2.out.size) BW.out.size⟩
                | true =>
                  go_wp2
                  go_roundg (bd.length - (m + 1))
                  case measure => omega
                  case rel =>
                    refine ⟨m + 1, by omega, by omega, by go_num, ⟨fun k hk hkm => ?_⟩, ⟨below_step BW2.out Z9.out BW2.out.size⟩⟩
                    by_cases e : k = m
                    · subst e; rw [HY.out]; exact HQ2.out
                    · exact HS.out k hk (by omega)
              · have em : m = bd.length := by omega
                subst em
                go_wp2
                clear q0 q1 q2 q3 c1
                go_loopg [5] i (fun gg s5 wr => ∃ m : Nat, m ≤ i ∧ i - m ≤ gg ∧ s5 = .int .i64 m ∧ Keep (∀ k (hk : k < i), k < m → sameP ⟨hd, bd, rt⟩ (ps[k]'(by omega)) = false) ∧ Keep (Below wo.heap.size wo wr))
                case atStart => exact ⟨0, Nat.zero_le _, by omega, rfl, ⟨fun k _ hk => absurd hk (Nat.not_lt_zero _)⟩, BW2⟩
                case round =>
                  clear BW2 BK2 nw2 na2
                  obtain ⟨m, hm, hgm, rfl, HT, BW2⟩ := hrel
                  obtain ⟨wi, rfl⟩ : ∃ wi : World, wi = wr := ⟨_, rfl⟩
                  have BK2 := BK.out.below BW2.out BK.out.lt
                  have q3 := BK2.cell 3
                  simp at q3
                  have nw2 := BK2.lt
                  have na2 : (ad.add (i * 3)).block < wi.heap.size := by have := BW2.out.size; omega
                  by_cases hltm : m < i
                  · obtain ⟨ad', Ad, cd, he, hbd, d0, d1, d2, hld, hrd⟩ := R0.out m (by omega)
                    cases he
                    have hbl2 := B0.out _ (List.getElem_mem (show m < ps.length by omega))
                    have BWW : Keep (Below w.heap.size w wi) := ⟨below_step BW.out BW2.out BW.out.size⟩
                    have nd2 : (ad.add (m * 3)).block < wi.heap.size := by rw [add_block]; have := BWW.out.size; omega
                    replace d0 := cell_below d0 BWW.out (by rw [add_block]; exact hb)
                    replace d1 := cell_below d1 BWW.out (by show (ad.add _).block < _; rw [add_block]; exact hb)
                    replace d2 := cell_below d2 BWW.out (by show (ad.add _).block < _; rw [add_block]; exact hb)
                    have c0 := cell_below C0.out BW2.out na
                    have c1 := cell_below C1.out BW2.out na
                    have c2 := cell_below C2.out BW2.out na
                    have Q3m := Keep.mk (Q3'.out m hltm)
                    have KX := Keep.mk fun W (hW : Below wi.heap.size wi W) => refSame ⟨hd, bd, rt⟩ ps[m] Ab Ad cb cd W hbl hlb hld ((hrb.below (below_step BWW.out hW BWW.out.size)).mono (by have := BWW.out.size; have := hW.size; omega)) ((hrd.below (below_step BWW.out hW BWW.out.size)).mono (by have := BWW.out.size; have := hW.size; omega))
                    generalize hy : ps[m] = y at *
                    have HY := Keep.mk hy
                    clear hy
                    obtain ⟨hd', bd', rt'⟩ := y
                    unfold prV at KX
                    dsimp only at *
                    have j1 : (0:Int) ≤ m := by omega
                    have j2 : (m : Int) < ps.length := by omega
                    have j3 : (m : Int) < i := by omega
                    go_upto_region 16 with fail
                    go_cut [99] (fun sx wx => sx = .bool (sameP ⟨hd, bd, rt⟩ ⟨hd', bd', rt'⟩) ∧ Keep (Below wi.heap.size wi wx))
                    case first =>
                      go_region_held3 (fun w' => w'.cell? ⟨w.heap.size, 3, none⟩ = some (.slice (some ad) ps.length c) ∧ w'.cell? (ad.add (i * 3)) = some (.int .i64 hd) ∧ w'.cell? ⟨(ad.add (i * 3)).block, (ad.add (i * 3)).off + 1, none⟩ = some (.slice Ab bd.length cb) ∧ w'.cell? ⟨(ad.add (i * 3)).block, (ad.add (i * 3)).off + 2, none⟩ = some (.bool rt) ∧ w'.cell? (ad.add (m * 3)) = some (.int .i64 hd') ∧ w'.cell? ⟨(ad.add (m * 3)).block, (ad.add (m * 3)).off + 1, none⟩ = some (.slice Ad bd'.length cd) ∧ w'.cell? ⟨(ad.add (m * 3)).block, (ad.add (m * 3)).off + 2, none⟩ = some (.bool rt'))
                        (first | exact ⟨q3, c0, c1, c2, d0, d1, d2⟩ | exact ⟨s3, s0, s1, s2, s4, s5, s6⟩) (first
                        | (go_at_call 70; refine (KX.out _ (below_drew1 (Below.refl _ _))).mono ?_; rintro e w9 ⟨rfl, hb9⟩; have Z9 : Keep (Below wi.heap.size wi w9) := ⟨below_step (below_drew1 (Below.refl _ _)) hb9 (Nat.le_refl _)⟩; have s3 := cell_below q3 Z9.out nw2; have s0 := cell_below c0 Z9.out na2; have s1 := cell_below c1 Z9.out na2; have s2 := cell_below c2 Z9.out na2; have s4 := cell_below d0 Z9.out nd2; have s5 := cell_below d1 Z9.out nd2; have s6 := cell_below d2 Z9.out nd2; clear hb9))
                      all_goals (go_wp2_with fail; go_meet; exact ⟨by first | rfl | simp, Z9⟩)
                    case rest =>
                    obtain ⟨rfl, Z9⟩ := hcut
                    clear q3 c0 c1 c2 d0 d1 d2 KX
                    generalize hq : sameP ⟨hd, bd, rt⟩ ⟨hd', bd', rt'⟩ = b3
                    have HQ3 := Keep.mk hq
                    clear hq
                    cases b3 with
                    | true =>
                      go_wp2
                      go_ret
                      exact ⟨by rw [P2'.out (Q3m.out HQ3.out)]; rfl, below_step BWW.out Z9.out BWW.out.size⟩
                    | false =>
                      go_wp2
                      go_roundg (i - (m + 1))
                      case measure => omega
                      case rel =>
                        refine ⟨m + 1, by omega, by omega, by go_num, ⟨fun k hk hkm => ?_⟩, ⟨below_step BW2.out Z9.out BW2.out.size⟩⟩
                        by_cases e : k = m
                        · subst e; rw [HY.out]; exact HQ3.out
                        · exact HT.out k hk (by omega)
                  · have em : m = i := by omega
                    subst em
                    have HOK := Keep.mk (Q4'.out HQ.out (fun k hk => HS.out k hk hk) (fun k hk => HT.out k hk hk))
                    have j3 : ¬ ((m : Int) < m) := by omega
                    go_wp2
                    go_roundg (ps.length - (m + 1))
                    case measure => omega
                    case rel =>
                      refine ⟨m + 1, by omega, by omega, by go_num, ⟨fun j hj => ?_⟩, ⟨below_step BW.out BW2.out BW.out.size⟩, ⟨BK2⟩⟩
                      by_cases e : j = m
                      · subst e; exact HOK.out
                      · exact HA.out j (by omega)
        · have em : i = ps.length := by omega
          subst em
          go_wp2
          go_ret
          exact ⟨by rw [P3.out (by first | rfl | trivial) HA.out]; rfl, BW.out⟩
end Go.Proofs.Ytadabkkkalgehaa.H
namespace Go.Proofs.Ytadabkkkalgehaa.H
open Go.RowKit
set_option linter.unusedVariables false
set_option linter.unusedSimpArgs false
theorem any_at {p : Pr → Bool} {l : List Pr} {i : Nat} (hi : i < l.length) (h : p l[i] = true) : l.any p = true := List.any_eq_true.2 ⟨_, List.getElem_mem hi, h⟩
theorem any_none {p : Pr → Bool} {l : List Pr} (h : ∀ i (hi : i < l.length), p l[i] = false) : l.any p = false := List.any_eq_false.2 fun x hx => by
  obtain ⟨i, hi, rfl⟩ := List.getElem_of_mem hx
  rw [h i hi]; simp
theorem used_no {g : Gr} (ok : GrOk g) {x : Nat} (h0 : g.T ≤ x) (h1 : (x : Int) < g.S) (h : gb (comeL g) x = false ∨ gb (goodL g) x = false) : usedB g = false := by
  cases hu : usedB g with
  | false => rfl
  | true =>
    have := (used_ref ok).1 hu x h0 h1
    rcases h with h | h <;> rw [h] at this <;> simp at this
theorem used_yes {g : Gr} (ok : GrOk g) (h : ∀ x : Nat, g.T ≤ x → (x : Int) < g.S → gb (comeL g) x = true ∧ gb (goodL g) x = true) : usedB g = true := by
  refine (used_ref ok).2 fun s h0 h1 => ?_
  obtain ⟨x, rfl⟩ := Int.eq_ofNat_of_zero_le (show 0 ≤ s by have := ok.t0; omega)
  exact h x h0 h1
theorem round_yes {g : Gr} (ok : GrOk g) {x : Nat} (h0 : g.T ≤ x) (h1 : (x : Int) < g.S) (h : gb (rchL g x) x = true) : roundB g = true := (round_ref ok).2 ⟨x, h0, h1, h⟩
theorem round_no {g : Gr} (ok : GrOk g) (h : ∀ x : Nat, g.T ≤ x → (x : Int) < g.S → gb (rchL g x) x = false) : roundB g = false := by
  cases hu : roundB g with
  | false => rfl
  | true =>
    obtain ⟨s, h0, h1, h2⟩ := (round_ref ok).1 hu
    obtain ⟨x, rfl⟩ := Int.eq_ofNat_of_zero_le (show 0 ≤ s by have := ok.t0; omega)
    rw [h x h0 h1] at h2
    cases h2
set_option maxRecDepth 100000 in
set_option maxHeartbeats 8000000 in
theorem refcheck_any (g : Gr) (A : Option Addr) (c : Nat) (w : World) (h : GrIn w g A c) :
    Calls Try.prog 40 #[grV g A c] w fun e w' => e = .returned (.int .i64 (checkI g)) ∧ Below w.heap.size w w' := by
  have H0 := Keep.mk h
  have R0 := Keep.mk h.r
  have B0 := Keep.mk h.b
  have HL : g.ps.length ≤ 9223372036854775807 := h.l2
  clear h
  have KN := Keep.mk fun W (hW : Below w.heap.size w W) => refNumbers g A c W (H0.out.below hW)
  have KC := Keep.mk fun (hn : numbersB g = true) W (hW : Below w.heap.size w W) => refCome g A c W B0.out (H0.out.below hW).r (numbersB_ok hn).1
  have KG := Keep.mk fun (hn : numbersB g = true) W (hW : Below w.heap.size w W) => refGood g A c W B0.out (H0.out.below hW).r (numbersB_ok hn).1
  have KR := Keep.mk fun (hn : numbersB g = true) (x : Nat) (hx : (x : Int) < g.S) W (hW : Below w.heap.size w W) => refRound g x A c W B0.out (H0.out.below hW).r (numbersB_ok hn).1 (Int.natCast_nonneg x) hx
  have HC : Keep (checkI g = if numbersB g = false then 2 else if g.ps.any (fun p => decide (8 < p.body.length)) = true then 3 else if g.ps.any (fun p => decide (p.body.length = 0)) = true then 130
    else if usedB g = false then 131 else if roundB g = true then 132 else 0) := ⟨rfl⟩
  have HN : Keep (numbersB g = true → GrOk g) := ⟨fun hn => (numbersB_ok hn).1⟩
  have CL := Keep.mk (comeL_len g)
  have GL := Keep.mk (fun (hn : numbersB g = true) => goodL_len (numbersB_ok hn).1)
  have F2 := Keep.mk (fun i (hi : i < g.ps.length) (h : 8 < g.ps[i].body.length) => any_at (p := fun p => decide (8 < p.body.length)) hi (decide_eq_true h))
  have F2' := Keep.mk (fun (h : ∀ i (hi : i < g.ps.length), ¬ 8 < g.ps[i].body.length) => any_none (p := fun p => decide (8 < p.body.length)) (fun i hi => decide_eq_false (h i hi)))
  have F3 := Keep.mk (fun i (hi : i < g.ps.length) (h : g.ps[i].body.length = 0) => any_at (p := fun p => decide (p.body.length = 0)) hi (decide_eq_true h))
  have F3' := Keep.mk (fun (h : ∀ i (hi : i < g.ps.length), ¬ g.ps[i].body.length = 0) => any_none (p := fun p => decide (p.body.length = 0)) (fun i hi => decide_eq_false (h i hi)))
  have F4 := Keep.mk (fun (hn : numbersB g = true) (x : Nat) h0 h1 h => used_no (numbersB_ok hn).1 (x := x) h0 h1 h)
  have F4' := Keep.mk (fun (hn : numbersB g = true) h => used_yes (numbersB_ok hn).1 h)
  have F5 := Keep.mk (fun (hn : numbersB g = true) (x : Nat) h0 h1 h => round_yes (numbersB_ok hn).1 (x := x) h0 h1 h)
  have F5' := Keep.mk (fun (hn : numbersB g = true) h => round_no (numbersB_ok hn).1 h)
  generalize checkI g = RES at *
  generalize numbersB g = n1 at *
  generalize g.ps.any (fun p => decide (8 < p.body.length)) = n2 at *
  generalize g.ps.any (fun p => decide (p.body.length = 0)) = n3 at *
  generalize usedB g = n4 at *
  generalize roundB g = n5 at *
  generalize comeL g = C at *
  generalize goodL g = G at *
  generalize rchL g = RR at *
  clear H0
  obtain ⟨T, S, st, ps⟩ := g
  unfold grV at *
  dsimp only at *
  have B1 : Keep (Below w.heap.size w (w.alloc (.cells #[.int .i64 T, .int .i64 S, .int .i64 st, .slice A ps.length c] 24))) := ⟨(Below.refl _ _).alloc (Nat.le_refl _) _⟩
  have BG1 : Keep (Blk (w.alloc (.cells #[.int .i64 T, .int .i64 S, .int .i64 st, .slice A ps.length c] 24)) w.heap.size 24 #[.int .i64 T, .int .i64 S, .int .i64 st, .slice A ps.length c]) := ⟨Blk.new _ _ _⟩
  go_enter Try.func40, Try.ntmps40
  go_wp2_with fail
  refine (KN.out _ B1.out).mono ?_
  rintro e w1 ⟨rfl, hb⟩
  have B2 : Keep (Below w.heap.size w w1) := ⟨below_step B1.out hb B1.out.size⟩
  have BG2 := Keep.mk (BG1.out.below hb BG1.out.lt)
  clear hb B1 BG1 KN
  cases n1 with
  | false =>
    clear F4 F4' F5 F5' KC KG KR
    go_wp2
    go_ret
    exact ⟨by rw [HC.out]; rfl, B2.out⟩
  | true =>
    obtain ⟨t0, t1, s0, s1, st0, st1, m0, m1, pr⟩ := HN.out rfl
    dsimp only at t0 t1 s0 s1 st0 st1 m0 m1
    clear pr HN
    obtain ⟨t, rfl⟩ := Int.eq_ofNat_of_zero_le (show 0 ≤ T by omega)
    obtain ⟨n, rfl⟩ := Int.eq_ofNat_of_zero_le (show 0 ≤ S by omega)
    replace GL := Keep.mk (GL.out rfl)
    replace F4 := Keep.mk (F4.out rfl)
    replace F4' := Keep.mk (F4'.out rfl)
    replace F5 := Keep.mk (F5.out rfl)
    replace F5' := Keep.mk (F5'.out rfl)
    replace KC := Keep.mk (KC.out rfl)
    replace KG := Keep.mk (KG.out rfl)
    replace KR := Keep.mk (KR.out rfl)
    go_wp2
    go_loopg [3] ps.length (fun gg s3 wr => ∃ i : Nat, i ≤ ps.length ∧ ps.length - i ≤ gg ∧ s3 = .int .i64 i ∧ Keep (∀ j (hj : j < ps.length), j < i → ¬ 8 < ps[j].body.length) ∧ wr = w1)
    case atStart => exact ⟨0, Nat.zero_le _, by omega, rfl, ⟨fun j _ hj => absurd hj (Nat.not_lt_zero _)⟩, rfl⟩
    case round =>
    obtain ⟨i, hi, hg, rfl, HA, rfl⟩ := hrel
    have q3 := BG2.out.cell 3
    simp at q3
    by_cases hlt : i < ps.length
    · obtain ⟨ad, Ab, cb, rfl, hb, c0, c1, c2, hlb, hrb⟩ := R0.out i hlt
      replace c1 := cell_below c1 B2.out (by show (ad.add _).block < _; rw [add_block]; exact hb)
      have hbl := B0.out _ (List.getElem_mem hlt)
      have F2i := Keep.mk (F2.out i hlt)
      have HAi : Keep (¬ 8 < ps[i].body.length → ∀ j (hj : j < ps.length), j < i + 1 → ¬ 8 < ps[j].body.length) := ⟨fun h j hj hji => by
        by_cases e : j = i
        · subst e; exact h
        · exact HA.out j hj (by omega)⟩
      clear c0 c2 hrb hlb
      generalize ps[i].body.length = bl at *
      have i1 : (0:Int) ≤ i := by omega
      have i2 : (i : Int) < ps.length := by omega
      by_cases h8 : 8 < bl
      · have e := Keep.mk (F2i.out h8)
        have h8' : (8:Int) < bl := by omega
        clear h8
        go_wp2
        go_ret
        exact ⟨by rw [HC.out, e.out]; rfl, B2.out⟩
      · have e := Keep.mk (HAi.out h8)
        have h8' : ¬ (8:Int) < bl := by omega
        clear h8
        go_wp2
        go_roundg (ps.length - (i + 1))
        case measure => omega
        case rel => exact ⟨i + 1, by omega, by omega, by go_num, e, rfl⟩
    have ei : i = ps.length := by omega
    subst ei
    have e2 := Keep.mk (F2'.out (fun i hi => HA.out i hi hi))
    clear HA F2 F2' hi hg hlt
    go_wp2
    clear q3
    go_loopg [4] ps.length (fun gg s4 wr' => ∃ i : Nat, i ≤ ps.length ∧ ps.length - i ≤ gg ∧ s4 = .int .i64 i ∧ Keep (∀ j (hj : j < ps.length), j < i → ¬ ps[j].body.length = 0) ∧ wr' = wr)
    case atStart => exact ⟨0, Nat.zero_le _, by omega, rfl, ⟨fun j _ hj => absurd hj (Nat.not_lt_zero _)⟩, rfl⟩
    case round =>
    obtain ⟨i, hi, hg, rfl, HA, rfl⟩ := hrel
    have q3 := BG2.out.cell 3
    simp at q3
    by_cases hlt : i < ps.length
    · obtain ⟨ad, Ab, cb, rfl, hb, c0, c1, c2, hlb, hrb⟩ := R0.out i hlt
      replace c1 := cell_below c1 B2.out (by show (ad.add _).block < _; rw [add_block]; exact hb)
      have hbl := B0.out _ (List.getElem_mem hlt)
      have F3i := Keep.mk (F3.out i hlt)
      have HAi : Keep (¬ ps[i].body.length = 0 → ∀ j (hj : j < ps.length), j < i + 1 → ¬ ps[j].body.length = 0) := ⟨fun h j hj hji => by
        by_cases e : j = i
        · subst e; exact h
        · exact HA.out j hj (by omega)⟩
      clear c0 c2 hrb hlb
      generalize ps[i].body.length = bl at *
      have i1 : (0:Int) ≤ i := by omega
      have i2 : (i : Int) < ps.length := by omega
      by_cases h8 : bl = 0
      · have e := Keep.mk (F3i.out h8)
        have h8' : ((bl : Int) == 0) = true := by simp [h8]
        clear h8
        go_wp2
        go_ret
        exact ⟨by rw [HC.out, e2.out, e.out]; rfl, B2.out⟩
      · have e := Keep.mk (HAi.out h8)
        have h8' : ((bl : Int) == 0) = false := by simp only [beq_eq_false_iff_ne]; omega
        clear h8
        go_wp2
        go_roundg (ps.length - (i + 1))
        case measure => omega
        case rel => exact ⟨i + 1, by omega, by omega, by go_num, e, rfl⟩
    have ei : i = ps.length := by omega
    subst ei
    have e3 := Keep.mk (F3'.out (fun i hi => HA.out i hi hi))
    clear HA F3 F3' hi hg hlt
    obtain ⟨wo, rfl⟩ : ∃ wo : World, wo = wr := ⟨_, rfl⟩
    go_upto_region 13 with fail
    clear q3
    have q0 := BG2.out.cell 0
    have q1 := BG2.out.cell 1
    have q2 := BG2.out.cell 2
    have q3 := BG2.out.cell 3
    simp at q0 q1 q2 q3
    have nw := BG2.out.lt
    simp only [Int.toNat_natCast] at KC KG CL GL
    go_cut [5, 6] (fun s5 s6 wx => ∃ g1 g2 : Nat, s5 = .slice (some ⟨g1, 0, none⟩) n n ∧ s6 = .slice (some ⟨g2, 0, none⟩) n n ∧ Keep (Blk wx g1 4 (bools C)) ∧ Keep (Blk wx g2 4 (bools G)) ∧ Keep (Below wo.heap.size wo wx))
    case first =>
      go_region_held3 (fun w' => w'.cell? ⟨w.heap.size, 0, none⟩ = some (.int .i64 t) ∧ w'.cell? ⟨w.heap.size, 1, none⟩ = some (.int .i64 n) ∧ w'.cell? ⟨w.heap.size, 2, none⟩ = some (.int .i64 st) ∧ w'.cell? ⟨w.heap.size, 3, none⟩ = some (.slice A ps.length c))
        (first | exact ⟨q0, q1, q2, q3⟩ | exact ⟨s0', s1', s2', s3'⟩ | exact ⟨t0', t1', t2', t3'⟩) (first
        | (go_at_call 55; refine (KC.out _ (below_drew1 B2.out)).mono ?_; rintro e w9 ⟨g1, rfl, hg1, hB1, hb9⟩; have Z9 : Keep (Below wo.heap.size wo w9) := ⟨below_step (below_drew1 (Below.refl _ _)) hb9 (Nat.le_refl _)⟩; have s0' := cell_below q0 Z9.out nw; have s1' := cell_below q1 Z9.out nw; have s2' := cell_below q2 Z9.out nw; have s3' := cell_below q3 Z9.out nw; clear hb9)
        | (go_at_call 56; refine (KG.out _ (below_step B2.out Z9.out B2.out.size)).mono ?_; rintro e w10 ⟨g2, rfl, hg2, hB2, hb10⟩; have hB1' := hB1.below hb10 hB1.lt; have Z10 : Keep (Below wo.heap.size wo w10) := ⟨below_step Z9.out hb10 Z9.out.size⟩; have t0' := cell_below q0 Z10.out nw; have t1' := cell_below q1 Z10.out nw; have t2' := cell_below q2 Z10.out nw; have t3' := cell_below q3 Z10.out nw; clear hb10))
      all_goals (go_wp2_with fail; go_meet; exact ⟨g1, g2, rfl, rfl, ⟨hB1'⟩, ⟨hB2⟩, Z10⟩)
    case rest =>
    obtain ⟨g1, g2, rfl, rfl, HB1, HB2, Z⟩ := hcut
    have BG3 := Keep.mk (BG2.out.below Z.out BG2.out.lt)
    have B3 : Keep (Below w.heap.size w wc) := ⟨below_step B2.out Z.out B2.out.size⟩
    clear q0 q1 q2 q3 BG2 B2 Z KC KG nw
    have q0 := BG3.out.cell 0
    simp at q0
    go_wp2
    clear q0
    go_loopg [7] n (fun gg s7 wr' => ∃ x : Nat, t ≤ x ∧ x ≤ n ∧ n - x ≤ gg ∧ s7 = .int .i64 x ∧ Keep (∀ y : Nat, (t : Int) ≤ y → y < x → gb C y = true ∧ gb G y = true) ∧ wr' = wc)
    case atStart => exact ⟨t, Nat.le_refl _, by omega, by omega, rfl, ⟨fun y h1 h2 => by omega⟩, rfl⟩
    case round =>
    obtain ⟨x, hx0, hx, hg, rfl, HA, rfl⟩ := hrel
    have q1 := BG3.out.cell 1
    simp at q1
    by_cases hlt : x < n
    · have c1 := HB1.out.cell x
      rw [bools_gb _ x (by have := CL.out; omega)] at c1
      have c2 := HB2.out.cell x
      rw [bools_gb _ x (by have := GL.out; omega)] at c2
      have i2 : (x : Int) < n := by omega
      have F4x := Keep.mk (F4.out x (by omega) (by omega))
      have HAx : Keep (gb C x = true → gb G x = true → ∀ y : Nat, (t : Int) ≤ y → y < x + 1 → gb C y = true ∧ gb G y = true) := ⟨fun h1 h2 y hy hyx => by
        by_cases e : y = x
        · subst e; exact ⟨h1, h2⟩
        · exact HA.out y hy (by omega)⟩
      generalize gb C x = v1 at *
      generalize gb G x = v2 at *
      cases v1 with
      | false =>
        have e := Keep.mk (F4x.out (.inl rfl))
        clear F4x HAx
        go_wp2
        go_ret
        exact ⟨by rw [HC.out, e2.out, e3.out, e.out]; rfl, B3.out⟩
      | true =>
        cases v2 with
        | false =>
          have e := Keep.mk (F4x.out (.inr rfl))
          clear F4x HAx
          go_wp2
          go_ret
          exact ⟨by rw [HC.out, e2.out, e3.out, e.out]; rfl, B3.out⟩
        | true =>
          have e := Keep.mk (HAx.out rfl rfl)
          clear F4x HAx
          go_wp2
          go_roundg (n - (x + 1))
          case measure => omega
          case rel => exact ⟨x + 1, by omega, by omega, by omega, by go_num, e, rfl⟩
    have ei : x = n := by omega
    subst ei
    have e4 := Keep.mk (F4'.out (fun y h1 h2 => HA.out y h1 (by omega)))
    clear HA F4 F4' hx hx0 hg hlt HB1 HB2
    have q0 := BG3.out.cell 0
    simp at q0
    go_wp2
    clear q0 q1
    go_loopg [8] x (fun gg s8 wr' => ∃ y : Nat, t ≤ y ∧ y ≤ x ∧ x - y ≤ gg ∧ s8 = .int .i64 y ∧ Keep (∀ z : Nat, (t : Int) ≤ z → z < y → gb (RR z) z = false) ∧ Keep (Below w.heap.size w wr') ∧ Keep (Blk wr' w.heap.size 24 #[.int .i64 t, .int .i64 x, .int .i64 st, .slice A ps.length c]))
    case atStart => exact ⟨t, Nat.le_refl _, by omega, by omega, rfl, ⟨fun y h1 h2 => by omega⟩, B3, BG3⟩
    case round =>
    clear B3 BG3
    obtain ⟨y, hx0, hx, hg, rfl, HA, B4, BG4⟩ := hrel
    have q0 := BG4.out.cell 0
    have q1 := BG4.out.cell 1
    have q2 := BG4.out.cell 2
    have q3 := BG4.out.cell 3
    simp at q0 q1 q2 q3
    by_cases hlt : y < x
    · have i2 : (y : Int) < x := by omega
      have F5x := Keep.mk (F5.out y (by omega) (by omega))
      have KRx := Keep.mk (KR.out y (by omega) _ B4.out)
      have HAx : Keep (gb (RR y) y = false → ∀ z : Nat, (t : Int) ≤ z → z < y + 1 → gb (RR z) z = false) := ⟨fun h1 z hy hyx => by
        by_cases e : z = y
        · subst e; exact h1
        · exact HA.out z hy (by omega)⟩
      generalize gb (RR y) y = v1 at *
      go_wp2_with fail
      refine KRx.out.mono ?_
      rintro e w5 ⟨rfl, hb⟩
      have B5 : Keep (Below w.heap.size w w5) := ⟨below_step B4.out hb B4.out.size⟩
      have BG5 := Keep.mk (BG4.out.below hb BG4.out.lt)
      clear hb KRx
      cases v1 with
      | true =>
        have e := Keep.mk (F5x.out rfl)
        clear F5x HAx
        go_wp2
        go_ret
        exact ⟨by rw [HC.out, e2.out, e3.out, e4.out, e.out]; rfl, B5.out⟩
      | false =>
        have e := Keep.mk (HAx.out rfl)
        clear F5x HAx
        go_wp2
        go_roundg (x - (y + 1))
        case measure => omega
        case rel => exact ⟨y + 1, by omega, by omega, by omega, by go_num, e, B5, BG5⟩
    · have ei : y = x := by omega
      subst ei
      have e5 := Keep.mk (F5'.out (fun z h1 h2 => HA.out z h1 (by omega)))
      go_wp2
      go_ret
      exact ⟨by rw [HC.out, e2.out, e3.out, e4.out, e5.out]; rfl, B4.out⟩
end Go.Proofs.Ytadabkkkalgehaa.H
namespace Go.Proofs.Ytadabkkkalgehaa.PFt
open Go.RowKit Go.Proofs.YtadabkkkalgehaaW.PrintWords Go.Proofs.YtadabkkkalgehaaW.PrintLast Go.Proofs.YtadabkkkalgehaaW.PrintMore
attribute [local go_sem] max2_int min2_int max_two min_two max_three min_three max_four min_four   -- for this text's walks alone
set_option linter.unusedVariables false
set_option linter.unusedSimpArgs false
theorem info3 : (Try.prog.info? 3).map (fun i => (i.zero, i.size, i.bytes)) = some (some (.int .i64 0), 1, 8) := by kernel_rfl
theorem info43 : (Try.prog.info? 43).map (fun i => (i.zero, i.size, i.bytes)) = some (some (.agg #[(.int .i64 0), (.int .i64 0), (.slice none 0 0)]), 3, 40) := by kernel_rfl
theorem info55 : (Try.prog.info? 55).map (fun i => (i.zero, i.size, i.bytes)) = some (some (.agg #[(.int .i64 0), (.slice none 0 0), (.bool false)]), 3, 40) := by kernel_rfl
structure S55 where
  f0 : Int
  f1 : (List Int)
  f2 : Bool
def z55 : S55 := ⟨(0 : Int), ([] : List Int), false⟩
def k55 : Kd S55 := Kd.iso (Kd.pair (Kd.int .i64) (Kd.pair (Kd.slice 3 (Kd.int .i64)) Kd.bool)) (fun x : S55 => (x.f0, x.f1, x.f2))
theorem k55_open {w : World} {x : S55} {cs : List Value} (h : k55.K w x cs) : ∃ A1 c1, cs = [.int .i64 x.f0, .slice A1 x.f1.length c1, .bool x.f2] ∧ x.f1.length ≤ c1 ∧ (Kd.int .i64).C w A1 x.f1.length x.f1 := by
  obtain ⟨_, _, rfl, rfl, ⟨_, _, rfl, ⟨A1, c1, rfl, l1, g1⟩, rfl⟩⟩ := h
  exact ⟨A1, c1, rfl, l1, g1⟩
theorem k55_mkM (w : World) (base : Nat) (ok : Nat → Prop) (x : S55) {v1 : Value} (g1 : (Kd.int .i64).R 3 w base ok v1 x.f1) : k55.M w base ok x [.int .i64 x.f0, v1, .bool x.f2] := ⟨[.int .i64 x.f0], [v1, .bool x.f2], rfl, rfl, ⟨[v1], [.bool x.f2], rfl, ⟨v1, rfl, g1⟩, rfl⟩⟩
def rd_T55 (xs : List S55) (i : Int) : S55 := xs.getD i.toNat z55
theorem at_T55 {w : World} {A : Option Addr} {n : Nat} {xs : List S55} (h : Kd.C k55 w A n xs) (i : Int) (h0 : 0 ≤ i) (h1 : i < n) : ∃ ad A1 c1, A = some ad ∧ w.cell? (ad.add (i.toNat * 3)) = some (.int .i64 (rd_T55 xs i).f0) ∧ w.cell? ⟨(ad.add (i.toNat * 3)).block, (ad.add (i.toNat * 3)).off + 1, none⟩ = some (.slice A1 (rd_T55 xs i).f1.length c1) ∧ w.cell? ⟨(ad.add (i.toNat * 3)).block, (ad.add (i.toNat * 3)).off + 2, none⟩ = some (.bool (rd_T55 xs i).f2) ∧ (rd_T55 xs i).f1.length ≤ c1 ∧ (Kd.int .i64).C w A1 (rd_T55 xs i).f1.length (rd_T55 xs i).f1 := by
  obtain ⟨ad, c, e, _, hK, hc0⟩ := Kd.C_get h z55 i h0 h1
  have hc : ∀ j u, c[j]? = some u → w.cell? (ad.add (i.toNat * 3 + j)) = some u := hc0
  obtain ⟨A1, c1, rfl, l1, g1⟩ := k55_open hK
  exact ⟨ad, A1, c1, e, hc 0 _ rfl, by rw [← add_field _ _ 1 (by omega)]; exact hc 1 _ rfl, by rw [← add_field _ _ 2 (by omega)]; exact hc 2 _ rfl, l1, g1⟩
structure S43 where
  f0 : Int
  f1 : Int
  f2 : (List S43)
def z43 : S43 := ⟨(0 : Int), (0 : Int), ([] : List S43)⟩
def F43 (d : Kd S43) : Kd S43 := Kd.iso (Kd.pair (Kd.int .i64) (Kd.pair (Kd.int .i64) (Kd.slice 43 d))) (fun x : S43 => (x.f0, x.f1, x.f2))
theorem mono43 : Kd.Mono F43 := Kd.mono_iso _ (Kd.mono_pair (Kd.mono_const _) (Kd.mono_pair (Kd.mono_const _) (Kd.mono_slice 43 Kd.mono_id)))
theorem sub43 : Kd.Sub F43 [43] := Kd.sub_iso _ (Kd.sub_pair (Kd.sub_const _ (by decide)) (Kd.sub_pair (Kd.sub_const _ (by decide)) (Kd.sub_slice 43 (by decide) Kd.sub_id)))
theorem sz43 : ∀ n, (Kd.upto F43 3 [43] n).sz = 3 := Kd.upto_sz (fun _ => rfl)
def k43 : Kd S43 := Kd.fix F43 3 [43] sz43 (Kd.upto_E sub43)
theorem k43_open {w : World} {x : S43} {cs : List Value} (h : k43.K w x cs) : ∃ A2 c2, cs = [.int .i64 x.f0, .int .i64 x.f1, .slice A2 x.f2.length c2] ∧ x.f2.length ≤ c2 ∧ k43.C w A2 x.f2.length x.f2 := by
  obtain ⟨n, h⟩ := h
  cases n with
  | zero => exact h.elim
  | succ n =>
    obtain ⟨_, _, rfl, rfl, ⟨_, _, rfl, rfl, ⟨A2, c2, rfl, l2, g2⟩⟩⟩ := h
    exact ⟨A2, c2, rfl, l2, Kd.fix_C g2⟩
theorem k43_mk (w : World) (x : S43) {A2 : Option Addr} {c2 : Nat} (l2 : x.f2.length ≤ c2) (g2 : k43.C w A2 x.f2.length x.f2) : k43.K w x [.int .i64 x.f0, .int .i64 x.f1, .slice A2 x.f2.length c2] := by
  obtain ⟨n2, q2⟩ := Kd.fix_C_back mono43 g2
  have r2 := Kd.upto_C_le mono43 sz43 (show n2 ≤ n2 by omega) q2
  exact ⟨n2 + 1, ⟨[.int .i64 x.f0], [.int .i64 x.f1, .slice A2 x.f2.length c2], rfl, rfl, ⟨[.int .i64 x.f1], [.slice A2 x.f2.length c2], rfl, rfl, ⟨A2, c2, rfl, l2, r2⟩⟩⟩⟩
theorem k43_mkM (w : World) (base : Nat) (ok : Nat → Prop) (x : S43) {v2 : Value} (g2 : k43.R 43 w base ok v2 x.f2) : k43.M w base ok x [.int .i64 x.f0, .int .i64 x.f1, v2] := by
  obtain ⟨n2, q2⟩ := Kd.fix_R_back mono43 g2
  have r2 := Kd.upto_R_le mono43 sz43 (show n2 ≤ n2 by omega) q2
  exact ⟨n2 + 1, ⟨[.int .i64 x.f0], [.int .i64 x.f1, v2], rfl, rfl, ⟨[.int .i64 x.f1], [v2], rfl, rfl, ⟨v2, rfl, r2⟩⟩⟩⟩
def rd_T43 (xs : List S43) (i : Int) : S43 := xs.getD i.toNat z43
theorem at_T43 {w : World} {A : Option Addr} {n : Nat} {xs : List S43} (h : Kd.C k43 w A n xs) (i : Int) (h0 : 0 ≤ i) (h1 : i < n) : ∃ ad A2 c2, A = some ad ∧ w.cell? (ad.add (i.toNat * 3)) = some (.int .i64 (rd_T43 xs i).f0) ∧ w.cell? ⟨(ad.add (i.toNat * 3)).block, (ad.add (i.toNat * 3)).off + 1, none⟩ = some (.int .i64 (rd_T43 xs i).f1) ∧ w.cell? ⟨(ad.add (i.toNat * 3)).block, (ad.add (i.toNat * 3)).off + 2, none⟩ = some (.slice A2 (rd_T43 xs i).f2.length c2) ∧ (rd_T43 xs i).f2.length ≤ c2 ∧ k43.C w A2 (rd_T43 xs i).f2.length (rd_T43 xs i).f2 := by
  obtain ⟨ad, c, e, _, hK, hc0⟩ := Kd.C_get h z43 i h0 h1
  have hc : ∀ j u, c[j]? = some u → w.cell? (ad.add (i.toNat * 3 + j)) = some u := hc0
  obtain ⟨A2, c2, rfl, l2, g2⟩ := k43_open hK
  exact ⟨ad, A2, c2, e, hc 0 _ rfl, by rw [← add_field _ _ 1 (by omega)]; exact hc 1 _ rfl, by rw [← add_field _ _ 2 (by omega)]; exact hc 2 _ rfl, l2, g2⟩
structure S24 where
  f0 : Int
  f1 : Int
  f2 : Int
  f3 : (List S55)
def k24 : Kd S24 := Kd.iso (Kd.pair (Kd.int .i64) (Kd.pair (Kd.int .i64) (Kd.pair (Kd.int .i64) (Kd.slice 55 k55)))) (fun x : S24 => (x.f0, x.f1, x.f2, x.f3))
theorem k24_open {w : World} {x : S24} {cs : List Value} (h : k24.K w x cs) : ∃ A3 c3, cs = [.int .i64 x.f0, .int .i64 x.f1, .int .i64 x.f2, .slice A3 x.f3.length c3] ∧ x.f3.length ≤ c3 ∧ k55.C w A3 x.f3.length x.f3 := by
  obtain ⟨_, _, rfl, rfl, ⟨_, _, rfl, rfl, ⟨_, _, rfl, rfl, ⟨A3, c3, rfl, l3, g3⟩⟩⟩⟩ := h
  exact ⟨A3, c3, rfl, l3, g3⟩
end Go.Proofs.Ytadabkkkalgehaa.PFt
namespace Go.Proofs.Ytadabkkkalgehaa.PFt
open Go.RowKit Go.Proofs.YtadabkkkalgehaaW.PrintWords Go.Proofs.YtadabkkkalgehaaW.PrintLast Go.Proofs.YtadabkkkalgehaaW.PrintMore
attribute [local go_sem] max2_int min2_int max_two min_two max_three min_three max_four min_four   -- for this text's walks alone
set_option linter.unusedVariables false
set_option linter.unusedSimpArgs false
noncomputable def rootstocklaw14_Great.l0 : Nat → Int → Int → Int → Int → Int → List (S55) → Option (Bool)
  | 0, _, _, _, _, _, _ => none
  | k + 1, x3, x4, x102000, x102001, x102002, x102003 => if x4 < (x102003.length : Int) then (if 0 ≤ x4 then (if (((rd_T55 x102003 x4).f1).length : Int) > (wrap64 (2000 - x3)) then (some true) else (rootstocklaw14_Great.l0 k (wrap64 (x3 + (((rd_T55 x102003 x4).f1).length : Int))) (wrap64 (x4 + 1)) x102000 x102001 x102002 x102003)) else (none)) else (some false)
noncomputable def rootstocklaw14_Great.f (k : Nat) (a0_0 : Int) (a0_1 : Int) (a0_2 : Int) (l0_3 : List (S55)) : Option (Bool) := if (l0_3.length : Int) > 200 then (some true) else (rootstocklaw14_Great.l0 k 0 0 a0_0 a0_1 a0_2 l0_3)
set_option maxHeartbeats 8000000 in
set_option maxRecDepth 100000 in
theorem rootstocklaw14_Great.calls (k : Nat) (a0_0 : Int) (a0_1 : Int) (a0_2 : Int) (A0_3 : Option Addr) (c0_3 : Nat) (l0_3 : List (S55)) (r : Bool) (w : World) (hr0_3 : Kd.C k55 w A0_3 l0_3.length l0_3) (hc0_3 : l0_3.length ≤ c0_3) (h : rootstocklaw14_Great.f k a0_0 a0_1 a0_2 l0_3 = some r) :
    Calls Try.prog 9 #[.agg #[.int .i64 a0_0, .int .i64 a0_1, .int .i64 a0_2, .slice A0_3 l0_3.length c0_3]] w fun e w' => e = .returned (.bool r) ∧ Below w.heap.size w w' := by
 have hu24 := Try.underlying24
 have HR0_3 := Aside0.mk hr0_3
 have HC0_3 := Aside0.mk hc0_3
 clear hr0_3 hc0_3
 have HB := Aside0.mk (Below.refl w.heap.size w)
 have H : (if (l0_3.length : Int) > 200 then (some true) else (rootstocklaw14_Great.l0 k 0 0 a0_0 a0_1 a0_2 l0_3)) = some r := h
 clear h
 by_cases c2 : (l0_3.length : Int) > 200
 · rw [if_pos c2] at H
   have c2b0 : decide (200 < (l0_3.length : Int)) = true := decide_eq_true c2
   have c2b1 : decide (200 < l0_3.length) = true := decide_eq_true (by omega)
   clear c2
   as_aux_lemma =>
    obtain rfl := Option.some.inj H
    go_enter Try.func9, Try.ntmps9
    go_wp2_with (((with_reducible refine gate_dst (N := 1) rfl ?_); refine box_event ?hg (N := 1) ?hd (cs := #[.int .i64 a0_0, .int .i64 a0_1, .int .i64 a0_2, .slice A0_3 l0_3.length c0_3]) (t := 24) ?hr ?_; (case hd => rfl); (case hg => rfl); (case hr => first | (go_simp; done) | (go_simp; rfl)); intro gb101 hg w3 hbox hb; have n0_ := Aside0.mk (below_step (by repeat (first | (with_reducible first | exact HB.out | apply below_alloc | apply pw_below_drewN | apply below_drew1) | exact HB.out)) hb); have n1_ := Aside0.mk (hbox); have n2_ := Aside0.mk ((by rw [hg]; exact (below_size (by repeat (first | (with_reducible first | exact HB.out | apply below_alloc | apply pw_below_drewN | apply below_drew1) | exact HB.out))) : w.heap.size ≤ gb101)); have n3_ := Aside0.mk ((by rw [hg]; exact (below_size (by repeat (first | (with_reducible first | exact HB.out | apply below_alloc | apply pw_below_drewN | apply below_drew1) | exact HB.out))) : w.heap.size ≤ gb101)); clear HB; have HB := n0_; have BK101 := n1_; have GW101 := n2_; have GE101 := n3_; clear n0_ n1_ n2_ n3_; clear hb hbox hg; have hcz4_0 : w3.cell? ⟨gb101, 0, none⟩ = some (.int .i64 a0_0) := (blk_cell BK101.out 0).trans rfl; have hcz4_1 : w3.cell? ⟨gb101, 1, none⟩ = some (.int .i64 a0_1) := (blk_cell BK101.out 1).trans rfl; have hcz4_2 : w3.cell? ⟨gb101, 2, none⟩ = some (.int .i64 a0_2) := (blk_cell BK101.out 2).trans rfl; have hcz4_3 : w3.cell? ⟨gb101, 3, none⟩ = some (.slice A0_3 l0_3.length c0_3) := (blk_cell BK101.out 3).trans rfl; have hfz4_0 := blk_frozen BK101.out 0; have hfz4_1 := blk_frozen BK101.out 1; have hfz4_2 := blk_frozen BK101.out 2; have hfz4_3 := blk_frozen BK101.out 3))
    go_ret
    exact ⟨by first | rfl | (simp [errW_none, errW_some] <;> rfl) | (simp [*, errW_none, errW_some] <;> rfl), by repeat (first | (with_reducible first | exact HB.out | apply below_alloc | apply pw_below_drewN | apply below_drew1 | refine below_set ?_ GE101.out) | exact HB.out)⟩
 rw [if_neg c2] at H
 have c2b0 : decide (200 < (l0_3.length : Int)) = false := decide_eq_false c2
 have c2b1 : decide (200 < l0_3.length) = false := decide_eq_false (by omega)
 clear c2
 have H' := Aside0.mk H
 clear H
 go_enter Try.func9, Try.ntmps9
 go_wp2_with (((with_reducible refine gate_dst (N := 1) rfl ?_); refine box_event ?hg (N := 1) ?hd (cs := #[.int .i64 a0_0, .int .i64 a0_1, .int .i64 a0_2, .slice A0_3 l0_3.length c0_3]) (t := 24) ?hr ?_; (case hd => rfl); (case hg => rfl); (case hr => first | (go_simp; done) | (go_simp; rfl)); intro gb101 hg w5 hbox hb; have n0_ := Aside0.mk (below_step (by repeat (first | (with_reducible first | exact HB.out | apply below_alloc | apply pw_below_drewN | apply below_drew1) | exact HB.out)) hb); have n1_ := Aside0.mk (hbox); have n2_ := Aside0.mk ((by rw [hg]; exact (below_size (by repeat (first | (with_reducible first | exact HB.out | apply below_alloc | apply pw_below_drewN | apply below_drew1) | exact HB.out))) : w.heap.size ≤ gb101)); have n3_ := Aside0.mk ((by rw [hg]; exact (below_size (by repeat (first | (with_reducible first | exact HB.out | apply below_alloc | apply pw_below_drewN | apply below_drew1) | exact HB.out))) : w.heap.size ≤ gb101)); clear HB; have HB := n0_; have BK101 := n1_; have GW101 := n2_; have GE101 := n3_; clear n0_ n1_ n2_ n3_; clear hb hbox hg; have hcz6_0 : w5.cell? ⟨gb101, 0, none⟩ = some (.int .i64 a0_0) := (blk_cell BK101.out 0).trans rfl; have hcz6_1 : w5.cell? ⟨gb101, 1, none⟩ = some (.int .i64 a0_1) := (blk_cell BK101.out 1).trans rfl; have hcz6_2 : w5.cell? ⟨gb101, 2, none⟩ = some (.int .i64 a0_2) := (blk_cell BK101.out 2).trans rfl; have hcz6_3 : w5.cell? ⟨gb101, 3, none⟩ = some (.slice A0_3 l0_3.length c0_3) := (blk_cell BK101.out 3).trans rfl; have hfz6_0 := blk_frozen BK101.out 0; have hfz6_1 := blk_frozen BK101.out 1; have hfz6_2 := blk_frozen BK101.out 2; have hfz6_3 := blk_frozen BK101.out 3))
 go_loopg [3, 4] k (fun kq v3 v4 w' => ∃ (x3_1 : Int) (x4_1 : Int), v3 = .int .i64 x3_1 ∧ v4 = .int .i64 x4_1 ∧ Aside0 (rootstocklaw14_Great.l0 kq x3_1 x4_1 a0_0 a0_1 a0_2 l0_3 = some r) ∧ Aside0 (kq ≤ k) ∧ Aside0 (w'.heap[gb101]? = some (.cells #[.int .i64 a0_0, .int .i64 a0_1, .int .i64 a0_2, (.slice A0_3 l0_3.length c0_3)] 24 (0, 0))) ∧ Aside0 (Below w.heap.size w w'))
 case atStart => exact ⟨(0), (0), (by first | rfl | (simp; done) | (simp [*]; done)), (by first | rfl | (simp; done) | (simp [*]; done)), H', ⟨Nat.le_refl _⟩, ⟨by (with_reducible repeat (first | refine blk_drewN ?_ _ | refine blk_drew ?_ | refine blk_alloc ?_ _)); exact BK101.out⟩, ⟨by repeat (first | (with_reducible first | exact HB.out | apply below_alloc | apply pw_below_drewN | apply below_drew1 | refine below_set ?_ GE101.out) | exact HB.out)⟩⟩
 case round =>
  clear H'
  (try clear c2); (try clear c2b0); (try clear c2b1); (try clear p2); (try clear hcz4_0); (try clear hcz4_1); (try clear hcz4_2); (try clear hcz4_3); (try clear hcz6_0); (try clear hcz6_1); (try clear hcz6_2); (try clear hcz6_3); (try clear hfz4_0); (try clear hfz4_1); (try clear hfz4_2); (try clear hfz4_3); (try clear hfz6_0); (try clear hfz6_1); (try clear hfz6_2); (try clear hfz6_3)
  obtain ⟨x3_1, x4_1, rfl, rfl, HA, HK1, BK101, HB⟩ := hrel
  cases gk with
  | zero => exact absurd HA.out (by simp [rootstocklaw14_Great.l0])
  | succ k1 =>
   have H := HA.out
   clear HA
   simp only [rootstocklaw14_Great.l0] at H
   by_cases c7 : x4_1 < (l0_3.length : Int)
   rotate_left
   · rw [if_neg c7] at H
     have c7b0 : decide (x4_1 < (l0_3.length : Int)) = false := decide_eq_false c7
     clear c7
     as_aux_lemma =>
      obtain rfl := Option.some.inj H
      have hcz12_0 : wr.cell? ⟨gb101, 0, none⟩ = some (.int .i64 a0_0) := (blk_cell BK101.out 0).trans rfl
      have hcz12_1 : wr.cell? ⟨gb101, 1, none⟩ = some (.int .i64 a0_1) := (blk_cell BK101.out 1).trans rfl
      have hcz12_2 : wr.cell? ⟨gb101, 2, none⟩ = some (.int .i64 a0_2) := (blk_cell BK101.out 2).trans rfl
      have hcz12_3 : wr.cell? ⟨gb101, 3, none⟩ = some (.slice A0_3 l0_3.length c0_3) := (blk_cell BK101.out 3).trans rfl
      have hfz12_0 := blk_frozen BK101.out 0
      have hfz12_1 := blk_frozen BK101.out 1
      have hfz12_2 := blk_frozen BK101.out 2
      have hfz12_3 := blk_frozen BK101.out 3
      go_wp2
      go_ret
      exact ⟨by first | rfl | (simp [errW_none, errW_some] <;> rfl) | (simp [*, errW_none, errW_some] <;> rfl), by repeat (first | (with_reducible first | exact HB.out | apply below_alloc | apply pw_below_drewN | apply below_drew1 | refine below_set ?_ GE101.out) | exact HB.out)⟩
   rw [if_pos c7] at H
   have c7b0 : decide (x4_1 < (l0_3.length : Int)) = true := decide_eq_true c7
   clear c7
   by_cases c8 : 0 ≤ x4_1
   rotate_left
   · rw [if_neg c8] at H
     exact absurd H (by simp)
   rw [if_pos c8] at H
   have c8b0 : decide (0 ≤ x4_1) = true := decide_eq_true c8
   clear c8
   by_cases c9 : (((rd_T55 l0_3 x4_1).f1).length : Int) > (wrap64 (2000 - x3_1))
   · rw [if_pos c9] at H
     have c9b0 : decide ((wrap64 (2000 - x3_1)) < (((rd_T55 l0_3 x4_1).f1).length : Int)) = true := decide_eq_true c9
     clear c9
     as_aux_lemma =>
      obtain rfl := Option.some.inj H
      have hcz10_0 : wr.cell? ⟨gb101, 0, none⟩ = some (.int .i64 a0_0) := (blk_cell BK101.out 0).trans rfl
      have hcz10_1 : wr.cell? ⟨gb101, 1, none⟩ = some (.int .i64 a0_1) := (blk_cell BK101.out 1).trans rfl
      have hcz10_2 : wr.cell? ⟨gb101, 2, none⟩ = some (.int .i64 a0_2) := (blk_cell BK101.out 2).trans rfl
      have hcz10_3 : wr.cell? ⟨gb101, 3, none⟩ = some (.slice A0_3 l0_3.length c0_3) := (blk_cell BK101.out 3).trans rfl
      have hfz10_0 := blk_frozen BK101.out 0
      have hfz10_1 := blk_frozen BK101.out 1
      have hfz10_2 := blk_frozen BK101.out 2
      have hfz10_3 := blk_frozen BK101.out 3
      have p102 : 0 ≤ (x4_1 : Int) := of_decide_eq_true (by first | (with_reducible assumption) | assumption)
      have q102 : x4_1 < (l0_3.length : Int) := of_decide_eq_true (by first | (with_reducible assumption) | assumption)
      obtain ⟨ad102, A102_1, c102_1, e102, hx102_0, hx102_1, hx102_2, hl102_1, hi102_1⟩ := at_T55 HR0_3.out x4_1 p102 q102
      cases e102
      replace hx102_0 := (HB.out.cell (World.block_lt_of_cell? w _ hx102_0)).trans hx102_0
      replace hx102_1 := (HB.out.cell (World.block_lt_of_cell? w _ hx102_1)).trans hx102_1
      replace hx102_2 := (HB.out.cell (World.block_lt_of_cell? w _ hx102_2)).trans hx102_2
      have HR102_1 := Aside0.mk hi102_1
      have HC102_1 := Aside0.mk hl102_1
      clear hi102_1 hl102_1
      replace p102 := eq_true p102
      replace q102 := eq_true q102
      go_wp2
      go_ret
      exact ⟨by first | rfl | (simp [errW_none, errW_some] <;> rfl) | (simp [*, errW_none, errW_some] <;> rfl), by repeat (first | (with_reducible first | exact HB.out | apply below_alloc | apply pw_below_drewN | apply below_drew1 | refine below_set ?_ GE101.out) | exact HB.out)⟩
   rw [if_neg c9] at H
   have c9b0 : decide ((wrap64 (2000 - x3_1)) < (((rd_T55 l0_3 x4_1).f1).length : Int)) = false := decide_eq_false c9
   clear c9
   as_aux_lemma =>
    have H' := Aside0.mk H
    clear H
    have hcz11_0 : wr.cell? ⟨gb101, 0, none⟩ = some (.int .i64 a0_0) := (blk_cell BK101.out 0).trans rfl
    have hcz11_1 : wr.cell? ⟨gb101, 1, none⟩ = some (.int .i64 a0_1) := (blk_cell BK101.out 1).trans rfl
    have hcz11_2 : wr.cell? ⟨gb101, 2, none⟩ = some (.int .i64 a0_2) := (blk_cell BK101.out 2).trans rfl
    have hcz11_3 : wr.cell? ⟨gb101, 3, none⟩ = some (.slice A0_3 l0_3.length c0_3) := (blk_cell BK101.out 3).trans rfl
    have hfz11_0 := blk_frozen BK101.out 0
    have hfz11_1 := blk_frozen BK101.out 1
    have hfz11_2 := blk_frozen BK101.out 2
    have hfz11_3 := blk_frozen BK101.out 3
    have p102 : 0 ≤ (x4_1 : Int) := of_decide_eq_true (by first | (with_reducible assumption) | assumption)
    have q102 : x4_1 < (l0_3.length : Int) := of_decide_eq_true (by first | (with_reducible assumption) | assumption)
    obtain ⟨ad102, A102_1, c102_1, e102, hx102_0, hx102_1, hx102_2, hl102_1, hi102_1⟩ := at_T55 HR0_3.out x4_1 p102 q102
    cases e102
    replace hx102_0 := (HB.out.cell (World.block_lt_of_cell? w _ hx102_0)).trans hx102_0
    replace hx102_1 := (HB.out.cell (World.block_lt_of_cell? w _ hx102_1)).trans hx102_1
    replace hx102_2 := (HB.out.cell (World.block_lt_of_cell? w _ hx102_2)).trans hx102_2
    have HR102_1 := Aside0.mk hi102_1
    have HC102_1 := Aside0.mk hl102_1
    clear hi102_1 hl102_1
    replace p102 := eq_true p102
    replace q102 := eq_true q102
    have p103 : 0 ≤ (x4_1 : Int) := of_decide_eq_true (by first | (with_reducible assumption) | assumption)
    have q103 : x4_1 < (l0_3.length : Int) := of_decide_eq_true (by first | (with_reducible assumption) | assumption)
    obtain ⟨ad103, A103_1, c103_1, e103, hx103_0, hx103_1, hx103_2, hl103_1, hi103_1⟩ := at_T55 HR0_3.out x4_1 p103 q103
    obtain rfl : ad102 = ad103 := (by injection e103)
    replace hx103_0 := (HB.out.cell (World.block_lt_of_cell? w _ hx103_0)).trans hx103_0
    replace hx103_1 := (HB.out.cell (World.block_lt_of_cell? w _ hx103_1)).trans hx103_1
    replace hx103_2 := (HB.out.cell (World.block_lt_of_cell? w _ hx103_2)).trans hx103_2
    have HR103_1 := Aside0.mk hi103_1
    have HC103_1 := Aside0.mk hl103_1
    clear hi103_1 hl103_1
    replace p103 := eq_true p103
    replace q103 := eq_true q103
    have ea_ := Option.some.inj (hx102_1.symm.trans hx103_1)
    injection ea_ with ea_ en_ ec_
    subst ea_
    subst ec_
    clear en_
    go_wp2
    go_roundg k1
    case measure => have := HK1.out; omega
    case rel => exact ⟨(wrap64 (x3_1 + (((rd_T55 l0_3 x4_1).f1).length : Int))), (wrap64 (x4_1 + 1)), (by first | rfl | (simp; done) | (simp [*]; done)), (by first | rfl | (simp; done) | (simp [*]; done)), H', ⟨by have := HK1.out; omega⟩, ⟨by (with_reducible repeat (first | refine blk_drewN ?_ _ | refine blk_drew ?_ | refine blk_alloc ?_ _)); exact BK101.out⟩, ⟨by repeat (first | (with_reducible first | exact HB.out | apply below_alloc | apply pw_below_drewN | apply below_drew1 | refine below_set ?_ GE101.out) | exact HB.out)⟩⟩
noncomputable def rootstocklaw14_lives.f  : Option (Bool) := some true
theorem rootstocklaw14_lives.calls  (r : Bool) (w : World) (h : rootstocklaw14_lives.f  = some r) :
    Calls Try.prog 10 #[] w fun e w' => e = .returned (.bool r) ∧ Below w.heap.size w w' := by
  obtain rfl := Option.some.inj h
  exact H.lives_any w
def toPr (x : S55) : H.Pr := ⟨x.f0, x.f1, x.f2⟩
def toGr (a b c : Int) (l : List S55) : H.Gr := ⟨a, b, c, l.map toPr⟩
theorem rdI_of {w : World} {A : Option Addr} {n : Nat} {xs : List Int} (h : (Kd.int .i64).C w A n xs) : H.Rd H.eI 1 w w.heap.size A xs := by
  intro i hi
  obtain ⟨h1, h2, h3⟩ := h
  obtain ⟨ad, e, hc⟩ := h3 (by omega)
  obtain ⟨c, _, hc1, hc2⟩ := hc i _ (List.getElem?_eq_getElem hi)
  have hc1' : c = [.int .i64 xs[i]] := hc1
  subst hc1'
  have h0 : w.cell? (ad.add (i * 1)) = some (.int .i64 xs[i]) := hc2 0 _ rfl
  refine ⟨ad, e, ?_, fun j u hu => ?_⟩
  · have := H.cell_lt h0; rwa [H.add_block] at this
  · have hj : j = 0 := by
      rcases j with _ | j
      · rfl
      · simp [H.eI] at hu
    subst hj
    have hu' : u = .int .i64 xs[i] := by simpa [H.eI] using hu.symm
    subst hu'
    have e0 : ∀ x : Addr, x.add 0 = x := fun x => by simp [Addr.add]
    rw [e0]
    exact h0
theorem rdP_of {w : World} {A : Option Addr} {l : List S55} (h : Kd.C k55 w A l.length l) : H.RdP w w.heap.size A (l.map toPr) := by
  intro i hi
  have hi' : i < l.length := by simpa using hi
  obtain ⟨ad, A1, c1, e, c0, k1, k2, hl, hr⟩ := at_T55 h (i : Int) (by omega) (by omega)
  have hx : rd_T55 l (i : Int) = l[i] := by simp [rd_T55, List.getD_eq_getElem?_getD, hi']
  rw [hx] at c0 k1 k2 hl hr
  simp only [Int.toNat_natCast] at c0 k1 k2
  refine ⟨ad, A1, c1, e, ?_, ?_, ?_, ?_, ?_, ?_⟩
  · have := H.cell_lt c0; rwa [H.add_block] at this
  · simpa [toPr] using c0
  · simpa [toPr] using k1
  · simpa [toPr] using k2
  · simpa [toPr] using hl
  · simpa [toPr] using rdI_of hr
theorem grIn_of {w : World} {A : Option Addr} {c : Nat} {x y z : Int} {l : List S55} (h : Kd.C k55 w A l.length l) (hc : l.length ≤ c) : H.GrIn w (toGr x y z l) A c := by
  refine ⟨by simpa [toGr] using hc, by have := Kd.C_max h; simpa [toGr] using this, fun p hp => ?_, rdP_of h⟩
  obtain ⟨i, hi, rfl⟩ := List.getElem_of_mem hp
  have hi' : i < l.length := by simpa [toGr] using hi
  obtain ⟨ad, A1, c1, e, c0, k1, k2, hl, hr⟩ := at_T55 h (i : Int) (by omega) (by omega)
  have hx : rd_T55 l (i : Int) = l[i] := by simp [rd_T55, List.getD_eq_getElem?_getD, hi']
  rw [hx] at hr
  have := Kd.C_max hr
  simpa [toGr, toPr] using this
theorem grV_of (A : Option Addr) (c : Nat) (x y z : Int) (l : List S55) : H.grV (toGr x y z l) A c = .agg #[.int .i64 x, .int .i64 y, .int .i64 z, .slice A l.length c] := by simp [H.grV, toGr]
noncomputable def rootstocklaw14_CopyInts.f (l0 : List Int) : Option (List Int) := if l0.length < 8796093022208 then some l0 else none
theorem rootstocklaw14_CopyInts.calls (A0 : Option Addr) (c0 : Nat) (l0 : List Int) (r : List Int) (w : World) (hr0 : Kd.C (Kd.int .i64) w A0 l0.length l0) (hc0 : l0.length ≤ c0) (h : rootstocklaw14_CopyInts.f l0 = some r) :
    Calls Try.prog 13 #[.slice A0 l0.length c0] w fun e w' => ∃ v0_ : Value, e = .returned (v0_) ∧ Kd.R (Kd.int .i64) 3 w' w.heap.size (fun _ => True) v0_ r ∧ Below w.heap.size w w' := by
  unfold rootstocklaw14_CopyInts.f at h
  by_cases hl : l0.length < 8796093022208
  · rw [if_pos hl] at h
    obtain rfl := Option.some.inj h
    exact (H.copyInts_any A0 c0 l0 w (rdI_of hr0) hl).mono fun e w' ⟨v, he, ho, hb⟩ => ⟨v, he, Kd.R_of_own ho (fun _ _ => trivial), hb⟩
  · rw [if_neg hl] at h
    cases h
noncomputable def rootstocklaw14_CopyGrammar.l0 : Nat → Int → Int → Int → Int → List (S55) → Int → Int → Int → List (S55) → Option (Int × Int × Int × (List (S55)))
  | 0, _, _, _, _, _, _, _, _, _ => none
  | k + 1, x4, x105000, x105001, x105002, x105003, x107000, x107001, x107002, x107003 => if x4 < (x105003.length : Int) then (if 0 ≤ x4 then ((rootstocklaw14_CopyInts.f ((rd_T55 x105003 x4).f1)).bind fun t109 => (if x107003.length < 3518437208883 then (rootstocklaw14_CopyGrammar.l0 k (wrap64 (x4 + 1)) x105000 x105001 x105002 x105003 x107000 x107001 x107002 (x107003 ++ [(⟨(rd_T55 x105003 x4).f0, t109, (rd_T55 x105003 x4).f2⟩ : S55)])) else (none))) else (none)) else (some (x107000, x107001, x107002, x107003))
noncomputable def rootstocklaw14_CopyGrammar.f (k : Nat) (a0_0 : Int) (a0_1 : Int) (a0_2 : Int) (l0_3 : List (S55)) : Option (Int × Int × Int × (List (S55))) := rootstocklaw14_CopyGrammar.l0 k 0 a0_0 a0_1 a0_2 l0_3 a0_0 a0_1 a0_2 ([] : List (S55))
def rootstocklaw14_CopyGrammar.T5 : Bool × List (List Nat × List Nat) := (true, [([], []), ([0], [0]), ([], []), ([2], [2]), ([], []), ([3, 4], [3, 4]), ([5], [5]), ([6], [6]), ([], []), ([8], [8]), ([], []), ([9, 10], [9, 10]), ([11], [11]), ([12], [12]), ([13], [13]), ([], []), ([15], [15]), ([], []), ([16, 17], [16, 17]), ([18], [18]), ([19], [19]), ([7, 14, 20], [7, 14, 20]), ([21], [21]), ([1, 22, 14], [1, 22]), ([0, 1, 2, 3, 4, 5, 6, 7, 8, 9, 10, 11, 12, 13, 14, 15, 16, 17, 18, 19, 20, 21, 22, 23], []), ([24, 23, 23, 0, 1, 2, 3, 4, 5, 6, 7, 8, 9, 10, 11, 12, 13, 14, 15, 16, 17, 18, 19, 20, 21, 22, 23], [23, 24])])
def rootstocklaw14_CopyGrammar.B5 : List Nat := [0, 1, 0, 4, 0, 28, 60, 124, 0, 256, 0, 1792, 3840, 7936, 16128, 0, 32768, 0, 229376, 491520, 1015808, 2097148, 4194300, 8388607, 16777215, 33554431]
theorem rootstocklaw14_CopyGrammar.tab5 : rtab .any (opsOf Try.f12 5) = rootstocklaw14_CopyGrammar.T5 := by kernel_rfl
theorem rootstocklaw14_CopyGrammar.bits5 : waitsOk rootstocklaw14_CopyGrammar.T5.2 rootstocklaw14_CopyGrammar.B5 = true := by kernel_rfl
set_option maxHeartbeats 8000000 in
set_option maxRecDepth 100000 in
theorem rootstocklaw14_CopyGrammar.calls (k : Nat) (a0_0 : Int) (a0_1 : Int) (a0_2 : Int) (A0_3 : Option Addr) (c0_3 : Nat) (l0_3 : List (S55)) (r1 : Int) (r2 : Int) (r3 : Int) (r4 : List (S55)) (w : World) (hr0_3 : Kd.C k55 w A0_3 l0_3.length l0_3) (hc0_3 : l0_3.length ≤ c0_3) (h : rootstocklaw14_CopyGrammar.f k a0_0 a0_1 a0_2 l0_3 = some (r1, r2, r3, r4)) :
    Calls Try.prog 12 #[.agg #[.int .i64 a0_0, .int .i64 a0_1, .int .i64 a0_2, .slice A0_3 l0_3.length c0_3]] w fun e w' => ∃ v3_ : Value, e = .returned (.agg #[.int .i64 r1, .int .i64 r2, .int .i64 r3, v3_]) ∧ Kd.R k55 55 w' w.heap.size (fun _ => True) v3_ r4 ∧ Below w.heap.size w w' := by
 have hu24 := Try.underlying24
 have hu55 := Try.underlying55
 have HR0_3 := Aside0.mk hr0_3
 have HC0_3 := Aside0.mk hc0_3
 clear hr0_3 hc0_3
 have HB := Aside0.mk (Below.refl w.heap.size w)
 have H : (rootstocklaw14_CopyGrammar.l0 k 0 a0_0 a0_1 a0_2 l0_3 a0_0 a0_1 a0_2 ([] : List (S55))) = some (r1, r2, r3, r4) := h
 clear h
 have H' := Aside0.mk H
 clear H
 go_enter Try.func12, Try.ntmps12
 go_wp2_with (first | ((with_reducible refine gate_dst (N := 1) rfl ?_); refine box_event ?hg (N := 1) ?hd (cs := #[.int .i64 a0_0, .int .i64 a0_1, .int .i64 a0_2, .slice A0_3 l0_3.length c0_3]) (t := 24) ?hr ?_; (case hd => rfl); (case hg => rfl); (case hr => first | (go_simp; done) | (go_simp; rfl)); intro gb104 hg w2 hbox hb; have n0_ := Aside0.mk (below_step (by repeat (first | (with_reducible first | exact HB.out | apply below_alloc | apply pw_below_drewN | apply below_drew1) | exact HB.out)) hb); have n1_ := Aside0.mk (hbox); have n2_ := Aside0.mk ((by rw [hg]; exact (below_size (by repeat (first | (with_reducible first | exact HB.out | apply below_alloc | apply pw_below_drewN | apply below_drew1) | exact HB.out))) : w.heap.size ≤ gb104)); have n3_ := Aside0.mk ((by rw [hg]; exact (below_size (by repeat (first | (with_reducible first | exact HB.out | apply below_alloc | apply pw_below_drewN | apply below_drew1) | exact HB.out))) : w.heap.size ≤ gb104)); clear HB; have HB := n0_; have BK104 := n1_; have GW104 := n2_; have GE104 := n3_; clear n0_ n1_ n2_ n3_; clear hb hbox hg) | ((with_reducible refine gate_dst (N := 2) rfl ?_); refine box_event ?hg (N := 2) ?hd (cs := #[.int .i64 0, .int .i64 0, .int .i64 0, .slice none 0 0]) (t := 24) ?hr ?_; (case hd => rfl); (case hg => rfl); (case hr => first | (go_simp; done) | (go_simp; rfl)); intro gb105 hg w3 hbox hb; have n0_ := Aside0.mk (blk_below (g := gb104) (o := .cells #[.int .i64 a0_0, .int .i64 a0_1, .int .i64 a0_2, .slice A0_3 l0_3.length c0_3] 24 (0, 0)) (by (with_reducible repeat (first | refine blk_drewN ?_ _ | refine blk_drew ?_ | refine blk_alloc ?_ _)); exact BK104.out) hb); have n1_ := Aside0.mk (below_step (by repeat (first | (with_reducible first | exact HB.out | apply below_alloc | apply pw_below_drewN | apply below_drew1 | refine below_set ?_ GE104.out) | exact HB.out)) hb); have n2_ := Aside0.mk (hbox); have n3_ := Aside0.mk ((by rw [hg]; exact (below_size (by repeat (first | (with_reducible first | exact HB.out | apply below_alloc | apply pw_below_drewN | apply below_drew1 | refine below_set ?_ GE104.out) | exact HB.out))) : w.heap.size ≤ gb105)); have n4_ := Aside0.mk ((by rw [hg]; exact (below_size (by repeat (first | (with_reducible first | exact HB.out | apply below_alloc | apply pw_below_drewN | apply below_drew1 | refine below_set ?_ GE104.out) | exact HB.out))) : w.heap.size ≤ gb105)); have n5_ := Aside0.mk ((by rw [hg]; exact Nat.ne_of_lt (blk_lt (g := gb104) (o := .cells #[.int .i64 a0_0, .int .i64 a0_1, .int .i64 a0_2, .slice A0_3 l0_3.length c0_3] 24 (0, 0)) (by (with_reducible repeat (first | refine blk_drewN ?_ _ | refine blk_drew ?_ | refine blk_alloc ?_ _)); exact BK104.out)) : gb104 ≠ gb105)); have n6_ := Aside0.mk ((by rw [hg]; exact Nat.ne_of_gt (blk_lt (g := gb104) (o := .cells #[.int .i64 a0_0, .int .i64 a0_1, .int .i64 a0_2, .slice A0_3 l0_3.length c0_3] 24 (0, 0)) (by (with_reducible repeat (first | refine blk_drewN ?_ _ | refine blk_drew ?_ | refine blk_alloc ?_ _)); exact BK104.out)) : gb105 ≠ gb104)); clear BK104; clear HB; have BK104 := n0_; have HB := n1_; have BK105 := n2_; have GW105 := n3_; have GE105 := n4_; have NB104_105 := n5_; have NB105_104 := n6_; clear n0_ n1_ n2_ n3_ n4_ n5_ n6_; clear hb hbox hg; have hnb4 := NB104_105.out; have hnc4 := NB105_104.out; have hcz5_0 : w3.cell? ⟨gb104, 0, none⟩ = some (.int .i64 a0_0) := (blk_cell BK104.out 0).trans rfl; have hcz5_1 : w3.cell? ⟨gb104, 1, none⟩ = some (.int .i64 a0_1) := (blk_cell BK104.out 1).trans rfl; have hcz5_2 : w3.cell? ⟨gb104, 2, none⟩ = some (.int .i64 a0_2) := (blk_cell BK104.out 2).trans rfl; have hcz5_3 : w3.cell? ⟨gb104, 3, none⟩ = some (.slice A0_3 l0_3.length c0_3) := (blk_cell BK104.out 3).trans rfl; have hfz5_0 := blk_frozen BK104.out 0; have hfz5_1 := blk_frozen BK104.out 1; have hfz5_2 := blk_frozen BK104.out 2; have hfz5_3 := blk_frozen BK104.out 3) | ((with_reducible refine gate_dst (N := 3) rfl ?_); refine box_event ?hg (N := 3) ?hd (cs := #[.int .i64 0, .int .i64 0, .int .i64 0, .slice none 0 0]) (t := 24) ?hr ?_; (case hd => rfl); (case hg => rfl); (case hr => first | (go_simp; done) | (go_simp; rfl)); intro gb106 hg w6 hbox hb; have n0_ := Aside0.mk (blk_below (g := gb104) (o := .cells #[.int .i64 a0_0, .int .i64 a0_1, .int .i64 a0_2, .slice A0_3 l0_3.length c0_3] 24 (0, 0)) (by (with_reducible repeat (first | refine blk_drewN ?_ _ | refine blk_drew ?_ | refine blk_alloc ?_ _)); exact BK104.out) hb); have n1_ := Aside0.mk (blk_below (g := gb105) (o := .cells #[.int .i64 0, .int .i64 0, .int .i64 0, .slice none 0 0] 24 (0, 0)) (by (with_reducible repeat (first | refine blk_drewN ?_ _ | refine blk_drew ?_ | refine blk_alloc ?_ _)); exact BK105.out) hb); have n2_ := Aside0.mk (below_step (by repeat (first | (with_reducible first | exact HB.out | apply below_alloc | apply pw_below_drewN | apply below_drew1 | refine below_set ?_ GE104.out | refine below_set ?_ GE105.out) | exact HB.out)) hb); have n3_ := Aside0.mk (hbox); have n4_ := Aside0.mk ((by rw [hg]; exact (below_size (by repeat (first | (with_reducible first | exact HB.out | apply below_alloc | apply pw_below_drewN | apply below_drew1 | refine below_set ?_ GE104.out | refine below_set ?_ GE105.out) | exact HB.out))) : w.heap.size ≤ gb106)); have n5_ := Aside0.mk ((by rw [hg]; exact (below_size (by repeat (first | (with_reducible first | exact HB.out | apply below_alloc | apply pw_below_drewN | apply below_drew1 | refine below_set ?_ GE104.out | refine below_set ?_ GE105.out) | exact HB.out))) : w.heap.size ≤ gb106)); have n6_ := Aside0.mk ((by rw [hg]; exact Nat.ne_of_lt (blk_lt (g := gb104) (o := .cells #[.int .i64 a0_0, .int .i64 a0_1, .int .i64 a0_2, .slice A0_3 l0_3.length c0_3] 24 (0, 0)) (by (with_reducible repeat (first | refine blk_drewN ?_ _ | refine blk_drew ?_ | refine blk_alloc ?_ _)); exact BK104.out)) : gb104 ≠ gb106)); have n7_ := Aside0.mk ((by rw [hg]; exact Nat.ne_of_gt (blk_lt (g := gb104) (o := .cells #[.int .i64 a0_0, .int .i64 a0_1, .int .i64 a0_2, .slice A0_3 l0_3.length c0_3] 24 (0, 0)) (by (with_reducible repeat (first | refine blk_drewN ?_ _ | refine blk_drew ?_ | refine blk_alloc ?_ _)); exact BK104.out)) : gb106 ≠ gb104)); have n8_ := Aside0.mk ((by rw [hg]; exact Nat.ne_of_lt (blk_lt (g := gb105) (o := .cells #[.int .i64 0, .int .i64 0, .int .i64 0, .slice none 0 0] 24 (0, 0)) (by (with_reducible repeat (first | refine blk_drewN ?_ _ | refine blk_drew ?_ | refine blk_alloc ?_ _)); exact BK105.out)) : gb105 ≠ gb106)); have n9_ := Aside0.mk ((by rw [hg]; exact Nat.ne_of_gt (blk_lt (g := gb105) (o := .cells #[.int .i64 0, .int .i64 0, .int .i64 0, .slice none 0 0] 24 (0, 0)) (by (with_reducible repeat (first | refine blk_drewN ?_ _ | refine blk_drew ?_ | refine blk_alloc ?_ _)); exact BK105.out)) : gb106 ≠ gb105)); clear BK104; clear BK105; clear HB; have BK104 := n0_; have BK105 := n1_; have HB := n2_; have BK106 := n3_; have GW106 := n4_; have GE106 := n5_; have NB104_106 := n6_; have NB106_104 := n7_; have NB105_106 := n8_; have NB106_105 := n9_; clear n0_ n1_ n2_ n3_ n4_ n5_ n6_ n7_ n8_ n9_; clear hb hbox hg; have hnb7 := NB106_104.out; have hnc7 := NB104_106.out; have hnb8 := NB106_105.out; have hnc8 := NB105_106.out; have hcz9_0 : w6.cell? ⟨gb106, 0, none⟩ = some (.int .i64 0) := (blk_cell BK106.out 0).trans rfl; have hcz9_1 : w6.cell? ⟨gb106, 1, none⟩ = some (.int .i64 0) := (blk_cell BK106.out 1).trans rfl; have hcz9_2 : w6.cell? ⟨gb106, 2, none⟩ = some (.int .i64 0) := (blk_cell BK106.out 2).trans rfl; have hcz9_3 : w6.cell? ⟨gb106, 3, none⟩ = some (.slice none 0 0) := (blk_cell BK106.out 3).trans rfl; have hfz9_0 := blk_frozen BK106.out 0; have hfz9_1 := blk_frozen BK106.out 1; have hfz9_2 := blk_frozen BK106.out 2; have hfz9_3 := blk_frozen BK106.out 3))
 go_loopg [4] k (fun kq v4 w' => ∃ (x4_1 : Int) (x107003_1 : List (S55)) (u107003 : Value), v4 = .int .i64 x4_1 ∧ Aside0 (rootstocklaw14_CopyGrammar.l0 kq x4_1 a0_0 a0_1 a0_2 l0_3 a0_0 a0_1 a0_2 x107003_1 = some (r1, r2, r3, r4)) ∧ Aside0 (kq ≤ k) ∧ Aside0 (Kd.R k55 55 w' w.heap.size (fun _ => True) u107003 x107003_1) ∧ Aside0 (w'.heap[gb104]? = some (.cells #[.int .i64 a0_0, .int .i64 a0_1, .int .i64 a0_2, (.slice A0_3 l0_3.length c0_3)] 24 (0, 0))) ∧ Aside0 (w'.heap[gb105]? = some (.cells #[.int .i64 0, .int .i64 0, .int .i64 0, (.slice none 0 0)] 24 (0, 0))) ∧ Aside0 (w'.heap[gb106]? = some (.cells #[.int .i64 a0_0, .int .i64 a0_1, .int .i64 a0_2, u107003] 24 (0, 0))) ∧ Aside0 (Below w.heap.size w w'))
 case atStart => exact ⟨(0), (([] : List (S55))), (.slice none 0 0), (by first | rfl | (simp; done) | (simp [*]; done)), H', ⟨Nat.le_refl _⟩, ⟨by first | exact Kd.R_nil _ _ _ _ _ | exact Kd.N_nil _ _ _ _ _ | exact Kd.V_nil _ _ _ _ _ | exact Kd.Q_nil _ _ _ _ _ | exact Kd.S_nil _ _ _ _ _⟩, ⟨by (with_reducible repeat (first | refine blk_drewN ?_ _ | refine blk_drew ?_ | refine blk_alloc ?_ _)); refine blk_far ?_ NB104_106.out _; (with_reducible repeat (first | refine blk_drewN ?_ _ | refine blk_drew ?_ | refine blk_alloc ?_ _)); refine blk_far ?_ NB104_106.out _; (with_reducible repeat (first | refine blk_drewN ?_ _ | refine blk_drew ?_ | refine blk_alloc ?_ _)); refine blk_far ?_ NB104_106.out _; (with_reducible repeat (first | refine blk_drewN ?_ _ | refine blk_drew ?_ | refine blk_alloc ?_ _)); refine blk_far ?_ NB104_106.out _; (with_reducible repeat (first | refine blk_drewN ?_ _ | refine blk_drew ?_ | refine blk_alloc ?_ _)); exact BK104.out⟩, ⟨by (with_reducible repeat (first | refine blk_drewN ?_ _ | refine blk_drew ?_ | refine blk_alloc ?_ _)); refine blk_far ?_ NB105_106.out _; (with_reducible repeat (first | refine blk_drewN ?_ _ | refine blk_drew ?_ | refine blk_alloc ?_ _)); refine blk_far ?_ NB105_106.out _; (with_reducible repeat (first | refine blk_drewN ?_ _ | refine blk_drew ?_ | refine blk_alloc ?_ _)); refine blk_far ?_ NB105_106.out _; (with_reducible repeat (first | refine blk_drewN ?_ _ | refine blk_drew ?_ | refine blk_alloc ?_ _)); refine blk_far ?_ NB105_106.out _; (with_reducible repeat (first | refine blk_drewN ?_ _ | refine blk_drew ?_ | refine blk_alloc ?_ _)); exact BK105.out⟩, ⟨by (with_reducible repeat (first | refine blk_drewN ?_ _ | refine blk_drew ?_ | refine blk_alloc ?_ _)); refine blk_put (cs := #[.int .i64 a0_0, .int .i64 a0_1, .int .i64 a0_2, .slice none 0 0]) ?_ 3 _ rfl; (with_reducible repeat (first | refine blk_drewN ?_ _ | refine blk_drew ?_ | refine blk_alloc ?_ _)); refine blk_put (cs := #[.int .i64 a0_0, .int .i64 a0_1, .int .i64 0, .slice none 0 0]) ?_ 2 _ rfl; (with_reducible repeat (first | refine blk_drewN ?_ _ | refine blk_drew ?_ | refine blk_alloc ?_ _)); refine blk_put (cs := #[.int .i64 a0_0, .int .i64 0, .int .i64 0, .slice none 0 0]) ?_ 1 _ rfl; (with_reducible repeat (first | refine blk_drewN ?_ _ | refine blk_drew ?_ | refine blk_alloc ?_ _)); refine blk_put (cs := #[.int .i64 0, .int .i64 0, .int .i64 0, .slice none 0 0]) ?_ 0 _ rfl; (with_reducible repeat (first | refine blk_drewN ?_ _ | refine blk_drew ?_ | refine blk_alloc ?_ _)); exact BK106.out⟩, ⟨by repeat (first | (with_reducible first | exact HB.out | apply below_alloc | apply pw_below_drewN | apply below_drew1 | refine below_set ?_ GE104.out | refine below_set ?_ GE105.out | refine below_set ?_ GE106.out) | exact HB.out)⟩⟩
 case round =>
  as_aux_lemma =>
   clear H'
   (try clear c1); (try clear p2); (try clear c4); (try clear c7); (try clear c8); (try clear hcz5_0); (try clear hcz5_1); (try clear hcz5_2); (try clear hcz5_3); (try clear hcz9_0); (try clear hcz9_1); (try clear hcz9_2); (try clear hcz9_3); (try clear hfz5_0); (try clear hfz5_1); (try clear hfz5_2); (try clear hfz5_3); (try clear hfz9_0); (try clear hfz9_1); (try clear hfz9_2); (try clear hfz9_3)
   obtain ⟨x4_1, x107003_1, u107003, rfl, HA, HK1, HO_107003, BK104, BK105, BK106, HB⟩ := hrel
   cases gk with
   | zero => exact absurd HA.out (by simp [rootstocklaw14_CopyGrammar.l0])
   | succ k1 =>
    have H := HA.out
    clear HA
    simp only [rootstocklaw14_CopyGrammar.l0] at H
    by_cases c10 : x4_1 < (l0_3.length : Int)
    rotate_left
    · rw [if_neg c10] at H
      have c10b0 : decide (x4_1 < (l0_3.length : Int)) = false := decide_eq_false c10
      clear c10
      as_aux_lemma =>
       simp only [Option.some.injEq, Prod.mk.injEq] at H
       obtain ⟨rfl, rfl, rfl, rfl⟩ := H
       have hnb23 := NB104_105.out
       have hnc23 := NB105_104.out
       have hnb24 := NB104_106.out
       have hnc24 := NB106_104.out
       have hcz25_0 : wr.cell? ⟨gb104, 0, none⟩ = some (.int .i64 a0_0) := (blk_cell BK104.out 0).trans rfl
       have hcz25_1 : wr.cell? ⟨gb104, 1, none⟩ = some (.int .i64 a0_1) := (blk_cell BK104.out 1).trans rfl
       have hcz25_2 : wr.cell? ⟨gb104, 2, none⟩ = some (.int .i64 a0_2) := (blk_cell BK104.out 2).trans rfl
       have hcz25_3 : wr.cell? ⟨gb104, 3, none⟩ = some (.slice A0_3 l0_3.length c0_3) := (blk_cell BK104.out 3).trans rfl
       have hfz25_0 := blk_frozen BK104.out 0
       have hfz25_1 := blk_frozen BK104.out 1
       have hfz25_2 := blk_frozen BK104.out 2
       have hfz25_3 := blk_frozen BK104.out 3
       have hnb26 := NB106_105.out
       have hnc26 := NB105_106.out
       have hcz27_0 : wr.cell? ⟨gb106, 0, none⟩ = some (.int .i64 a0_0) := (blk_cell BK106.out 0).trans rfl
       have hcz27_1 : wr.cell? ⟨gb106, 1, none⟩ = some (.int .i64 a0_1) := (blk_cell BK106.out 1).trans rfl
       have hcz27_2 : wr.cell? ⟨gb106, 2, none⟩ = some (.int .i64 a0_2) := (blk_cell BK106.out 2).trans rfl
       have hcz27_3 : wr.cell? ⟨gb106, 3, none⟩ = some (u107003) := (blk_cell BK106.out 3).trans rfl
       have hfz27_0 := blk_frozen BK106.out 0
       have hfz27_1 := blk_frozen BK106.out 1
       have hfz27_2 := blk_frozen BK106.out 2
       have hfz27_3 := blk_frozen BK106.out 3
       have hcz28_0 : wr.cell? ⟨gb105, 0, none⟩ = some (.int .i64 0) := (blk_cell BK105.out 0).trans rfl
       have hcz28_1 : wr.cell? ⟨gb105, 1, none⟩ = some (.int .i64 0) := (blk_cell BK105.out 1).trans rfl
       have hcz28_2 : wr.cell? ⟨gb105, 2, none⟩ = some (.int .i64 0) := (blk_cell BK105.out 2).trans rfl
       have hcz28_3 : wr.cell? ⟨gb105, 3, none⟩ = some (.slice none 0 0) := (blk_cell BK105.out 3).trans rfl
       have hfz28_0 := blk_frozen BK105.out 0
       have hfz28_1 := blk_frozen BK105.out 1
       have hfz28_2 := blk_frozen BK105.out 2
       have hfz28_3 := blk_frozen BK105.out 3
       obtain ⟨Ao29, co29, eo29⟩ := Kd.R_slice HO_107003.out
       subst eo29
       go_wp2
       refine bodyPost_ret (results_cell_row rfl _ _ gb105 24 #[.int .i64 a0_0, .int .i64 a0_1, .int .i64 a0_2, .slice Ao29 x107003_1.length co29] (0, 0) _ rfl (by (with_reducible repeat (first | refine blk_drewN ?_ _ | refine blk_drew ?_ | refine blk_alloc ?_ _)); refine blk_put (cs := #[.int .i64 a0_0, .int .i64 a0_1, .int .i64 a0_2, .slice none 0 0]) ?_ 3 _ rfl; (with_reducible repeat (first | refine blk_drewN ?_ _ | refine blk_drew ?_ | refine blk_alloc ?_ _)); refine blk_put (cs := #[.int .i64 a0_0, .int .i64 a0_1, .int .i64 0, .slice none 0 0]) ?_ 2 _ rfl; (with_reducible repeat (first | refine blk_drewN ?_ _ | refine blk_drew ?_ | refine blk_alloc ?_ _)); refine blk_put (cs := #[.int .i64 a0_0, .int .i64 0, .int .i64 0, .slice none 0 0]) ?_ 1 _ rfl; (with_reducible repeat (first | refine blk_drewN ?_ _ | refine blk_drew ?_ | refine blk_alloc ?_ _)); refine blk_put (cs := #[.int .i64 0, .int .i64 0, .int .i64 0, .slice none 0 0]) ?_ 0 _ rfl; (with_reducible repeat (first | refine blk_drewN ?_ _ | refine blk_drew ?_ | refine blk_alloc ?_ _)); exact BK105.out) Try.underlying24 rfl (by kernel_rfl)) rfl ?_
       exact ⟨_, by first | rfl | (simp [errW_none, errW_some] <;> rfl) | (simp [*, errW_none, errW_some] <;> rfl), by (with_reducible repeat (first | apply Kd.R_alloc | apply Kd.R_drewN | apply Kd.R_drew)); exact Kd.R_mono (Kd.R_far (p := ⟨gb105, 3, none⟩) (Kd.R_far (p := ⟨gb105, 2, none⟩) (Kd.R_far (p := ⟨gb105, 1, none⟩) (Kd.R_far (p := ⟨gb105, 0, none⟩) (Kd.R_types HO_107003.out BK105.out (by decide)) (fun _ hk => hk.2) (.int .i64 a0_0)) (fun _ hk => hk.2) (.int .i64 a0_1)) (fun _ hk => hk.2) (.int .i64 a0_2)) (fun _ hk => hk.2) (.slice Ao29 x107003_1.length co29)) (fun _ hk => trivial), by repeat (first | (with_reducible first | exact HB.out | apply below_alloc | apply pw_below_drewN | apply below_drew1 | refine below_set ?_ GE104.out | refine below_set ?_ GE105.out | refine below_set ?_ GE106.out) | exact HB.out)⟩
    rw [if_pos c10] at H
    have c10b0 : decide (x4_1 < (l0_3.length : Int)) = true := decide_eq_true c10
    clear c10
    by_cases c11 : 0 ≤ x4_1
    rotate_left
    · rw [if_neg c11] at H
      exact absurd H (by simp)
    rw [if_pos c11] at H
    have c11b0 : decide (0 ≤ x4_1) = true := decide_eq_true c11
    clear c11
    replace H := Option.bind_eq_some_iff.mp H
    obtain ⟨t109, A120, H⟩ := H
    replace H : (if x107003_1.length < 3518437208883 then (rootstocklaw14_CopyGrammar.l0 k1 (wrap64 (x4_1 + 1)) a0_0 a0_1 a0_2 l0_3 a0_0 a0_1 a0_2 (x107003_1 ++ [(⟨(rd_T55 l0_3 x4_1).f0, t109, (rd_T55 l0_3 x4_1).f2⟩ : S55)])) else (none)) = some (r1, r2, r3, r4) := H
    have A12 := Aside0.mk A120
    clear A120
    by_cases c13 : x107003_1.length < 3518437208883
    rotate_left
    · rw [if_neg c13] at H
      exact absurd H (by simp)
    rw [if_pos c13] at H
    have LMc13 := Aside0.mk c13
    clear c13
    obtain ⟨y113, hy113⟩ : ∃ y_ : List (S55), y_ = (x107003_1 ++ [(⟨(rd_T55 l0_3 x4_1).f0, t109, (rd_T55 l0_3 x4_1).f2⟩ : S55)]) := ⟨_, rfl⟩
    replace H : (rootstocklaw14_CopyGrammar.l0 k1 (wrap64 (x4_1 + 1)) a0_0 a0_1 a0_2 l0_3 a0_0 a0_1 a0_2 y113) = some (r1, r2, r3, r4) := by first | (rw [hy113]; with_reducible exact H) | (have H2_ := (Option.bind_some _ _).symm.trans H; rw [hy113]; with_reducible exact H2_) | (have H2_ := (Option.bind_some _ _).symm.trans H; with_reducible exact H2_) | with_reducible exact H | (rw [hy113]; exact H) | exact H
    have Ny113 := Aside0.mk hy113
    clear hy113
    as_aux_lemma =>
     have H' := Aside0.mk H
     clear H
     have hnb14 := NB104_105.out
     have hnc14 := NB105_104.out
     have hnb15 := NB104_106.out
     have hnc15 := NB106_104.out
     have hcz16_0 : wr.cell? ⟨gb104, 0, none⟩ = some (.int .i64 a0_0) := (blk_cell BK104.out 0).trans rfl
     have hcz16_1 : wr.cell? ⟨gb104, 1, none⟩ = some (.int .i64 a0_1) := (blk_cell BK104.out 1).trans rfl
     have hcz16_2 : wr.cell? ⟨gb104, 2, none⟩ = some (.int .i64 a0_2) := (blk_cell BK104.out 2).trans rfl
     have hcz16_3 : wr.cell? ⟨gb104, 3, none⟩ = some (.slice A0_3 l0_3.length c0_3) := (blk_cell BK104.out 3).trans rfl
     have hfz16_0 := blk_frozen BK104.out 0
     have hfz16_1 := blk_frozen BK104.out 1
     have hfz16_2 := blk_frozen BK104.out 2
     have hfz16_3 := blk_frozen BK104.out 3
     try go_wp2
     have n0_ := Aside0.mk (Kd.R_drew HO_107003.out)
     have n1_ := Aside0.mk (blk_drew BK104.out)
     have n2_ := Aside0.mk (blk_drew BK105.out)
     have n3_ := Aside0.mk (blk_drew BK106.out)
     have n4_ := Aside0.mk (below_drew1 HB.out)
     clear HO_107003
     clear BK104
     clear BK105
     clear BK106
     clear HB
     have HO_107003 := n0_
     have BK104 := n1_
     have BK105 := n2_
     have BK106 := n3_
     have HB := n4_
     clear n0_ n1_ n2_ n3_ n4_
     have p107 : 0 ≤ (x4_1 : Int) := of_decide_eq_true (by first | (with_reducible assumption) | assumption)
     have q107 : x4_1 < (l0_3.length : Int) := of_decide_eq_true (by first | (with_reducible assumption) | assumption)
     obtain ⟨ad107, A107_1, c107_1, e107, hx107_0, hx107_1, hx107_2, hl107_1, hi107_1⟩ := at_T55 HR0_3.out x4_1 p107 q107
     have hw107_2 := hx107_2
     have hw107_1 := hx107_1
     have hw107_0 := hx107_0
     cases e107
     replace hx107_0 := (HB.out.cell (World.block_lt_of_cell? w _ hx107_0)).trans hx107_0
     replace hx107_1 := (HB.out.cell (World.block_lt_of_cell? w _ hx107_1)).trans hx107_1
     replace hx107_2 := (HB.out.cell (World.block_lt_of_cell? w _ hx107_2)).trans hx107_2
     have HR107_1 := Aside0.mk hi107_1
     have HC107_1 := Aside0.mk hl107_1
     clear hi107_1 hl107_1
     replace p107 := eq_true p107
     replace q107 := eq_true q107
     have p108 : 0 ≤ (x4_1 : Int) := of_decide_eq_true (by first | (with_reducible assumption) | assumption)
     have q108 : x4_1 < (l0_3.length : Int) := of_decide_eq_true (by first | (with_reducible assumption) | assumption)
     obtain ⟨ad108, A108_1, c108_1, e108, hx108_0, hx108_1, hx108_2, hl108_1, hi108_1⟩ := at_T55 HR0_3.out x4_1 p108 q108
     have hw108_2 := hx108_2
     have hw108_1 := hx108_1
     have hw108_0 := hx108_0
     obtain rfl : ad107 = ad108 := (by injection e108)
     replace hx108_0 := (HB.out.cell (World.block_lt_of_cell? w _ hx108_0)).trans hx108_0
     replace hx108_1 := (HB.out.cell (World.block_lt_of_cell? w _ hx108_1)).trans hx108_1
     replace hx108_2 := (HB.out.cell (World.block_lt_of_cell? w _ hx108_2)).trans hx108_2
     have HR108_1 := Aside0.mk hi108_1
     have HC108_1 := Aside0.mk hl108_1
     clear hi108_1 hl108_1
     replace p108 := eq_true p108
     replace q108 := eq_true q108
     have ea_ := Option.some.inj (hx107_1.symm.trans hx108_1)
     injection ea_ with ea_ en_ ec_
     subst ea_
     subst ec_
     clear en_
     have p112 : 0 ≤ (x4_1 : Int) := of_decide_eq_true (by first | (with_reducible assumption) | assumption)
     have q112 : x4_1 < (l0_3.length : Int) := of_decide_eq_true (by first | (with_reducible assumption) | assumption)
     obtain ⟨ad112, A112_1, c112_1, e112, hx112_0, hx112_1, hx112_2, hl112_1, hi112_1⟩ := at_T55 HR0_3.out x4_1 p112 q112
     have hw112_2 := hx112_2
     have hw112_1 := hx112_1
     have hw112_0 := hx112_0
     obtain rfl : ad107 = ad112 := (by injection e112)
     replace hx112_0 := (HB.out.cell (World.block_lt_of_cell? w _ hx112_0)).trans hx112_0
     replace hx112_1 := (HB.out.cell (World.block_lt_of_cell? w _ hx112_1)).trans hx112_1
     replace hx112_2 := (HB.out.cell (World.block_lt_of_cell? w _ hx112_2)).trans hx112_2
     have HR112_1 := Aside0.mk hi112_1
     have HC112_1 := Aside0.mk hl112_1
     clear hi112_1 hl112_1
     replace p112 := eq_true p112
     replace q112 := eq_true q112
     have ea_ := Option.some.inj (hx107_1.symm.trans hx112_1)
     injection ea_ with ea_ en_ ec_
     subst ea_
     subst ec_
     clear en_
     refine start_ (n := 26) (S := fun w' => w'.cell? ⟨gb106, 0, none⟩ = some (.int .i64 a0_0) ∧ w'.cell? ⟨gb106, 1, none⟩ = some (.int .i64 a0_1) ∧ w'.cell? ⟨gb106, 2, none⟩ = some (.int .i64 a0_2) ∧ w'.cell? ⟨gb106, 3, none⟩ = some (u107003) ∧ w'.cell? ⟨gb104, 0, none⟩ = some (.int .i64 a0_0) ∧ w'.cell? ⟨gb104, 1, none⟩ = some (.int .i64 a0_1) ∧ w'.cell? ⟨gb104, 2, none⟩ = some (.int .i64 a0_2) ∧ w'.cell? ⟨gb104, 3, none⟩ = some (.slice (some ad107) l0_3.length c0_3) ∧ w'.cell? (ad107.add ((x4_1).toNat * 3)) = some (.int .i64 ((rd_T55 l0_3 x4_1).f0)) ∧ w'.cell? ⟨(ad107.add ((x4_1).toNat * 3)).block, (ad107.add ((x4_1).toNat * 3)).off + 1, none⟩ = some (.slice A107_1 ((rd_T55 l0_3 x4_1).f1).length c107_1) ∧ w'.cell? ⟨(ad107.add ((x4_1).toNat * 3)).block, (ad107.add ((x4_1).toNat * 3)).off + 2, none⟩ = some (.bool ((rd_T55 l0_3 x4_1).f2)) ∧ w'.cell? (ad107.add ((x4_1).toNat * 3)) = some (.int .i64 ((rd_T55 l0_3 x4_1).f0)) ∧ w'.cell? ⟨(ad107.add ((x4_1).toNat * 3)).block, (ad107.add ((x4_1).toNat * 3)).off + 1, none⟩ = some (.slice A107_1 ((rd_T55 l0_3 x4_1).f1).length c107_1) ∧ w'.cell? ⟨(ad107.add ((x4_1).toNat * 3)).block, (ad107.add ((x4_1).toNat * 3)).off + 2, none⟩ = some (.bool ((rd_T55 l0_3 x4_1).f2)) ∧ w'.cell? (ad107.add ((x4_1).toNat * 3)) = some (.int .i64 ((rd_T55 l0_3 x4_1).f0)) ∧ w'.cell? ⟨(ad107.add ((x4_1).toNat * 3)).block, (ad107.add ((x4_1).toNat * 3)).off + 1, none⟩ = some (.slice A107_1 ((rd_T55 l0_3 x4_1).f1).length c107_1) ∧ w'.cell? ⟨(ad107.add ((x4_1).toNat * 3)).block, (ad107.add ((x4_1).toNat * 3)).off + 2, none⟩ = some (.bool ((rd_T55 l0_3 x4_1).f2))) (ds := [25]) #[false, false, false, false, false, false, false, false, false, false, false, false, false, false, false, false, false, false, false, false, false, false, false, false, false, false] (by kernel_rfl) rfl rfl ⟨(blk_cell BK106.out 0).trans rfl, (blk_cell BK106.out 1).trans rfl, (blk_cell BK106.out 2).trans rfl, (blk_cell BK106.out 3).trans rfl, (blk_cell BK104.out 0).trans rfl, (blk_cell BK104.out 1).trans rfl, (blk_cell BK104.out 2).trans rfl, (blk_cell BK104.out 3).trans rfl, ((HB.out.cell (World.block_lt_of_cell? w _ hw107_0)).trans hw107_0), ((HB.out.cell (World.block_lt_of_cell? w _ hw107_1)).trans hw107_1), ((HB.out.cell (World.block_lt_of_cell? w _ hw107_2)).trans hw107_2), ((HB.out.cell (World.block_lt_of_cell? w _ hw108_0)).trans hw108_0), ((HB.out.cell (World.block_lt_of_cell? w _ hw108_1)).trans hw108_1), ((HB.out.cell (World.block_lt_of_cell? w _ hw108_2)).trans hw108_2), ((HB.out.cell (World.block_lt_of_cell? w _ hw112_0)).trans hw112_0), ((HB.out.cell (World.block_lt_of_cell? w _ hw112_1)).trans hw112_1), ((HB.out.cell (World.block_lt_of_cell? w _ hw112_2)).trans hw112_2)⟩ (fun hHeld => ?_); refine with_tabW rootstocklaw14_CopyGrammar.tab5 rootstocklaw14_CopyGrammar.bits5 (fun HT_ HW_ => ?_)
     generalize wr.drew = w17 at HO_107003 BK104 BK105 BK106 HB HR107_1 HR108_1 HR112_1 hx107_0 hx107_1 hx107_2 hx108_0 hx108_1 hx108_2 hx112_0 hx112_1 hx112_2 hHeld ⊢
     refine pure_ (i := 0) (N := some 19) (v := ?_) (a' := ?_) #[true, false, false, false, false, false, false, false, false, false, false, false, false, false, false, false, false, false, false, false, false, false, false, false, false, false] rfl rfl (any_of HT_.out (by kernel_rfl)) (fun _ _ _ h => h) (Or.inl ⟨by rfl, ?_⟩) ?_ ?_
     rotate_left
     · intro w'
       go_simp
       with_reducible rfl
     rotate_left
     · simp only [Act.put, List.setIfInBounds_toArray, List.set_cons_zero, List.set_cons_succ, i64_w, i32_w]
       rfl
     refine pure_ (i := 2) (N := some 21) (v := ?_) (a' := ?_) #[true, false, true, false, false, false, false, false, false, false, false, false, false, false, false, false, false, false, false, false, false, false, false, false, false, false] rfl rfl (any_of HT_.out (by kernel_rfl)) (fun _ _ _ h => h) (Or.inl ⟨by rfl, ?_⟩) ?_ ?_
     rotate_left
     · intro w'
       go_simp
       with_reducible rfl
     rotate_left
     · simp only [Act.put, List.setIfInBounds_toArray, List.set_cons_zero, List.set_cons_succ, i64_w, i32_w]
       rfl
     refine pure_ (i := 4) (N := some 23) (v := ?_) (a' := ?_) #[true, false, true, false, true, false, false, false, false, false, false, false, false, false, false, false, false, false, false, false, false, false, false, false, false, false] rfl rfl (any_of HT_.out (by kernel_rfl)) (fun _ _ _ h => h) (Or.inl ⟨by rfl, ?_⟩) ?_ ?_
     rotate_left
     · intro w'
       go_simp
       with_reducible rfl
     rotate_left
     · simp only [Act.put, List.setIfInBounds_toArray, List.set_cons_zero, List.set_cons_succ, i64_w, i32_w]
       rfl
     refine pure_ (i := 8) (N := some 27) (v := ?_) (a' := ?_) #[true, false, true, false, true, false, false, false, true, false, false, false, false, false, false, false, false, false, false, false, false, false, false, false, false, false] rfl rfl (any_of HT_.out (by kernel_rfl)) (fun _ _ _ h => h) (Or.inl ⟨by rfl, ?_⟩) ?_ ?_
     rotate_left
     · intro w'
       go_simp
       with_reducible rfl
     rotate_left
     · simp only [Act.put, List.setIfInBounds_toArray, List.set_cons_zero, List.set_cons_succ, i64_w, i32_w]
       rfl
     refine pure_ (i := 10) (N := some 29) (v := ?_) (a' := ?_) #[true, false, true, false, true, false, false, false, true, false, true, false, false, false, false, false, false, false, false, false, false, false, false, false, false, false] rfl rfl (any_of HT_.out (by kernel_rfl)) (fun _ _ _ h => h) (Or.inl ⟨by rfl, ?_⟩) ?_ ?_
     rotate_left
     · intro w'
       go_simp
       with_reducible rfl
     rotate_left
     · simp only [Act.put, List.setIfInBounds_toArray, List.set_cons_zero, List.set_cons_succ, i64_w, i32_w]
       rfl
     refine pure_ (i := 15) (N := some 34) (v := ?_) (a' := ?_) #[true, false, true, false, true, false, false, false, true, false, true, false, false, false, false, true, false, false, false, false, false, false, false, false, false, false] rfl rfl (any_of HT_.out (by kernel_rfl)) (fun _ _ _ h => h) (Or.inl ⟨by rfl, ?_⟩) ?_ ?_
     rotate_left
     · intro w'
       go_simp
       with_reducible rfl
     rotate_left
     · simp only [Act.put, List.setIfInBounds_toArray, List.set_cons_zero, List.set_cons_succ, i64_w, i32_w]
       rfl
     refine pure_ (i := 17) (N := some 36) (v := ?_) (a' := ?_) #[true, false, true, false, true, false, false, false, true, false, true, false, false, false, false, true, false, true, false, false, false, false, false, false, false, false] rfl rfl (any_of HT_.out (by kernel_rfl)) (fun _ _ _ h => h) (Or.inl ⟨by rfl, ?_⟩) ?_ ?_
     rotate_left
     · intro w'
       go_simp
       with_reducible rfl
     rotate_left
     · simp only [Act.put, List.setIfInBounds_toArray, List.set_cons_zero, List.set_cons_succ, i64_w, i32_w]
       rfl
     refine take_ (i := 1) (N := some 20) (v := ?_) (a' := ?_) #[true, true, true, false, true, false, false, false, true, false, true, false, false, false, false, true, false, true, false, false, false, false, false, false, false, false] rfl rfl (take_ofW HT_.out HW_.out (by kernel_rfl)) (fun _ _ _ h => h) (Or.inl ⟨by rfl, ?_⟩) hHeld ?_ ?_
     rotate_left
     · rintro w' ⟨s0, s1, s2, s3, s4, s5, s6, s7, s8, s9, s10, s11, s12, s13, s14, s15, s16⟩
       go_simp
       with_reducible rfl
     rotate_left
     · simp only [Act.put, List.setIfInBounds_toArray, List.set_cons_zero, List.set_cons_succ, i64_w, i32_w]
       rfl
     refine take_ (i := 3) (N := some 22) (v := ?_) (a' := ?_) #[true, true, true, true, true, false, false, false, true, false, true, false, false, false, false, true, false, true, false, false, false, false, false, false, false, false] rfl rfl (take_ofW HT_.out HW_.out (by kernel_rfl)) (fun _ _ _ h => h) (Or.inl ⟨by rfl, ?_⟩) hHeld ?_ ?_
     rotate_left
     · rintro w' ⟨s0, s1, s2, s3, s4, s5, s6, s7, s8, s9, s10, s11, s12, s13, s14, s15, s16⟩
       go_simp
       with_reducible rfl
     rotate_left
     · simp only [Act.put, List.setIfInBounds_toArray, List.set_cons_zero, List.set_cons_succ, i64_w, i32_w]
       rfl
     refine pure_ (i := 5) (N := some 24) (v := ?_) (a' := ?_) #[true, true, true, true, true, true, false, false, true, false, true, false, false, false, false, true, false, true, false, false, false, false, false, false, false, false] rfl rfl (any_of HT_.out (by kernel_rfl)) (fun _ _ _ h => h) (Or.inl ⟨by rfl, ?_⟩) ?_ ?_
     rotate_left
     · intro w'
       go_simp
       with_reducible rfl
     rotate_left
     · simp only [Act.put, List.setIfInBounds_toArray, List.set_cons_zero, List.set_cons_succ, i64_w, i32_w]
       rfl
     refine pure_ (i := 6) (N := some 25) (v := ?_) (a' := ?_) #[true, true, true, true, true, true, true, false, true, false, true, false, false, false, false, true, false, true, false, false, false, false, false, false, false, false] rfl rfl (any_of HT_.out (by kernel_rfl)) (fun _ _ _ h => h) (Or.inl ⟨by rfl, ?_⟩) ?_ ?_
     rotate_left
     · intro w'
       go_simp
       with_reducible rfl
     rotate_left
     · simp only [Act.put, List.setIfInBounds_toArray, List.set_cons_zero, List.set_cons_succ, i64_w, i32_w]
       rfl
     refine take_ (i := 7) (N := some 26) (v := ?_) (a' := ?_) #[true, true, true, true, true, true, true, true, true, false, true, false, false, false, false, true, false, true, false, false, false, false, false, false, false, false] rfl rfl (take_ofW HT_.out HW_.out (by kernel_rfl)) (fun _ _ _ h => h) (Or.inl ⟨by rfl, ?_⟩) hHeld ?_ ?_
     rotate_left
     · rintro w' ⟨s0, s1, s2, s3, s4, s5, s6, s7, s8, s9, s10, s11, s12, s13, s14, s15, s16⟩
       go_simp
       with_reducible rfl
     rotate_left
     · simp only [Act.put, List.setIfInBounds_toArray, List.set_cons_zero, List.set_cons_succ, i64_w, i32_w]
       rfl
     refine take_ (i := 9) (N := some 28) (v := ?_) (a' := ?_) #[true, true, true, true, true, true, true, true, true, true, true, false, false, false, false, true, false, true, false, false, false, false, false, false, false, false] rfl rfl (take_ofW HT_.out HW_.out (by kernel_rfl)) (fun _ _ _ h => h) (Or.inl ⟨by rfl, ?_⟩) hHeld ?_ ?_
     rotate_left
     · rintro w' ⟨s0, s1, s2, s3, s4, s5, s6, s7, s8, s9, s10, s11, s12, s13, s14, s15, s16⟩
       go_simp
       with_reducible rfl
     rotate_left
     · simp only [Act.put, List.setIfInBounds_toArray, List.set_cons_zero, List.set_cons_succ, i64_w, i32_w]
       rfl
     refine pure_ (i := 11) (N := some 30) (v := ?_) (a' := ?_) #[true, true, true, true, true, true, true, true, true, true, true, true, false, false, false, true, false, true, false, false, false, false, false, false, false, false] rfl rfl (any_of HT_.out (by kernel_rfl)) (fun _ _ _ h => h) (Or.inl ⟨by rfl, ?_⟩) ?_ ?_
     rotate_left
     · intro w'
       go_simp
       with_reducible rfl
     rotate_left
     · simp only [Act.put, List.setIfInBounds_toArray, List.set_cons_zero, List.set_cons_succ, i64_w, i32_w]
       rfl
     refine pure_ (i := 12) (N := some 31) (v := ?_) (a' := ?_) #[true, true, true, true, true, true, true, true, true, true, true, true, true, false, false, true, false, true, false, false, false, false, false, false, false, false] rfl rfl (any_of HT_.out (by kernel_rfl)) (fun _ _ _ h => h) (Or.inl ⟨by rfl, ?_⟩) ?_ ?_
     rotate_left
     · intro w'
       go_simp
       with_reducible rfl
     rotate_left
     · simp only [Act.put, List.setIfInBounds_toArray, List.set_cons_zero, List.set_cons_succ, i64_w, i32_w]
       rfl
     refine take_ (i := 13) (N := some 32) (v := ?_) (a' := ?_) #[true, true, true, true, true, true, true, true, true, true, true, true, true, true, false, true, false, true, false, false, false, false, false, false, false, false] rfl rfl (take_ofW HT_.out HW_.out (by kernel_rfl)) (fun _ _ _ h => h) (Or.inl ⟨by rfl, ?_⟩) hHeld ?_ ?_
     rotate_left
     · rintro w' ⟨s0, s1, s2, s3, s4, s5, s6, s7, s8, s9, s10, s11, s12, s13, s14, s15, s16⟩
       go_simp
       with_reducible rfl
     rotate_left
     · simp only [Act.put, List.setIfInBounds_toArray, List.set_cons_zero, List.set_cons_succ, i64_w, i32_w]
       rfl
     refine take_ (i := 16) (N := some 35) (v := ?_) (a' := ?_) #[true, true, true, true, true, true, true, true, true, true, true, true, true, true, false, true, true, true, false, false, false, false, false, false, false, false] rfl rfl (take_ofW HT_.out HW_.out (by kernel_rfl)) (fun _ _ _ h => h) (Or.inl ⟨by rfl, ?_⟩) hHeld ?_ ?_
     rotate_left
     · rintro w' ⟨s0, s1, s2, s3, s4, s5, s6, s7, s8, s9, s10, s11, s12, s13, s14, s15, s16⟩
       go_simp
       with_reducible rfl
     rotate_left
     · simp only [Act.put, List.setIfInBounds_toArray, List.set_cons_zero, List.set_cons_succ, i64_w, i32_w]
       rfl
     refine pure_ (i := 18) (N := some 37) (v := ?_) (a' := ?_) #[true, true, true, true, true, true, true, true, true, true, true, true, true, true, false, true, true, true, true, false, false, false, false, false, false, false] rfl rfl (any_of HT_.out (by kernel_rfl)) (fun _ _ _ h => h) (Or.inl ⟨by rfl, ?_⟩) ?_ ?_
     rotate_left
     · intro w'
       go_simp
       with_reducible rfl
     rotate_left
     · simp only [Act.put, List.setIfInBounds_toArray, List.set_cons_zero, List.set_cons_succ, i64_w, i32_w]
       rfl
     refine pure_ (i := 19) (N := some 38) (v := ?_) (a' := ?_) #[true, true, true, true, true, true, true, true, true, true, true, true, true, true, false, true, true, true, true, true, false, false, false, false, false, false] rfl rfl (any_of HT_.out (by kernel_rfl)) (fun _ _ _ h => h) (Or.inl ⟨by rfl, ?_⟩) ?_ ?_
     rotate_left
     · intro w'
       go_simp
       with_reducible rfl
     rotate_left
     · simp only [Act.put, List.setIfInBounds_toArray, List.set_cons_zero, List.set_cons_succ, i64_w, i32_w]
       rfl
     refine take_ (i := 20) (N := some 39) (v := ?_) (a' := ?_) #[true, true, true, true, true, true, true, true, true, true, true, true, true, true, false, true, true, true, true, true, true, false, false, false, false, false] rfl rfl (take_ofW HT_.out HW_.out (by kernel_rfl)) (fun _ _ _ h => h) (Or.inl ⟨by rfl, ?_⟩) hHeld ?_ ?_
     rotate_left
     · rintro w' ⟨s0, s1, s2, s3, s4, s5, s6, s7, s8, s9, s10, s11, s12, s13, s14, s15, s16⟩
       go_simp
       with_reducible rfl
     rotate_left
     · simp only [Act.put, List.setIfInBounds_toArray, List.set_cons_zero, List.set_cons_succ, i64_w, i32_w]
       rfl
     refine one_ (i := 14) (N := some 33) #[true, true, true, true, true, true, true, true, true, true, true, true, true, true, true, true, true, true, true, true, true, false, false, false, false, false] rfl rfl (one_of HT_.out (by kernel_rfl)) (by decide) (fun K hK => ?_)
     refine goes_ Try.func13 (by kernel_rfl) rfl #[.slice A107_1 ((rd_T55 l0_3 x4_1).f1).length c107_1] (by rfl) rfl rfl (by (try simp only [List.map_toArray, List.map_cons, List.map_nil]); first | done | rfl | (simp only [List.length_drop, List.length_take]; rfl)) ?_
     with_reducible refine (rootstocklaw14_CopyInts.calls _ _ ((rd_T55 l0_3 x4_1).f1) t109 _ ?side1 ?side2 A12.out).mono ?_
     (case side1 => repeat (first | exact (Kd.C_below HR108_1.out HB.out) | (with_reducible refine Kd.C_alloc ?_ _) | (with_reducible refine Kd.C_drewN ?_ _) | (with_reducible refine Kd.C_drew ?_)))
     (case side2 => exact HC108_1.out)
     rintro e w18 ⟨v110, rfl, ho0, hb⟩
     refine ⟨_, rfl, ?_⟩
     have n0_ := Aside0.mk (Kd.R_elder' (by (with_reducible repeat (first | apply Kd.R_alloc | apply Kd.R_drewN | apply Kd.R_drew)); exact HO_107003.out) (Kd.R_base ho0) hb)
     have n1_ := Aside0.mk (Kd.R_lower ho0 (below_size (by repeat (first | (with_reducible first | exact HB.out | apply below_alloc | apply pw_below_drewN | apply below_drew1 | refine below_set ?_ GE104.out | refine below_set ?_ GE105.out | refine below_set ?_ GE106.out) | exact HB.out))))
     have n2_ := Aside0.mk (blk_below (g := gb104) (o := .cells #[.int .i64 a0_0, .int .i64 a0_1, .int .i64 a0_2, .slice (some ad107) l0_3.length c0_3] 24 (0, 0)) (by (with_reducible repeat (first | refine blk_drewN ?_ _ | refine blk_drew ?_ | refine blk_alloc ?_ _)); exact BK104.out) hb)
     have n3_ := Aside0.mk (blk_below (g := gb105) (o := .cells #[.int .i64 0, .int .i64 0, .int .i64 0, .slice none 0 0] 24 (0, 0)) (by (with_reducible repeat (first | refine blk_drewN ?_ _ | refine blk_drew ?_ | refine blk_alloc ?_ _)); exact BK105.out) hb)
     have n4_ := Aside0.mk (blk_below (g := gb106) (o := .cells #[.int .i64 a0_0, .int .i64 a0_1, .int .i64 a0_2, u107003] 24 (0, 0)) (by (with_reducible repeat (first | refine blk_drewN ?_ _ | refine blk_drew ?_ | refine blk_alloc ?_ _)); exact BK106.out) hb)
     have n5_ := Aside0.mk (below_step (by repeat (first | (with_reducible first | exact HB.out | apply below_alloc | apply pw_below_drewN | apply below_drew1 | refine below_set ?_ GE104.out | refine below_set ?_ GE105.out | refine below_set ?_ GE106.out) | exact HB.out)) hb)
     clear HO_107003
     clear BK104
     clear BK105
     clear BK106
     clear HB
     have HO_107003 := n0_
     have HO111 := n1_
     have BK104 := n2_
     have BK105 := n3_
     have BK106 := n4_
     have HB := n5_
     clear n0_ n1_ n2_ n3_ n4_ n5_
     (try clear hb)
     (try clear hb2)
     (try clear hk)
     (try clear hi)
     (try clear ho0)
     obtain ⟨Ao19, co19, eo19⟩ := Kd.R_slice HO111.out
     (first | subst eo19 | (injection eo19 with f1_ f2_ f3_; have f4_ := f1_.symm; have f5_ := f3_.symm; clear f1_ f2_ f3_; subst f4_; subst f5_))
     refine hK.out _ _ ⟨(blk_cell BK106.out 0).trans rfl, (blk_cell BK106.out 1).trans rfl, (blk_cell BK106.out 2).trans rfl, (blk_cell BK106.out 3).trans rfl, (blk_cell BK104.out 0).trans rfl, (blk_cell BK104.out 1).trans rfl, (blk_cell BK104.out 2).trans rfl, (blk_cell BK104.out 3).trans rfl, ((HB.out.cell (World.block_lt_of_cell? w _ hw107_0)).trans hw107_0), ((HB.out.cell (World.block_lt_of_cell? w _ hw107_1)).trans hw107_1), ((HB.out.cell (World.block_lt_of_cell? w _ hw107_2)).trans hw107_2), ((HB.out.cell (World.block_lt_of_cell? w _ hw108_0)).trans hw108_0), ((HB.out.cell (World.block_lt_of_cell? w _ hw108_1)).trans hw108_1), ((HB.out.cell (World.block_lt_of_cell? w _ hw108_2)).trans hw108_2), ((HB.out.cell (World.block_lt_of_cell? w _ hw112_0)).trans hw112_0), ((HB.out.cell (World.block_lt_of_cell? w _ hw112_1)).trans hw112_1), ((HB.out.cell (World.block_lt_of_cell? w _ hw112_2)).trans hw112_2)⟩ (fun hHeld => ?_)
     clear hK K
     refine norm_ (a' := ?_) ?_ ?_
     rotate_left
     · show Act.put _ (some 33) _ = _
       simp only [Act.put, List.setIfInBounds_toArray, List.set_cons_zero, List.set_cons_succ, i64_w, i32_w]
       rfl
     refine pure_ (i := 21) (N := some 40) (v := ?_) (a' := ?_) #[true, true, true, true, true, true, true, true, true, true, true, true, true, true, true, true, true, true, true, true, true, true, false, false, false, false] rfl rfl (any_of HT_.out (by kernel_rfl)) (fun _ _ _ h => h) (Or.inl ⟨by rfl, ?_⟩) ?_ ?_
     rotate_left
     · intro w'
       go_simp
       with_reducible rfl
     rotate_left
     · simp only [Act.put, List.setIfInBounds_toArray, List.set_cons_zero, List.set_cons_succ, i64_w, i32_w]
       rfl
     refine one_ (i := 22) (N := some 41) #[true, true, true, true, true, true, true, true, true, true, true, true, true, true, true, true, true, true, true, true, true, true, true, false, false, false] rfl rfl (one_of HT_.out (by kernel_rfl)) (by decide) (fun K hK => ?_)
     refine value_ (w1 := ?_) (v := ?_) (by rfl) rfl ?_ ?_
     rotate_left 2
     · go_simp
       constructor
       · rfl
       rfl
     refine hK.out _ _ ⟨(blk_cell (blk_alloc BK106.out _) 0).trans rfl, (blk_cell (blk_alloc BK106.out _) 1).trans rfl, (blk_cell (blk_alloc BK106.out _) 2).trans rfl, (blk_cell (blk_alloc BK106.out _) 3).trans rfl, (blk_cell (blk_alloc BK104.out _) 0).trans rfl, (blk_cell (blk_alloc BK104.out _) 1).trans rfl, (blk_cell (blk_alloc BK104.out _) 2).trans rfl, (blk_cell (blk_alloc BK104.out _) 3).trans rfl, (World.cell?_alloc_lt _ _ _ (World.block_lt_of_cell? _ _ (((HB.out.cell (World.block_lt_of_cell? w _ hw107_0)).trans hw107_0)))).trans (((HB.out.cell (World.block_lt_of_cell? w _ hw107_0)).trans hw107_0)), (World.cell?_alloc_lt _ _ _ (World.block_lt_of_cell? _ _ (((HB.out.cell (World.block_lt_of_cell? w _ hw107_1)).trans hw107_1)))).trans (((HB.out.cell (World.block_lt_of_cell? w _ hw107_1)).trans hw107_1)), (World.cell?_alloc_lt _ _ _ (World.block_lt_of_cell? _ _ (((HB.out.cell (World.block_lt_of_cell? w _ hw107_2)).trans hw107_2)))).trans (((HB.out.cell (World.block_lt_of_cell? w _ hw107_2)).trans hw107_2)), (World.cell?_alloc_lt _ _ _ (World.block_lt_of_cell? _ _ (((HB.out.cell (World.block_lt_of_cell? w _ hw108_0)).trans hw108_0)))).trans (((HB.out.cell (World.block_lt_of_cell? w _ hw108_0)).trans hw108_0)), (World.cell?_alloc_lt _ _ _ (World.block_lt_of_cell? _ _ (((HB.out.cell (World.block_lt_of_cell? w _ hw108_1)).trans hw108_1)))).trans (((HB.out.cell (World.block_lt_of_cell? w _ hw108_1)).trans hw108_1)), (World.cell?_alloc_lt _ _ _ (World.block_lt_of_cell? _ _ (((HB.out.cell (World.block_lt_of_cell? w _ hw108_2)).trans hw108_2)))).trans (((HB.out.cell (World.block_lt_of_cell? w _ hw108_2)).trans hw108_2)), (World.cell?_alloc_lt _ _ _ (World.block_lt_of_cell? _ _ (((HB.out.cell (World.block_lt_of_cell? w _ hw112_0)).trans hw112_0)))).trans (((HB.out.cell (World.block_lt_of_cell? w _ hw112_0)).trans hw112_0)), (World.cell?_alloc_lt _ _ _ (World.block_lt_of_cell? _ _ (((HB.out.cell (World.block_lt_of_cell? w _ hw112_1)).trans hw112_1)))).trans (((HB.out.cell (World.block_lt_of_cell? w _ hw112_1)).trans hw112_1)), (World.cell?_alloc_lt _ _ _ (World.block_lt_of_cell? _ _ (((HB.out.cell (World.block_lt_of_cell? w _ hw112_2)).trans hw112_2)))).trans (((HB.out.cell (World.block_lt_of_cell? w _ hw112_2)).trans hw112_2))⟩ (fun hHeld => ?_)
     clear hK K
     refine norm_ (a' := ?_) ?_ ?_
     rotate_left
     · show Act.put _ (some 41) _ = _
       simp only [Act.put, List.setIfInBounds_toArray, List.set_cons_zero, List.set_cons_succ, i64_w, i32_w]
       rfl
     refine one_ (i := 23) (N := some 42) #[true, true, true, true, true, true, true, true, true, true, true, true, true, true, true, true, true, true, true, true, true, true, true, true, false, false] rfl rfl (one_of HT_.out (by kernel_rfl)) (by decide) (fun K hK => ?_)
     refine Kd.R_append_step k55 (w0 := w) w.heap.size (by rfl) (.tmp 20) (.tmp 41) 22 55 (.agg #[(.int .i64 0), (.slice none 0 0), (.bool false)]) 40 rfl Try.underlying22 info55 rfl (by decide) (by omega) u107003 x107003_1 (⟨(rd_T55 l0_3 x4_1).f0, t109, (rd_T55 l0_3 x4_1).f2⟩ : S55) [.int .i64 ((rd_T55 l0_3 x4_1).f0), .slice Ao19 t109.length co19, .bool ((rd_T55 l0_3 x4_1).f2)] (fun _ => True) (fun k_ => ((fun _ => True)) k_ ∧ some k_ ≠ (u107003 : Value).ownBlock) rfl rfl ?aP (fun _ hk => hk) ?aF ?aO ?aB ?aS ?aL ?_
     (case aP => exact k55_mkM _ _ _ (⟨(rd_T55 l0_3 x4_1).f0, t109, (rd_T55 l0_3 x4_1).f2⟩ : S55) (Kd.R_mono (Kd.R_apart' (HO111.out) (Kd.R_typed HO_107003.out) (by decide)) (fun k_ hk => ⟨trivial, hk.2⟩)))
     (case aB => exact (by repeat (first | (with_reducible first | exact HB.out | apply below_alloc | apply pw_below_drewN | apply below_drew1 | refine below_set ?_ GE104.out | refine below_set ?_ GE105.out | refine below_set ?_ GE106.out) | exact HB.out)))
     (case aF => exact (fun _ _ => trivial))
     (case aO => exact (by (with_reducible repeat (first | apply Kd.R_alloc | apply Kd.R_drewN | apply Kd.R_drew)); exact Kd.R_mono HO_107003.out (fun _ hk => trivial)))
     (case aS => exact (below_size (by repeat (first | (with_reducible first | exact HB.out | apply below_alloc | apply pw_below_drewN | apply below_drew1 | refine below_set ?_ GE104.out | refine below_set ?_ GE105.out | refine below_set ?_ GE106.out) | exact HB.out))))
     (case aL => have := LMc13.out; omega)
     intro v114 w20 ho hb hg hat
     rw [← Ny113.out] at ho
     have n0_ := Aside0.mk (blk_grown (g := gb104) (o := .cells #[.int .i64 a0_0, .int .i64 a0_1, .int .i64 a0_2, .slice (some ad107) l0_3.length c0_3] 24 (0, 0)) (by (with_reducible repeat (first | refine blk_drewN ?_ _ | refine blk_drew ?_ | refine blk_alloc ?_ _)); exact BK104.out) hg (Kd.R_ne HO_107003.out BK104.out (by decide)))
     have n1_ := Aside0.mk (blk_grown (g := gb105) (o := .cells #[.int .i64 0, .int .i64 0, .int .i64 0, .slice none 0 0] 24 (0, 0)) (by (with_reducible repeat (first | refine blk_drewN ?_ _ | refine blk_drew ?_ | refine blk_alloc ?_ _)); exact BK105.out) hg (Kd.R_ne HO_107003.out BK105.out (by decide)))
     have n2_ := Aside0.mk (blk_grown (g := gb106) (o := .cells #[.int .i64 a0_0, .int .i64 a0_1, .int .i64 a0_2, u107003] 24 (0, 0)) (by (with_reducible repeat (first | refine blk_drewN ?_ _ | refine blk_drew ?_ | refine blk_alloc ?_ _)); exact BK106.out) hg (Kd.R_ne HO_107003.out BK106.out (by decide)))
     have n3_ := Aside0.mk (hb)
     have n4_ := Aside0.mk (ho)
     clear BK104
     clear BK105
     clear BK106
     clear HB
     clear HO_107003
     clear HO111
     have BK104 := n0_
     have BK105 := n1_
     have BK106 := n2_
     have HB := n3_
     have HO115 := n4_
     clear n0_ n1_ n2_ n3_ n4_
     clear ho hb hg hat
     obtain ⟨Ao21, co21, eo21⟩ := Kd.R_slice HO115.out
     (first | subst eo21 | (injection eo21 with f1_ f2_ f3_; have f4_ := f1_.symm; have f5_ := f3_.symm; clear f1_ f2_ f3_; subst f4_; subst f5_))
     refine hK.out _ _ ⟨(blk_cell BK106.out 0).trans rfl, (blk_cell BK106.out 1).trans rfl, (blk_cell BK106.out 2).trans rfl, (blk_cell BK106.out 3).trans rfl, (blk_cell BK104.out 0).trans rfl, (blk_cell BK104.out 1).trans rfl, (blk_cell BK104.out 2).trans rfl, (blk_cell BK104.out 3).trans rfl, ((HB.out.cell (World.block_lt_of_cell? w _ hw107_0)).trans hw107_0), ((HB.out.cell (World.block_lt_of_cell? w _ hw107_1)).trans hw107_1), ((HB.out.cell (World.block_lt_of_cell? w _ hw107_2)).trans hw107_2), ((HB.out.cell (World.block_lt_of_cell? w _ hw108_0)).trans hw108_0), ((HB.out.cell (World.block_lt_of_cell? w _ hw108_1)).trans hw108_1), ((HB.out.cell (World.block_lt_of_cell? w _ hw108_2)).trans hw108_2), ((HB.out.cell (World.block_lt_of_cell? w _ hw112_0)).trans hw112_0), ((HB.out.cell (World.block_lt_of_cell? w _ hw112_1)).trans hw112_1), ((HB.out.cell (World.block_lt_of_cell? w _ hw112_2)).trans hw112_2)⟩ (fun hHeld => ?_)
     clear hK K
     refine norm_ (a' := ?_) ?_ ?_
     rotate_left
     · show Act.put _ (some 42) _ = _
       simp only [Act.put, List.setIfInBounds_toArray, List.set_cons_zero, List.set_cons_succ, i64_w, i32_w]
       rfl
     refine pure_ (i := 24) (N := some 43) (v := ?_) (a' := ?_) #[true, true, true, true, true, true, true, true, true, true, true, true, true, true, true, true, true, true, true, true, true, true, true, true, true, false] rfl rfl (any_of HT_.out (by kernel_rfl)) (fun _ _ _ h => h) (Or.inl ⟨by rfl, ?_⟩) ?_ ?_
     rotate_left
     · intro w'
       go_simp
       with_reducible rfl
     rotate_left
     · simp only [Act.put, List.setIfInBounds_toArray, List.set_cons_zero, List.set_cons_succ, i64_w, i32_w]
       rfl
     refine last_ (i := 25) (N := none) #[true, true, true, true, true, true, true, true, true, true, true, true, true, true, true, true, true, true, true, true, true, true, true, true, true, true] rfl rfl (one_of HT_.out (by kernel_rfl)) (by decide) (fun K hK => ?_)
     have hs22 : w20.cell? ⟨gb106, 3, none⟩ = some (u107003) := (blk_cell BK106.out 3).trans rfl
     have hfs22 := blk_frozen BK106.out 3
     have hns22_0 := NB104_106.out
     have hns22_1 := NB105_106.out
     have hms22_0 := NB106_104.out
     have hms22_1 := NB106_105.out
     refine skip_ (w1 := ?_) (by rfl) rfl ?_ ?_
     rotate_left
     · go_simp
       rfl
     refine hK.out _ _ ?_
     clear hK K
     refine done_ (done_of HT_.out (by kernel_rfl)) ?_
     try go_wp2
     go_roundg k1
     case measure => have := HK1.out; omega
     case rel => exact ⟨(wrap64 (x4_1 + 1)), (y113), (.slice Ao21 y113.length co21), (by first | rfl | (simp; done) | (simp [*]; done)), H', ⟨by have := HK1.out; omega⟩, ⟨by (with_reducible repeat (first | apply Kd.R_alloc | apply Kd.R_drewN | apply Kd.R_drew)); exact Kd.R_mono (Kd.R_far (p := ⟨gb106, 3, none⟩) (Kd.R_types HO115.out BK106.out (by decide)) (fun _ hk => hk.2) (.slice Ao21 y113.length co21)) (fun _ hk => trivial)⟩, ⟨by (with_reducible repeat (first | refine blk_drewN ?_ _ | refine blk_drew ?_ | refine blk_alloc ?_ _)); refine blk_far ?_ NB104_106.out _; (with_reducible repeat (first | refine blk_drewN ?_ _ | refine blk_drew ?_ | refine blk_alloc ?_ _)); exact BK104.out⟩, ⟨by (with_reducible repeat (first | refine blk_drewN ?_ _ | refine blk_drew ?_ | refine blk_alloc ?_ _)); refine blk_far ?_ NB105_106.out _; (with_reducible repeat (first | refine blk_drewN ?_ _ | refine blk_drew ?_ | refine blk_alloc ?_ _)); exact BK105.out⟩, ⟨by (with_reducible repeat (first | refine blk_drewN ?_ _ | refine blk_drew ?_ | refine blk_alloc ?_ _)); refine blk_put (cs := #[.int .i64 a0_0, .int .i64 a0_1, .int .i64 a0_2, u107003]) ?_ 3 _ rfl; (with_reducible repeat (first | refine blk_drewN ?_ _ | refine blk_drew ?_ | refine blk_alloc ?_ _)); exact BK106.out⟩, ⟨by repeat (first | (with_reducible first | exact HB.out | apply below_alloc | apply pw_below_drewN | apply below_drew1 | refine below_set ?_ GE104.out | refine below_set ?_ GE105.out | refine below_set ?_ GE106.out) | exact HB.out)⟩⟩
end Go.Proofs.Ytadabkkkalgehaa.PFt
namespace Go.Proofs.Ytadabkkkalgehaa.PFt
open Go.RowKit Go.Proofs.YtadabkkkalgehaaW.PrintWords Go.Proofs.YtadabkkkalgehaaW.PrintLast Go.Proofs.YtadabkkkalgehaaW.PrintMore
attribute [local go_sem] max2_int min2_int max_two min_two max_three min_three max_four min_four   -- for this text's walks alone
set_option linter.unusedVariables false
set_option linter.unusedSimpArgs false
mutual
noncomputable def rootstocklaw14_Nodes.l0 : Nat → Int → Int → Int → Int → Int → List (S43) → Option (Int)
  | 0, _, _, _, _, _, _ => none
  | k + 1, x1, x5, x6, x117000, x117001, x117002 => if x6 < (x117002.length : Int) then (if x5 ≤ x1 then (if 0 ≤ x6 then ((rootstocklaw14_Nodes.f k ((rd_T43 x117002 x6).f0) ((rd_T43 x117002 x6).f1) ((rd_T43 x117002 x6).f2) (wrap64 (x1 - x5))).bind fun t118 => (rootstocklaw14_Nodes.l0 k x1 (wrap64 (x5 + t118)) (wrap64 (x6 + 1)) x117000 x117001 x117002)) else (none)) else (some x5)) else (some x5)
noncomputable def rootstocklaw14_Nodes.f : Nat → Int → Int → List (S43) → Int → Option (Int)
  | 0, _, _, _, _ => none
  | k + 1, a0_0, a0_1, l0_2, a1 => rootstocklaw14_Nodes.l0 k a1 1 0 a0_0 a0_1 l0_2
end
set_option maxHeartbeats 8000000 in
set_option maxRecDepth 100000 in
theorem rootstocklaw14_Nodes.calls (k : Nat) : ∀ (a0_0 : Int) (a0_1 : Int) (A0_2 : Option Addr) (c0_2 : Nat) (l0_2 : List (S43)) (a1 : Int) (r : Int) (w : World) (hr0_2 : Kd.C k43 w A0_2 l0_2.length l0_2) (hc0_2 : l0_2.length ≤ c0_2) (h : rootstocklaw14_Nodes.f k a0_0 a0_1 l0_2 a1 = some r),
    Calls Try.prog 21 #[.agg #[.int .i64 a0_0, .int .i64 a0_1, .slice A0_2 l0_2.length c0_2], .int .i64 a1] w fun e w' => e = .returned (.int .i64 r) ∧ Below w.heap.size w w' := by
 induction k using Nat.strongRecOn with
 | _ k ih =>
 intro a0_0 a0_1 A0_2 c0_2 l0_2 a1 r w hr0_2 hc0_2 h
 cases k with
 | zero => exact absurd h (by simp [rootstocklaw14_Nodes.f])
 | succ k =>
 simp only [rootstocklaw14_Nodes.f] at h
 have hu43 := Try.underlying43
 have HR0_2 := Aside0.mk hr0_2
 have HC0_2 := Aside0.mk hc0_2
 clear hr0_2 hc0_2
 have HB := Aside0.mk (Below.refl w.heap.size w)
 have H : (rootstocklaw14_Nodes.l0 k a1 1 0 a0_0 a0_1 l0_2) = some r := h
 clear h
 have H' := Aside0.mk H
 clear H
 go_enter Try.func21, Try.ntmps21
 go_wp2_with (((with_reducible refine gate_dst (N := 2) rfl ?_); refine box_event ?hg (N := 2) ?hd (cs := #[.int .i64 a0_0, .int .i64 a0_1, .slice A0_2 l0_2.length c0_2]) (t := 43) ?hr ?_; (case hd => rfl); (case hg => rfl); (case hr => first | (go_simp; done) | (go_simp; rfl)); intro gb116 hg w3 hbox hb; have n0_ := Aside0.mk (below_step (by repeat (first | (with_reducible first | exact HB.out | apply below_alloc | apply pw_below_drewN | apply below_drew1) | exact HB.out)) hb); have n1_ := Aside0.mk (hbox); have n2_ := Aside0.mk ((by rw [hg]; exact (below_size (by repeat (first | (with_reducible first | exact HB.out | apply below_alloc | apply pw_below_drewN | apply below_drew1) | exact HB.out))) : w.heap.size ≤ gb116)); have n3_ := Aside0.mk ((by rw [hg]; exact (below_size (by repeat (first | (with_reducible first | exact HB.out | apply below_alloc | apply pw_below_drewN | apply below_drew1) | exact HB.out))) : w.heap.size ≤ gb116)); clear HB; have HB := n0_; have BK116 := n1_; have GW116 := n2_; have GE116 := n3_; clear n0_ n1_ n2_ n3_; clear hb hbox hg))
 go_loopg [5, 6] k (fun kq v5 v6 w' => ∃ (x5_1 : Int) (x6_1 : Int), v5 = .int .i64 x5_1 ∧ v6 = .int .i64 x6_1 ∧ Aside0 (rootstocklaw14_Nodes.l0 kq a1 x5_1 x6_1 a0_0 a0_1 l0_2 = some r) ∧ Aside0 (kq ≤ k) ∧ Aside0 (w'.heap[gb116]? = some (.cells #[.int .i64 a0_0, .int .i64 a0_1, (.slice A0_2 l0_2.length c0_2)] 43 (0, 0))) ∧ Aside0 (Below w.heap.size w w'))
 case atStart => exact ⟨(1), (0), (by first | rfl | (simp; done) | (simp [*]; done)), (by first | rfl | (simp; done) | (simp [*]; done)), H', ⟨Nat.le_refl _⟩, ⟨by (with_reducible repeat (first | refine blk_drewN ?_ _ | refine blk_drew ?_ | refine blk_alloc ?_ _)); exact BK116.out⟩, ⟨by repeat (first | (with_reducible first | exact HB.out | apply below_alloc | apply pw_below_drewN | apply below_drew1 | refine below_set ?_ GE116.out) | exact HB.out)⟩⟩
 case round =>
  clear H'
  (try clear c2); (try clear p2)
  obtain ⟨x5_1, x6_1, rfl, rfl, HA, HK1, BK116, HB⟩ := hrel
  cases gk with
  | zero => exact absurd HA.out (by simp [rootstocklaw14_Nodes.l0])
  | succ k1 =>
   have H := HA.out
   clear HA
   simp only [rootstocklaw14_Nodes.l0] at H
   by_cases c4 : x6_1 < (l0_2.length : Int)
   rotate_left
   · rw [if_neg c4] at H
     have c4b0 : decide (x6_1 < (l0_2.length : Int)) = false := decide_eq_false c4
     clear c4
     as_aux_lemma =>
      obtain rfl := Option.some.inj H
      have hcz11_0 : wr.cell? ⟨gb116, 0, none⟩ = some (.int .i64 a0_0) := (blk_cell BK116.out 0).trans rfl
      have hcz11_1 : wr.cell? ⟨gb116, 1, none⟩ = some (.int .i64 a0_1) := (blk_cell BK116.out 1).trans rfl
      have hcz11_2 : wr.cell? ⟨gb116, 2, none⟩ = some (.slice A0_2 l0_2.length c0_2) := (blk_cell BK116.out 2).trans rfl
      have hfz11_0 := blk_frozen BK116.out 0
      have hfz11_1 := blk_frozen BK116.out 1
      have hfz11_2 := blk_frozen BK116.out 2
      go_wp2
      go_ret
      exact ⟨by first | rfl | (simp [errW_none, errW_some] <;> rfl) | (simp [*, errW_none, errW_some] <;> rfl), by repeat (first | (with_reducible first | exact HB.out | apply below_alloc | apply pw_below_drewN | apply below_drew1 | refine below_set ?_ GE116.out) | exact HB.out)⟩
   rw [if_pos c4] at H
   have c4b0 : decide (x6_1 < (l0_2.length : Int)) = true := decide_eq_true c4
   clear c4
   by_cases c5 : x5_1 ≤ a1
   rotate_left
   · rw [if_neg c5] at H
     have c5b0 : decide (x5_1 ≤ a1) = false := decide_eq_false c5
     clear c5
     as_aux_lemma =>
      obtain rfl := Option.some.inj H
      have hcz10_0 : wr.cell? ⟨gb116, 0, none⟩ = some (.int .i64 a0_0) := (blk_cell BK116.out 0).trans rfl
      have hcz10_1 : wr.cell? ⟨gb116, 1, none⟩ = some (.int .i64 a0_1) := (blk_cell BK116.out 1).trans rfl
      have hcz10_2 : wr.cell? ⟨gb116, 2, none⟩ = some (.slice A0_2 l0_2.length c0_2) := (blk_cell BK116.out 2).trans rfl
      have hfz10_0 := blk_frozen BK116.out 0
      have hfz10_1 := blk_frozen BK116.out 1
      have hfz10_2 := blk_frozen BK116.out 2
      go_wp2
      go_ret
      exact ⟨by first | rfl | (simp [errW_none, errW_some] <;> rfl) | (simp [*, errW_none, errW_some] <;> rfl), by repeat (first | (with_reducible first | exact HB.out | apply below_alloc | apply pw_below_drewN | apply below_drew1 | refine below_set ?_ GE116.out) | exact HB.out)⟩
   rw [if_pos c5] at H
   have c5b0 : decide (x5_1 ≤ a1) = true := decide_eq_true c5
   clear c5
   by_cases c6 : 0 ≤ x6_1
   rotate_left
   · rw [if_neg c6] at H
     exact absurd H (by simp)
   rw [if_pos c6] at H
   have c6b0 : decide (0 ≤ x6_1) = true := decide_eq_true c6
   clear c6
   replace H := Option.bind_eq_some_iff.mp H
   obtain ⟨t118, A70, H⟩ := H
   replace H : (rootstocklaw14_Nodes.l0 k1 a1 (wrap64 (x5_1 + t118)) (wrap64 (x6_1 + 1)) a0_0 a0_1 l0_2) = some r := H
   have A7 := Aside0.mk A70
   clear A70
   as_aux_lemma =>
    have H' := Aside0.mk H
    clear H
    have hcz8_0 : wr.cell? ⟨gb116, 0, none⟩ = some (.int .i64 a0_0) := (blk_cell BK116.out 0).trans rfl
    have hcz8_1 : wr.cell? ⟨gb116, 1, none⟩ = some (.int .i64 a0_1) := (blk_cell BK116.out 1).trans rfl
    have hcz8_2 : wr.cell? ⟨gb116, 2, none⟩ = some (.slice A0_2 l0_2.length c0_2) := (blk_cell BK116.out 2).trans rfl
    have hfz8_0 := blk_frozen BK116.out 0
    have hfz8_1 := blk_frozen BK116.out 1
    have hfz8_2 := blk_frozen BK116.out 2
    have p117 : 0 ≤ (x6_1 : Int) := of_decide_eq_true (by first | (with_reducible assumption) | assumption)
    have q117 : x6_1 < (l0_2.length : Int) := of_decide_eq_true (by first | (with_reducible assumption) | assumption)
    obtain ⟨ad117, A117_2, c117_2, e117, hx117_0, hx117_1, hx117_2, hl117_2, hi117_2⟩ := at_T43 HR0_2.out x6_1 p117 q117
    cases e117
    replace hx117_0 := (HB.out.cell (World.block_lt_of_cell? w _ hx117_0)).trans hx117_0
    replace hx117_1 := (HB.out.cell (World.block_lt_of_cell? w _ hx117_1)).trans hx117_1
    replace hx117_2 := (HB.out.cell (World.block_lt_of_cell? w _ hx117_2)).trans hx117_2
    have HR117_2 := Aside0.mk hi117_2
    have HC117_2 := Aside0.mk hl117_2
    clear hi117_2 hl117_2
    replace p117 := eq_true p117
    replace q117 := eq_true q117
    go_wp2_with (((with_reducible refine gate_callee (f := 21) rfl ?_); refine goesL_ (some 28) rfl rfl Try.func21 (by kernel_rfl) rfl #[.agg #[.int .i64 ((rd_T43 l0_2 x6_1).f0), .int .i64 ((rd_T43 l0_2 x6_1).f1), .slice A117_2 ((rd_T43 l0_2 x6_1).f2).length c117_2], .int .i64 (wrap64 (a1 - x5_1))] rfl (by (try simp only [List.map_toArray, List.map_cons, List.map_nil]); first | done | rfl | (simp only [List.length_drop, List.length_take]; rfl)) ?_; (with_reducible refine (ih k1 (by have := HK1.out; omega) ((rd_T43 l0_2 x6_1).f0) ((rd_T43 l0_2 x6_1).f1) _ _ ((rd_T43 l0_2 x6_1).f2) (wrap64 (a1 - x5_1)) t118 _ ?side1 ?side2 A7.out).mono ?_); (case side1 => repeat (first | exact (Kd.C_below HR117_2.out HB.out) | (with_reducible refine Kd.C_alloc ?_ _) | (with_reducible refine Kd.C_drewN ?_ _) | (with_reducible refine Kd.C_drew ?_))); (case side2 => exact HC117_2.out); rintro e w9 ⟨rfl, hb⟩; refine ⟨_, rfl, ?_⟩; have n0_ := Aside0.mk (blk_below (g := gb116) (o := .cells #[.int .i64 a0_0, .int .i64 a0_1, .slice (some ad117) l0_2.length c0_2] 43 (0, 0)) (by (with_reducible repeat (first | refine blk_drewN ?_ _ | refine blk_drew ?_ | refine blk_alloc ?_ _)); exact BK116.out) hb); have n1_ := Aside0.mk (below_step (by repeat (first | (with_reducible first | exact HB.out | apply below_alloc | apply pw_below_drewN | apply below_drew1 | refine below_set ?_ GE116.out) | exact HB.out)) hb); clear BK116; clear HB; have BK116 := n0_; have HB := n1_; clear n0_ n1_; (try clear hb); (try clear hb2); (try clear hk); (try clear hi)))
    go_roundg k1
    case measure => have := HK1.out; omega
    case rel => exact ⟨(wrap64 (x5_1 + t118)), (wrap64 (x6_1 + 1)), (by first | rfl | (simp; done) | (simp [*]; done)), (by first | rfl | (simp; done) | (simp [*]; done)), H', ⟨by have := HK1.out; omega⟩, ⟨by (with_reducible repeat (first | refine blk_drewN ?_ _ | refine blk_drew ?_ | refine blk_alloc ?_ _)); exact BK116.out⟩, ⟨by repeat (first | (with_reducible first | exact HB.out | apply below_alloc | apply pw_below_drewN | apply below_drew1 | refine below_set ?_ GE116.out) | exact HB.out)⟩⟩
noncomputable def grams_Check.f (a0_0 : Int) (a0_1 : Int) (a0_2 : Int) (l0_3 : List (S55)) : Option (Int) := some (H.checkI (toGr a0_0 a0_1 a0_2 l0_3))
theorem grams_Check.calls (a0_0 : Int) (a0_1 : Int) (a0_2 : Int) (A0_3 : Option Addr) (c0_3 : Nat) (l0_3 : List (S55)) (r : Int) (w : World) (hr0_3 : Kd.C k55 w A0_3 l0_3.length l0_3) (hc0_3 : l0_3.length ≤ c0_3) (h : grams_Check.f a0_0 a0_1 a0_2 l0_3 = some r) :
    Calls Try.prog 38 #[.agg #[.int .i64 a0_0, .int .i64 a0_1, .int .i64 a0_2, .slice A0_3 l0_3.length c0_3]] w fun e w' => e = .returned (.int .i64 r) ∧ Below w.heap.size w w' := by
  obtain rfl := Option.some.inj h
  rw [← grV_of]
  exact H.check_any _ _ _ w (grIn_of hr0_3 hc0_3)
mutual
noncomputable def derive_fits.j0 : Nat → Bool → Int → Int → Int → List (S55) → Int → Int → List (S43) → Option (Int)
  | 0, _, _, _, _, _, _, _, _ => none
  | k + 1, x20, x120000, x120001, x120002, x120003, x121000, x121001, x121002 => if x20 = true then (some 2) else (if x121000 < x120000 then (if x121001 = (-1) then (if (x121002.length : Int) > 0 then (some 200) else (some 0)) else (some 200)) else (if x121001 < 0 then (derive_fits.j1 k true x120000 x120001 x120002 x120003 x121000 x121001 x121002) else (derive_fits.j1 k (decide (x121001 ≥ (x120003.length : Int))) x120000 x120001 x120002 x120003 x121000 x121001 x121002)))
noncomputable def derive_fits.j1 : Nat → Bool → Int → Int → Int → List (S55) → Int → Int → List (S43) → Option (Int)
  | 0, _, _, _, _, _, _, _, _ => none
  | k + 1, x45, x120000, x120001, x120002, x120003, x121000, x121001, x121002 => if x45 = true then (some 2) else (if 0 ≤ x121001 then (if x121001 < (x120003.length : Int) then (if ((rd_T55 x120003 x121001).f0) = x121000 then (derive_fits.j2 k ((((rd_T55 x120003 x121001).f1).length : Int) != (x121002.length : Int)) x120000 x120001 x120002 x120003 x121000 x121001 x121002 ((rd_T55 x120003 x121001).f0) ((rd_T55 x120003 x121001).f1) ((rd_T55 x120003 x121001).f2)) else (derive_fits.j2 k true x120000 x120001 x120002 x120003 x121000 x121001 x121002 ((rd_T55 x120003 x121001).f0) ((rd_T55 x120003 x121001).f1) ((rd_T55 x120003 x121001).f2))) else (none)) else (none))
noncomputable def derive_fits.j2 : Nat → Bool → Int → Int → Int → List (S55) → Int → Int → List (S43) → Int → List Int → Bool → Option (Int)
  | 0, _, _, _, _, _, _, _, _, _, _, _ => none
  | k + 1, x65, x120000, x120001, x120002, x120003, x121000, x121001, x121002, x123000, x123001, x123002 => if x65 = true then (some 200) else (derive_fits.l0 k x121002 (x121002.length : Int) 0 x120000 x120001 x120002 x120003 x121000 x121001 x121002 x123000 x123001 x123002)
noncomputable def derive_fits.l0 : Nat → List (S43) → Int → Int → Int → Int → Int → List (S55) → Int → Int → List (S43) → Int → List Int → Bool → Option (Int)
  | 0, _, _, _, _, _, _, _, _, _, _, _, _, _ => none
  | k + 1, x67, x68, x69, x120000, x120001, x120002, x120003, x121000, x121001, x121002, x123000, x123001, x123002 => if x69 < x68 then (if 0 ≤ x69 then (if x69 < (x67.length : Int) then (if x69 < (x123001.length : Int) then (if ((rd_T43 x67 x69).f0) = (rd x123001 x69) then (derive_fits.l0 k x67 x68 (wrap64 (x69 + 1)) x120000 x120001 x120002 x120003 x121000 x121001 x121002 x123000 x123001 x123002) else (some 200)) else (none)) else (none)) else (none)) else (derive_fits.l1 k x121002 (x121002.length : Int) 0 x120000 x120001 x120002 x120003)
noncomputable def derive_fits.l1 : Nat → List (S43) → Int → Int → Int → Int → Int → List (S55) → Option (Int)
  | 0, _, _, _, _, _, _, _ => none
  | k + 1, x84, x85, x86, x120000, x120001, x120002, x120003 => if x86 < x85 then (if 0 ≤ x86 then (if x86 < (x84.length : Int) then ((derive_fits.f k x120000 x120001 x120002 x120003 ((rd_T43 x84 x86).f0) ((rd_T43 x84 x86).f1) ((rd_T43 x84 x86).f2)).bind fun t128 => (if t128 = 0 then (derive_fits.l1 k x84 x85 (wrap64 (x86 + 1)) x120000 x120001 x120002 x120003) else (some t128))) else (none)) else (none)) else (some 0)
noncomputable def derive_fits.f : Nat → Int → Int → Int → List (S55) → Int → Int → List (S43) → Option (Int)
  | 0, _, _, _, _, _, _, _ => none
  | k + 1, a0_0, a0_1, a0_2, l0_3, a1_0, a1_1, l1_2 => if a1_0 < 0 then (derive_fits.j0 k true a0_0 a0_1 a0_2 l0_3 a1_0 a1_1 l1_2) else (derive_fits.j0 k (decide (a1_0 ≥ a0_1)) a0_0 a0_1 a0_2 l0_3 a1_0 a1_1 l1_2)
end
end Go.Proofs.Ytadabkkkalgehaa.PFt
