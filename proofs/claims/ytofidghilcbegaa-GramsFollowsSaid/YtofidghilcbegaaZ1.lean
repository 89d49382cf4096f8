import Derived.Test.YtofidghilcbegaaZ0
import Derived.Deep.RegionHeld3
namespace Go.Proofs.Ytofidghilcbegaa.H
set_option linter.unusedVariables false
set_option linter.unusedSimpArgs false
def BLe (m m' : List Bool) : Prop := m'.length = m.length ∧ ∀ i : Nat, m[i]? = some true → m'[i]? = some true
theorem BLe.refl (m : List Bool) : BLe m m := ⟨rfl, fun _ h => h⟩
theorem BLe.trans {a b c : List Bool} (h : BLe a b) (k : BLe b c) : BLe a c := ⟨k.1.trans h.1, fun i hi => k.2 i (h.2 i hi)⟩
theorem BLe.antisymm {a b : List Bool} (h : BLe a b) (k : BLe b a) : a = b := by
  refine List.ext_getElem? fun i => ?_
  by_cases hi : i < a.length
  · have hj : i < b.length := by rw [h.1]; exact hi
    rw [List.getElem?_eq_getElem hi, List.getElem?_eq_getElem hj]
    cases ha : a[i] with
    | true =>
      have := h.2 i (by rw [List.getElem?_eq_getElem hi, ha])
      rw [List.getElem?_eq_getElem hj] at this
      exact this.symm
    | false =>
      cases hb : b[i] with
      | false => rfl
      | true =>
        have := k.2 i (by rw [List.getElem?_eq_getElem hj, hb])
        rw [List.getElem?_eq_getElem hi, ha] at this
        cases this
  · rw [List.getElem?_eq_none (by omega), List.getElem?_eq_none (by rw [h.1]; omega)]
theorem BLe.count : ∀ {m m' : List Bool}, BLe m m' → m'.count false ≤ m.count false ∧ (m'.count false = m.count false → m' = m) := by
  intro m
  induction m with
  | nil =>
    intro m' h
    have : m' = [] := List.eq_nil_of_length_eq_zero (by simpa using h.1)
    subst this
    exact ⟨Nat.le_refl _, fun _ => rfl⟩
  | cons x xs ih =>
    intro m' h
    cases m' with
    | nil => have := h.1; simp at this
    | cons y ys =>
      have ht : BLe xs ys := ⟨by have := h.1; simpa using this, fun i hi => by have := h.2 (i + 1) (by simpa using hi); simpa using this⟩
      obtain ⟨h1, h2⟩ := ih ht
      have hx := h.2 0
      cases x with
      | true =>
        have : y = true := by simpa using hx
        subst this
        refine ⟨by simpa using h1, fun e => ?_⟩
        rw [h2 (by simpa using e)]
      | false =>
        cases y with
        | false =>
          refine ⟨by simpa using h1, fun e => ?_⟩
          rw [h2 (by simpa using e)]
        | true =>
          refine ⟨by simp; omega, fun e => ?_⟩
          simp at e
          omega
theorem BLe.set {m : List Bool} {j : Nat} {b : Bool} (h : m[j]? = some true → b = true) : BLe m (m.set j b) := by
  refine ⟨by simp, fun i hi => ?_⟩
  rw [List.getElem?_set]
  by_cases e : j = i
  · subst e
    rw [if_pos rfl]
    have hlt : j < m.length := (List.getElem?_eq_some_iff.1 hi).1
    rw [if_pos hlt, h hi]
  · rw [if_neg e]; exact hi
theorem gb_some {m : List Bool} {s : Int} (h : s.toNat < m.length) : (gb m s = true ↔ m[s.toNat]? = some true) := by
  unfold gb
  rw [List.getD_eq_getElem?_getD, List.getElem?_eq_getElem h]
  simp
def its (R : List Bool → List Bool) : Nat → List Bool → List Bool
  | 0, m => m
  | k + 1, m => its R k (R m)
theorem its_still {R : List Bool → List Bool} {m : List Bool} (h : R m = m) : ∀ k, its R k m = m := by
  intro k
  induction k with
  | zero => rfl
  | succ k ih => unfold its; rw [h, ih]
theorem its_fix {R : List Bool → List Bool} {n : Nat} (hR : ∀ m : List Bool, m.length = n → BLe m (R m)) : ∀ (k : Nat) (m : List Bool), m.length = n → m.count false ≤ k → R (its R k m) = its R k m := by
  intro k
  induction k with
  | zero =>
    intro m hm hk
    have h := hR m hm
    exact (h.count).2 (by have := h.count.1; omega)
  | succ k ih =>
    intro m hm hk
    have h := hR m hm
    by_cases e : R m = m
    · have h1 : its R (k + 1) m = m := its_still e (k + 1)
      rw [h1, e]
    · refine ih (R m) (by rw [h.1]; exact hm) ?_
      have h1 := h.count.1
      have h2 : (R m).count false ≠ m.count false := fun e' => e (h.count.2 e')
      omega
theorem its_ind {R : List Bool → List Bool} {P : List Bool → Prop} (hR : ∀ m, P m → P (R m)) : ∀ k m, P m → P (its R k m) := by
  intro k
  induction k with
  | zero => intro m h; exact h
  | succ k ih => intro m h; exact ih _ (hR m h)
theorem foldl_le {α : Type} {f : List Bool → α → List Bool} {n : Nat} (l : List α) (hf : ∀ u x, x ∈ l → u.length = n → BLe u (f u x)) : ∀ m : List Bool, m.length = n → BLe m (l.foldl f m) := by
  induction l with
  | nil => intro m _; exact BLe.refl m
  | cons x l ih =>
    intro m hm
    have h := hf m x (by simp) hm
    exact h.trans (ih (fun u y hy hu => hf u y (by simp [hy]) hu) _ (by rw [h.1]; exact hm))
theorem foldl_fix {α : Type} {f : List Bool → α → List Bool} {n : Nat} (l : List α) (hf : ∀ u x, x ∈ l → u.length = n → BLe u (f u x)) : ∀ m : List Bool, m.length = n → l.foldl f m = m → ∀ x ∈ l, f m x = m := by
  induction l with
  | nil => intro m _ _ x hx; cases hx
  | cons x l ih =>
    intro m hm e y hy
    have h := hf m x (by simp) hm
    have h2 := foldl_le l (fun u y hy hu => hf u y (by simp [hy]) hu) (f m x) (by rw [h.1]; exact hm)
    rw [List.foldl_cons] at e
    have e1 : f m x = m := by
      rw [e] at h2
      exact h2.antisymm h
    rcases List.mem_cons.1 hy with rfl | hy
    · exact e1
    · rw [e1] at e
      exact ih (fun u y hy hu => hf u y (by simp [hy]) hu) m hm e y hy
theorem foldl_ind {α β : Type} {f : β → α → β} {P : β → Prop} (l : List α) (hf : ∀ u x, x ∈ l → P u → P (f u x)) : ∀ m, P m → P (l.foldl f m) := by
  induction l with
  | nil => intro m h; exact h
  | cons x l ih => intro m h; exact ih (fun u y hy hu => hf u y (by simp [hy]) hu) _ (hf m x (by simp) h)
def cIn (h : Int) (m : List Bool) (y : Int) : List Bool := m.set y.toNat (gb m y || gb m h)
def cStep (m : List Bool) (p : Pr) : List Bool := p.body.foldl (cIn p.head) m
def cRound (ps : List Pr) (m : List Bool) : List Bool := ps.foldl cStep m
def comeL (g : Gr) : List Bool := its (cRound g.ps) g.S.toNat ((List.replicate g.S.toNat false).set g.st.toNat true)
theorem cIn_le {h : Int} {m : List Bool} {y : Int} : BLe m (cIn h m y) := BLe.set fun e => by
  have hlt : y.toNat < m.length := (List.getElem?_eq_some_iff.1 e).1
  rw [(gb_some hlt).2 e]
  rfl
theorem cStep_le {n : Nat} {m : List Bool} {p : Pr} (hm : m.length = n) : BLe m (cStep m p) := foldl_le (n := n) p.body (fun u y _ _ => cIn_le) m hm
theorem cRound_le {n : Nat} {ps : List Pr} (m : List Bool) (hm : m.length = n) : BLe m (cRound ps m) := foldl_le (n := n) ps (fun u p _ hu => cStep_le hu) m hm
theorem set_fix {m : List Bool} {y : Int} {b : Bool} (h0 : 0 ≤ y) (hl : y.toNat < m.length) (h : m.set y.toNat b = m) : gb m y = b := by
  have := gb_set (b := b) h0 hl y h0
  rw [h, if_pos rfl] at this
  exact this
theorem comeL_len (g : Gr) : (comeL g).length = g.S.toNat := its_ind (P := fun m => m.length = g.S.toNat) (fun m hm => by rw [(cRound_le (ps := g.ps) m hm).1]; exact hm) _ _ (by simp)
theorem come_spec {g : Gr} (ok : GrOk g) (s : Int) (h0 : 0 ≤ s) (h1 : s < g.S) : gb (comeL g) s = true ↔ Cm g.st g.ps s := by
  have hT := ok.t0
  have hS := ok.s0
  have hst := ok.st0
  have hst1 := ok.st1
  have hpin : ∀ p ∈ g.ps, PrIn g.S.toNat p := fun p hp => ⟨by have := ok.pr p hp; omega, by have := ok.pr p hp; omega, fun y hy => by have := (ok.pr p hp).2.2 y hy; omega⟩
  constructor
  · have inv : (comeL g).length = g.S.toNat ∧ ∀ s, 0 ≤ s → s.toNat < g.S.toNat → gb (comeL g) s = true → Cm g.st g.ps s := by
      refine its_ind (P := fun m => m.length = g.S.toNat ∧ ∀ s, 0 ≤ s → s.toNat < g.S.toNat → gb m s = true → Cm g.st g.ps s) (fun m hm => ?_) _ _ ?_
      · refine foldl_ind (P := fun m => m.length = g.S.toNat ∧ ∀ s, 0 ≤ s → s.toNat < g.S.toNat → gb m s = true → Cm g.st g.ps s) g.ps (fun u p hp hu => ?_) m hm
        refine foldl_ind (P := fun m => m.length = g.S.toNat ∧ ∀ s, 0 ≤ s → s.toNat < g.S.toNat → gb m s = true → Cm g.st g.ps s) p.body (fun v y hy hv => ?_) u hu
        have hyn := (hpin p hp).2.2 y hy
        refine ⟨by simp [cIn, hv.1], fun t ht0 htn hg => ?_⟩
        unfold cIn at hg
        rw [gb_set hyn.1 (by rw [hv.1]; exact hyn.2) t ht0] at hg
        split at hg
        · rename_i e
          subst e
          rcases Bool.or_eq_true_iff.1 hg with h | h
          · exact hv.2 t ht0 htn h
          · exact .step hp (hv.2 _ (hpin p hp).1 (hpin p hp).2.1 h) hy
        · exact hv.2 t ht0 htn hg
      · refine ⟨by simp, fun t ht0 htn hg => ?_⟩
        rw [gb_set (by omega) (by simp; omega) t ht0] at hg
        split at hg
        · rename_i e; subst e; exact .start
        · unfold gb at hg
          rw [List.getD_eq_getElem?_getD, List.getElem?_eq_getElem (by simpa using htn)] at hg
          simp at hg
    exact inv.2 s h0 (by omega)
  · have hlen := comeL_len g
    have fix : cRound g.ps (comeL g) = comeL g := its_fix (n := g.S.toNat) (fun m hm => cRound_le m hm) g.S.toNat _ (by simp) (by have := List.count_le_length (a := false) (l := (List.replicate g.S.toNat false).set g.st.toNat true); simpa using this)
    have hstart : gb (comeL g) g.st = true := by
      have hmono : BLe ((List.replicate g.S.toNat false).set g.st.toNat true) (comeL g) := its_ind (P := fun m => m.length = g.S.toNat ∧ BLe ((List.replicate g.S.toNat false).set g.st.toNat true) m) (fun m hm => by
        have := cRound_le (ps := g.ps) m hm.1
        exact ⟨by rw [this.1]; exact hm.1, hm.2.trans this⟩) _ _ ⟨by simp, BLe.refl _⟩ |>.2
      refine (gb_some (by rw [hlen]; omega)).2 (hmono.2 _ ?_)
      rw [List.getElem?_set_self (by rw [List.length_replicate]; omega)]
    have hcl : ∀ p ∈ g.ps, gb (comeL g) p.head = true → ∀ y ∈ p.body, gb (comeL g) y = true := fun p hp hh y hy => by
      have e1 := foldl_fix (n := g.S.toNat) g.ps (fun u p _ hu => cStep_le hu) (comeL g) hlen fix p hp
      have e2 := foldl_fix (n := g.S.toNat) p.body (fun u y _ _ => cIn_le (h := p.head)) (comeL g) hlen e1 y hy
      have hyn := (hpin p hp).2.2 y hy
      have := set_fix hyn.1 (by rw [hlen]; exact hyn.2) e2
      rw [hh, Bool.or_true] at this
      exact this
    intro h
    induction h with
    | start => exact hstart
    | step hp h hy ih => exact hcl _ hp (ih (by have := (ok.pr _ hp).1; omega) (ok.pr _ hp).2.1) _ hy
def gStep (m : List Bool) (p : Pr) : List Bool := m.set p.head.toNat (gb m p.head || p.body.all (gb m))
def gRound (ps : List Pr) (m : List Bool) : List Bool := ps.foldl gStep m
def goodL (g : Gr) : List Bool := its (gRound g.ps) g.S.toNat (List.replicate g.T.toNat true ++ List.replicate (g.S.toNat - g.T.toNat) false)
theorem gStep_le {m : List Bool} {p : Pr} : BLe m (gStep m p) := BLe.set fun e => by
  have hlt : p.head.toNat < m.length := (List.getElem?_eq_some_iff.1 e).1
  rw [(gb_some hlt).2 e]
  rfl
theorem gRound_le {n : Nat} {ps : List Pr} (m : List Bool) (hm : m.length = n) : BLe m (gRound ps m) := foldl_le (n := n) ps (fun u p _ hu => gStep_le) m hm
theorem good0_len {g : Gr} (ok : GrOk g) : (List.replicate g.T.toNat true ++ List.replicate (g.S.toNat - g.T.toNat) false).length = g.S.toNat := by
  have := ok.t0; have := ok.s0
  simp; omega
theorem goodL_len {g : Gr} (ok : GrOk g) : (goodL g).length = g.S.toNat := its_ind (P := fun m => m.length = g.S.toNat) (fun m hm => by rw [(gRound_le (ps := g.ps) m hm).1]; exact hm) _ _ (good0_len ok)
theorem good_spec {g : Gr} (ok : GrOk g) (s : Int) (h0 : 0 ≤ s) (h1 : s < g.S) : gb (goodL g) s = true ↔ Gd g.T g.ps s := by
  have hT := ok.t0
  have hS := ok.s0
  have hpin : ∀ p ∈ g.ps, PrIn g.S.toNat p := fun p hp => ⟨by have := ok.pr p hp; omega, by have := ok.pr p hp; omega, fun y hy => by have := (ok.pr p hp).2.2 y hy; omega⟩
  constructor
  · have inv : (goodL g).length = g.S.toNat ∧ ∀ s, 0 ≤ s → s.toNat < g.S.toNat → gb (goodL g) s = true → Gd g.T g.ps s := by
      refine its_ind (P := fun m => m.length = g.S.toNat ∧ ∀ s, 0 ≤ s → s.toNat < g.S.toNat → gb m s = true → Gd g.T g.ps s) (fun m hm => ?_) _ _ ?_
      · refine foldl_ind (P := fun m => m.length = g.S.toNat ∧ ∀ s, 0 ≤ s → s.toNat < g.S.toNat → gb m s = true → Gd g.T g.ps s) g.ps (fun u p hp hu => ?_) m hm
        have hpn := hpin p hp
        refine ⟨by simp [gStep, hu.1], fun t ht0 htn hg => ?_⟩
        unfold gStep at hg
        rw [gb_set hpn.1 (by rw [hu.1]; exact hpn.2.1) t ht0] at hg
        split at hg
        · rename_i e
          subst e
          rcases Bool.or_eq_true_iff.1 hg with h | h
          · exact hu.2 _ ht0 htn h
          · exact .head hp fun y hy => hu.2 y (hpn.2.2 y hy).1 (hpn.2.2 y hy).2 (List.all_eq_true.1 h y hy)
        · exact hu.2 t ht0 htn hg
      · refine ⟨good0_len ok, fun t ht0 htn hg => ?_⟩
        rw [gb_rep _ _ _ _ _ (by omega)] at hg
        split at hg
        · exact .term ht0 (by omega)
        · cases hg
    exact inv.2 s h0 (by omega)
  · have hlen := goodL_len ok
    have hmono : BLe (List.replicate g.T.toNat true ++ List.replicate (g.S.toNat - g.T.toNat) false) (goodL g) := (its_ind (P := fun m => m.length = g.S.toNat ∧ BLe (List.replicate g.T.toNat true ++ List.replicate (g.S.toNat - g.T.toNat) false) m) (fun m hm => by
        have := gRound_le (ps := g.ps) m hm.1
        exact ⟨by rw [this.1]; exact hm.1, hm.2.trans this⟩) _ _ ⟨good0_len ok, BLe.refl _⟩).2
    have fix : gRound g.ps (goodL g) = goodL g := its_fix (n := g.S.toNat) (fun m hm => gRound_le m hm) g.S.toNat _ (good0_len ok) (by have := List.count_le_length (a := false) (l := (List.replicate g.T.toNat true ++ List.replicate (g.S.toNat - g.T.toNat) false)); rwa [good0_len ok] at this)
    intro h
    clear h0 h1
    induction h with
    | @term s h0 h =>
      refine (gb_some (by rw [hlen]; omega)).2 (hmono.2 _ ?_)
      have := gb_rep g.T.toNat (g.S.toNat - g.T.toNat) true false s (by omega)
      rw [if_pos (by omega)] at this
      exact (gb_some (by rw [good0_len ok]; omega)).1 this
    | @head p hp h ih =>
      have e1 := foldl_fix (n := g.S.toNat) g.ps (fun u p _ hu => gStep_le) (goodL g) hlen fix p hp
      have hpn := hpin p hp
      have := set_fix hpn.1 (by rw [hlen]; exact hpn.2.1) e1
      rw [List.all_eq_true.2 ih, Bool.or_true] at this
      exact this
inductive Rch (ps : List Pr) : Int → Int → Prop where
  | one {p : Pr} (hp : p ∈ ps) (hl : p.body.length = 1) : Rch ps p.head (p.body.getD 0 0)
  | more {s : Int} {p : Pr} (h : Rch ps s p.head) (hp : p ∈ ps) (hl : p.body.length = 1) : Rch ps s (p.body.getD 0 0)
def rStep (s : Int) (m : List Bool) (p : Pr) : List Bool := if p.body.length = 1 ∧ (p.head = s ∨ gb m p.head = true) then m.set (p.body.getD 0 0).toNat true else m
def rRound (ps : List Pr) (s : Int) (m : List Bool) : List Bool := ps.foldl (rStep s) m
def rchL (g : Gr) (s : Int) : List Bool := its (rRound g.ps s) (g.S.toNat + 1) (List.replicate g.S.toNat false)
theorem rStep_le {s : Int} {m : List Bool} {p : Pr} : BLe m (rStep s m p) := by
  unfold rStep
  split
  · exact BLe.set fun _ => rfl
  · exact BLe.refl m
theorem rRound_le {n : Nat} {ps : List Pr} {s : Int} (m : List Bool) (hm : m.length = n) : BLe m (rRound ps s m) := foldl_le (n := n) ps (fun u p _ hu => rStep_le) m hm
theorem rchL_len (g : Gr) (s : Int) : (rchL g s).length = g.S.toNat := its_ind (P := fun m => m.length = g.S.toNat) (fun m hm => by rw [(rRound_le (ps := g.ps) (s := s) m hm).1]; exact hm) _ _ (by simp)
theorem one_mem {p : Pr} (hl : p.body.length = 1) : p.body.getD 0 0 ∈ p.body := by
  rw [List.getD_eq_getElem?_getD, List.getElem?_eq_getElem (by omega)]
  exact List.getElem_mem _
theorem rch_spec {g : Gr} (ok : GrOk g) (s t : Int) (h0 : 0 ≤ t) (h1 : t < g.S) : gb (rchL g s) t = true ↔ Rch g.ps s t := by
  have hT := ok.t0
  have hS := ok.s0
  have hpin : ∀ p ∈ g.ps, PrIn g.S.toNat p := fun p hp => ⟨by have := ok.pr p hp; omega, by have := ok.pr p hp; omega, fun y hy => by have := (ok.pr p hp).2.2 y hy; omega⟩
  constructor
  · have inv : (rchL g s).length = g.S.toNat ∧ ∀ t, 0 ≤ t → t.toNat < g.S.toNat → gb (rchL g s) t = true → Rch g.ps s t := by
      refine its_ind (P := fun m => m.length = g.S.toNat ∧ ∀ t, 0 ≤ t → t.toNat < g.S.toNat → gb m t = true → Rch g.ps s t) (fun m hm => ?_) _ _ ?_
      · refine foldl_ind (P := fun m => m.length = g.S.toNat ∧ ∀ t, 0 ≤ t → t.toNat < g.S.toNat → gb m t = true → Rch g.ps s t) g.ps (fun u p hp hu => ?_) m hm
        have hpn := hpin p hp
        unfold rStep
        split
        · rename_i hc
          have hyn := hpn.2.2 _ (one_mem hc.1)
          refine ⟨by simp [hu.1], fun t ht0 htn hg => ?_⟩
          rw [gb_set hyn.1 (by rw [hu.1]; exact hyn.2) t ht0] at hg
          split at hg
          · rename_i e
            subst e
            rcases hc.2 with e | e
            · rw [← e]; exact .one hp hc.1
            · exact .more (hu.2 _ hpn.1 hpn.2.1 e) hp hc.1
          · exact hu.2 t ht0 htn hg
        · exact hu
      · refine ⟨by simp, fun t ht0 htn hg => ?_⟩
        unfold gb at hg
        rw [List.getD_eq_getElem?_getD, List.getElem?_eq_getElem (by simpa using htn)] at hg
        simp at hg
    exact inv.2 t h0 (by omega)
  · have hlen := rchL_len g s
    have fix : rRound g.ps s (rchL g s) = rchL g s := its_fix (n := g.S.toNat) (fun m hm => rRound_le m hm) (g.S.toNat + 1) _ (by simp) (by have := List.count_le_length (a := false) (l := List.replicate g.S.toNat false); simp at this ⊢)
    have hcl : ∀ p ∈ g.ps, p.body.length = 1 → (p.head = s ∨ gb (rchL g s) p.head = true) → gb (rchL g s) (p.body.getD 0 0) = true := fun p hp hl hh => by
      have e1 := foldl_fix (n := g.S.toNat) g.ps (fun u p _ hu => rStep_le) (rchL g s) hlen fix p hp
      unfold rStep at e1
      rw [if_pos ⟨hl, hh⟩] at e1
      have hyn := (hpin p hp).2.2 _ (one_mem hl)
      exact set_fix hyn.1 (by rw [hlen]; exact hyn.2) e1
    have key : ∀ {x y : Int}, Rch g.ps x y → x = s → gb (rchL g s) y = true := by
      intro x y h
      induction h with
      | one hp hl => exact fun e => hcl _ hp hl (.inl e)
      | more h hp hl ih => exact fun e => hcl _ hp hl (.inr (ih e))
    exact fun h => key h rfl
theorem Rch.trans {ps : List Pr} {a b c : Int} (h : Rch ps a b) (k : Rch ps b c) : Rch ps a c := by
  induction k with
  | one hp hl => exact .more h hp hl
  | more _ hp hl ih => exact .more (ih h) hp hl
theorem cyc_rch {ps : List Pr} : ∀ (n : Nat) (X : Int → Prop), (∃ s, X s) → (∀ s, X s → 0 ≤ s ∧ s < n) → Cyc ps X → ∃ s, X s ∧ Rch ps s s := by
  intro n
  induction n with
  | zero =>
    rintro X ⟨s, hs⟩ hb _
    have := hb s hs
    omega
  | succ n ih =>
    intro X hX hb hC
    by_cases hn : X (n : Int)
    · by_cases hr : Rch ps (n : Int) (n : Int)
      · exact ⟨_, hn, hr⟩
      · obtain ⟨p, hp, e1, e2, e3⟩ := hC _ hn
        have r0 : Rch ps (n : Int) (p.body.getD 0 0) := by rw [← e1]; exact .one hp e2
        obtain ⟨s, h1, h2⟩ := ih (fun x => X x ∧ Rch ps (n : Int) x) ⟨_, e3, r0⟩ (fun x hx => by
            have h := hb x hx.1
            have : x ≠ n := fun e => hr (by have := hx.2; rw [e] at this; exact this)
            omega) (fun x hx => by
          obtain ⟨q, hq, f1, f2, f3⟩ := hC x hx.1
          exact ⟨q, hq, f1, f2, f3, .more (by rw [f1]; exact hx.2) hq f2⟩)
        exact ⟨s, h1.1, h2⟩
    · exact ih X hX (fun x hx => by
        have h := hb x hx
        have : x ≠ n := fun e => hn (e ▸ hx)
        omega) hC
theorem round_rch {g : Gr} (ok : GrOk g) : roundB g = true ↔ ∃ s, g.T ≤ s ∧ s < g.S ∧ Rch g.ps s s := by
  have hT := ok.t0
  have hS := ok.s0
  rw [round_spec ok]
  constructor
  · rintro ⟨X, hX, hb, hC⟩
    obtain ⟨s, h1, h2⟩ := cyc_rch g.S.toNat X hX (fun s hs => by have := hb s hs; omega) hC
    exact ⟨s, (hb s h1).1, (hb s h1).2, h2⟩
  · rintro ⟨s, h1, h2, h3⟩
    refine ⟨fun t => g.T ≤ t ∧ t < g.S ∧ Rch g.ps t s, ⟨s, h1, h2, h3⟩, fun t ht => ⟨ht.1, ht.2.1⟩, fun t ht => ?_⟩
    have key : ∀ {a b : Int}, Rch g.ps a b → ∀ z, (b = z ∨ Rch g.ps b z) → g.T ≤ z → ∃ p ∈ g.ps, p.head = a ∧ p.body.length = 1 ∧ (p.body.getD 0 0 = z ∨ Rch g.ps (p.body.getD 0 0) z) := by
      intro a b h
      induction h with
      | one hp hl => exact fun z hz _ => ⟨_, hp, rfl, hl, hz⟩
      | more h hp hl ih =>
        intro z hz hz0
        refine ih z (.inr ?_) hz0
        rcases hz with rfl | hz
        · exact .one hp hl
        · exact (Rch.one hp hl).trans hz
    obtain ⟨p, hp, e1, e2, e3⟩ := key ht.2.2 s (.inl rfl) h1
    refine ⟨p, hp, e1, e2, ?_⟩
    have hy := (ok.pr p hp).2.2 _ (one_mem e2)
    have hys : Rch g.ps (p.body.getD 0 0) s := by
      rcases e3 with e | e
      · rw [e]; exact h3
      · exact e
    refine ⟨?_, hy.2, hys⟩
    have hd : ∀ {a b : Int}, Rch g.ps a b → ∃ q ∈ g.ps, q.head = a := by
      intro a b h
      induction h with
      | one hp _ => exact ⟨_, hp, rfl⟩
      | more _ _ _ ih => exact ih
    obtain ⟨q, hq, e⟩ := hd hys
    rw [← e]
    exact (ok.pr q hq).1
theorem used_ref {g : Gr} (ok : GrOk g) : usedB g = true ↔ ∀ s, g.T ≤ s → s < g.S → gb (comeL g) s = true ∧ gb (goodL g) s = true := by
  have hT := ok.t0
  rw [used_spec ok]
  constructor
  · rintro ⟨h1, h2⟩ s hs0 hs1
    exact ⟨(come_spec ok s (by omega) hs1).2 (h1 s hs0 hs1), (good_spec ok s (by omega) hs1).2 (h2 s (by omega) hs1)⟩
  · intro h
    refine ⟨fun s hs0 hs1 => (come_spec ok s (by omega) hs1).1 (h s hs0 hs1).1, fun s hs0 hs1 => ?_⟩
    by_cases hs : s < g.T
    · exact .term hs0 hs
    · exact (good_spec ok s hs0 hs1).1 (h s (by omega) hs1).2
theorem round_ref {g : Gr} (ok : GrOk g) : roundB g = true ↔ ∃ s, g.T ≤ s ∧ s < g.S ∧ gb (rchL g s) s = true := by
  have hT := ok.t0
  rw [round_rch ok]
  constructor
  · rintro ⟨s, h1, h2, h3⟩
    exact ⟨s, h1, h2, (rch_spec ok s s (by omega) h2).2 h3⟩
  · rintro ⟨s, h1, h2, h3⟩
    exact ⟨s, h1, h2, (rch_spec ok s s (by omega) h2).1 h3⟩
end Go.Proofs.Ytofidghilcbegaa.H
namespace Go.Proofs.Ytofidghilcbegaa.H
open Go.RowKit
set_option linter.unusedVariables false
set_option linter.unusedSimpArgs false
structure RfW (w wr : World) (gv : Array Value) (gO n : Nat) (m : List Bool) : Prop where
  bw : Below w.heap.size w wr
  bg : Blk wr w.heap.size 24 gv
  bo : Blk wr gO 4 (bools m)
  go : w.heap.size < gO
  lo : m.length = n
theorem RfW.set {w wr : World} {gv : Array Value} {gO n : Nat} {m : List Bool} (h : RfW w wr gv gO n m) (i : Nat) (b : Bool) : RfW w (wr.setCell ⟨gO, i, none⟩ (.bool b)) gv gO n (m.set i b) := by
  refine ⟨h.bw.setCell (by show w.heap.size ≤ gO; have := h.go; omega) _, h.bg.far (by show _ ≠ gO; have := h.go; omega) _, ?_, h.go, by simp [h.lo]⟩
  have := h.bo.set_ i (.bool b)
  rwa [bools_set] at this
theorem RfW.drew {w wr : World} {gv : Array Value} {gO n : Nat} {m : List Bool} (h : RfW w wr gv gO n m) : RfW w wr.drew gv gO n m := ⟨below_drew1 h.bw, h.bg.drew, h.bo.drew, h.go, h.lo⟩
theorem its_step (R : List Bool → List Bool) (k : Nat) (m : List Bool) : its R (k + 1) m = R (its R k m) := by
  induction k generalizing m with
  | zero => rfl
  | succ k ih => show its R (k + 1) (R m) = R (its R k (R m)); exact ih _
theorem rfw_start {w : World} {gv : Array Value} {n : Nat} : RfW w ((w.alloc (.cells gv 24)).alloc (.cells (bools (List.replicate n false)) 4)) gv (w.heap.size + 1) n (List.replicate n false) :=
  ⟨((Below.refl _ _).alloc (Nat.le_refl _) _).alloc (by simp) _, (Blk.new _ _ _).alloc _, Blk.newAt (by simp), by omega, by simp⟩
theorem take_fold {α β : Type} (f : β → α → β) (l : List α) (k : Nat) (hk : k < l.length) (b : β) : (l.take (k + 1)).foldl f b = f ((l.take k).foldl f b) l[k] := by
  rw [List.take_succ_eq_append_getElem hk, List.foldl_append]; rfl
set_option maxRecDepth 100000 in
set_option maxHeartbeats 4000000 in
theorem refCome (g : Gr) (A : Option Addr) (c : Nat) (w : World) (hbl : ∀ p ∈ g.ps, p.body.length ≤ 9223372036854775807) (hr : RdP w w.heap.size A g.ps) (ok : GrOk g) :
    Calls Try.prog 37 #[grV g A c] w fun e w' => ∃ gO, e = .returned (.slice (some ⟨gO, 0, none⟩) g.S.toNat g.S.toNat) ∧ w.heap.size ≤ gO ∧ Blk w' gO 4 (bools (comeL g)) ∧ Below w.heap.size w w' := by
  obtain ⟨T, S, st, ps⟩ := g
  obtain ⟨t0, t1, s0, s1, st0, st1, n0, n1, pr⟩ := ok
  dsimp only at *
  obtain ⟨t, rfl⟩ := Int.eq_ofNat_of_zero_le (show 0 ≤ T by omega)
  obtain ⟨n, rfl⟩ := Int.eq_ofNat_of_zero_le (show 0 ≤ S by omega)
  obtain ⟨a, rfl⟩ := Int.eq_ofNat_of_zero_le (show 0 ≤ st by omega)
  have R0 : Keep (RdP w w.heap.size A ps) := ⟨hr⟩
  have B0 : Keep (∀ p ∈ ps, p.body.length ≤ 9223372036854775807) := ⟨hbl⟩
  have P0 : Keep (∀ p ∈ ps, PrIn n p) := ⟨fun p hp => ⟨by have := pr p hp; omega, by have := pr p hp; omega, fun s hs => by have := (pr p hp).2.2 s hs; omega⟩⟩
  clear hr hbl pr
  generalize hG : comeL ⟨t, n, a, ps⟩ = RES
  have HG : Keep (its (cRound ps) n ((List.replicate n false).set a true) = RES) := ⟨hG⟩
  clear hG
  unfold grV
  dsimp only
  rw [Int.toNat_natCast]
  have hmk := @run_make_row' Try.prog 45 4 (.bool false) 1 Try.underlying45 info_bool rfl .i64 .i64 n (by omega) (by omega)
  simp only [madeCells_bools] at hmk
  go_enter Try.func37, Try.ntmps37
  have U0 := Keep.mk (rfw_start (w := w) (gv := #[.int .i64 t, .int .i64 n, .int .i64 a, .slice A ps.length c]) (n := n))
  have cc := U0.out.bo.cell a
  rw [bools_at _ a (by simp; omega)] at cc
  have cf := U0.out.bo.frozen a
  have U1 : Keep (RfW w ((w.alloc (.cells #[.int .i64 t, .int .i64 n, .int .i64 a, .slice A ps.length c] 24)).alloc (.cells ((bools (List.replicate n false)).setIfInBounds a (.bool true)) 4)) #[.int .i64 t, .int .i64 n, .int .i64 a, .slice A ps.length c] (w.heap.size + 1) n ((List.replicate n false).set a true)) := ⟨((Below.refl _ _).alloc (Nat.le_refl _) _).alloc (by simp) _, (Blk.new _ _ _).alloc _, by rw [bools_set]; exact Blk.newAt (by simp), by omega, by simp⟩
  have i1 : (a : Int) < n := by omega
  clear U0
  go_wp2
  clear cc cf hmk
  go_loopg [4] n (fun gg s4 wr => ∃ k : Nat, k ≤ n ∧ n - k ≤ gg ∧ s4 = .int .i64 k ∧ Keep (RfW w wr #[.int .i64 t, .int .i64 n, .int .i64 a, .slice A ps.length c] (w.heap.size + 1) n (its (cRound ps) k ((List.replicate n false).set a true))))
  case atStart => exact ⟨0, Nat.zero_le _, by omega, rfl, U1⟩
  case round =>
    clear U1
    obtain ⟨k, hk, hg, rfl, U⟩ := hrel
    have q1 := U.out.bg.cell 1
    simp at q1
    by_cases hlt : k < n
    · have HS := Keep.mk (its_step (cRound ps) k ((List.replicate n false).set a true))
      generalize its (cRound ps) k ((List.replicate n false).set a true) = m0 at *
      have k1 : (k : Int) < n := by omega
      go_wp2
      clear q1
      go_loopg [5] ps.length (fun gg s5 wr => ∃ i : Nat, i ≤ ps.length ∧ ps.length - i ≤ gg ∧ s5 = .int .i64 i ∧ Keep (RfW w wr #[.int .i64 t, .int .i64 n, .int .i64 a, .slice A ps.length c] (w.heap.size + 1) n ((ps.take i).foldl cStep m0)))
      case atStart => exact ⟨0, Nat.zero_le _, by omega, rfl, U⟩
      case round =>
        clear U
        obtain ⟨i, hi, hgi, rfl, U⟩ := hrel
        have q3 := U.out.bg.cell 3
        simp at q3
        by_cases hlti : i < ps.length
        · obtain ⟨ad, Ab, cb, rfl, hb, c0, c1, c2, hlb, hrb⟩ := R0.out i hlti
          have hbl := B0.out _ (List.getElem_mem hlti)
          have hpi := Keep.mk (P0.out _ (List.getElem_mem hlti))
          have HU2 := Keep.mk (take_fold cStep ps i hlti m0)
          generalize (ps.take i).foldl cStep m0 = m1 at *
          generalize hx : ps[i] = p at *
          clear hx
          obtain ⟨hd, bd, rt⟩ := p
          dsimp only at *
          obtain ⟨d, rfl⟩ := Int.eq_ofNat_of_zero_le hpi.out.1
          have hdn : (d : Int) < n := by have := hpi.out.2.1; simp at this; omega
          have j1 : (0:Int) ≤ i := by omega
          have j2 : (i : Int) < ps.length := by omega
          have C0 := Keep.mk c0
          have C1 := Keep.mk c1
          clear c0 c1 c2
          go_wp2
          clear q3
          go_loopg [6] bd.length (fun gg s6 wr => ∃ j : Nat, j ≤ bd.length ∧ bd.length - j ≤ gg ∧ s6 = .int .i64 j ∧ Keep (RfW w wr #[.int .i64 t, .int .i64 n, .int .i64 a, .slice (some ad) ps.length c] (w.heap.size + 1) n ((bd.take j).foldl (cIn d) m1)))
          case atStart => exact ⟨0, Nat.zero_le _, by omega, rfl, U⟩
          case round =>
            clear U
            obtain ⟨j, hj, hgj, rfl, U⟩ := hrel
            have q3 := U.out.bg.cell 3
            simp at q3
            have c0 := cell_below C0.out U.out.bw (by rw [add_block]; exact hb)
            have c1 := cell_below C1.out U.out.bw (by show (ad.add _).block < _; rw [add_block]; exact hb)
            by_cases hltj : j < bd.length
            · obtain ⟨a2, rfl, hb2, hc2⟩ := hrb.int j hltj
              replace hc2 := cell_below hc2 U.out.bw (by rw [add_block]; exact hb2)
              have hs := hpi.out.2.2 _ (List.getElem_mem hltj)
              have HV2 := Keep.mk (take_fold (cIn d) bd j hltj m1)
              generalize (bd.take j).foldl (cIn d) m1 = m2 at *
              generalize hy : bd[j] = y at *
              clear hy
              obtain ⟨y, rfl⟩ := Int.eq_ofNat_of_zero_le hs.1
              have hyn : (y : Int) < n := by have := hs.2; simp at this; omega
              have e1 : (0:Int) ≤ j := by omega
              have e2 : (j : Int) < bd.length := by omega
              have ca := U.out.bo.cell d
              rw [bools_gb _ d (by rw [U.out.lo]; omega)] at ca
              have cb' := U.out.bo.cell y
              rw [bools_gb _ y (by rw [U.out.lo]; omega)] at cb'
              have cf := U.out.bo.frozen y
              have hci : Keep (cIn d m2 y = m2.set y (gb m2 y || gb m2 d)) := ⟨rfl⟩
              clear hs
              have U3 := fun b => Keep.mk (U.out.set y b)
              clear U
              generalize gb m2 d = v1 at *
              generalize gb m2 y = v2 at *
              cases v2 with
              | true =>
                have UU := U3 true
                clear U3
                go_wp2
                go_region
                go_wp2
                go_roundg (bd.length - (j + 1))
                case measure => omega
                case rel => exact ⟨j + 1, by omega, by omega, by go_num, ⟨by rw [HV2.out, hci.out]; exact UU.out.drew⟩⟩
              | false =>
                have UU := U3 v1
                clear U3
                go_wp2
                go_region
                go_wp2
                go_roundg (bd.length - (j + 1))
                case measure => omega
                case rel => exact ⟨j + 1, by omega, by omega, by go_num, ⟨by rw [HV2.out, hci.out]; exact UU.out.drew⟩⟩
            · have ej : j = bd.length := by omega
              subst ej
              go_wp2
              go_roundg (ps.length - (i + 1))
              case measure => omega
              case rel => exact ⟨i + 1, by omega, by omega, by go_num, ⟨by rw [HU2.out]; have := U.out; rw [List.take_length] at this; exact this⟩⟩
        · have em : i = ps.length := by omega
          subst em
          go_wp2
          go_roundg (n - (k + 1))
          case measure => omega
          case rel => exact ⟨k + 1, by omega, by omega, by go_num, ⟨by rw [HS.out]; have := U.out; rw [List.take_length] at this; exact this⟩⟩
    · have ek : k = n := by omega
      subst ek
      go_wp2
      go_ret
      refine ⟨w.heap.size + 1, rfl, by omega, ?_, U.out.bw⟩
      have := U.out.bo
      rwa [HG.out] at this
end Go.Proofs.Ytofidghilcbegaa.H
namespace Go.Proofs.Ytofidghilcbegaa.H
open Go.RowKit
set_option linter.unusedVariables false
set_option linter.unusedSimpArgs false
theorem all_take (f : Int → Bool) (l : List Int) (k : Nat) (hk : k < l.length) : (l.take (k + 1)).all f = ((l.take k).all f && f l[k]) := by
  rw [List.take_succ_eq_append_getElem hk, List.all_append]; simp
set_option maxRecDepth 100000 in
set_option maxHeartbeats 4000000 in
theorem refGood (g : Gr) (A : Option Addr) (c : Nat) (w : World) (hbl : ∀ p ∈ g.ps, p.body.length ≤ 9223372036854775807) (hr : RdP w w.heap.size A g.ps) (ok : GrOk g) :
    Calls Try.prog 38 #[grV g A c] w fun e w' => ∃ gO, e = .returned (.slice (some ⟨gO, 0, none⟩) g.S.toNat g.S.toNat) ∧ w.heap.size ≤ gO ∧ Blk w' gO 4 (bools (goodL g)) ∧ Below w.heap.size w w' := by
  obtain ⟨T, S, st, ps⟩ := g
  obtain ⟨t0, t1, s0, s1, st0, st1, n0, n1, pr⟩ := ok
  dsimp only at *
  obtain ⟨t, rfl⟩ := Int.eq_ofNat_of_zero_le (show 0 ≤ T by omega)
  obtain ⟨n, rfl⟩ := Int.eq_ofNat_of_zero_le (show 0 ≤ S by omega)
  have R0 : Keep (RdP w w.heap.size A ps) := ⟨hr⟩
  have B0 : Keep (∀ p ∈ ps, p.body.length ≤ 9223372036854775807) := ⟨hbl⟩
  have P0 : Keep (∀ p ∈ ps, PrIn n p) := ⟨fun p hp => ⟨by have := pr p hp; omega, by have := pr p hp; omega, fun s hs => by have := (pr p hp).2.2 s hs; omega⟩⟩
  clear hr hbl pr
  generalize hG : goodL ⟨t, n, st, ps⟩ = RES
  have HG : Keep (its (gRound ps) n (List.replicate t true ++ List.replicate (n - t) false) = RES) := ⟨by rw [← hG]; unfold goodL; simp⟩
  clear hG
  unfold grV
  dsimp only
  rw [Int.toNat_natCast]
  have hmk := @run_make_row' Try.prog 45 4 (.bool false) 1 Try.underlying45 info_bool rfl .i64 .i64 n (by omega) (by omega)
  simp only [madeCells_bools] at hmk
  go_enter Try.func38, Try.ntmps38
  have U0 := Keep.mk (rfw_start (w := w) (gv := #[.int .i64 t, .int .i64 n, .int .i64 st, .slice A ps.length c]) (n := n))
  go_wp2
  clear hmk
  go_loopg [4] t (fun gg s4 wr => ∃ k : Nat, k ≤ t ∧ t - k ≤ gg ∧ s4 = .int .i64 k ∧ Keep (RfW w wr #[.int .i64 t, .int .i64 n, .int .i64 st, .slice A ps.length c] (w.heap.size + 1) n (List.replicate k true ++ List.replicate (n - k) false)))
  case atStart => exact ⟨0, Nat.zero_le _, by omega, rfl, U0⟩
  case round =>
  clear U0
  obtain ⟨k, hk, hg, rfl, U⟩ := hrel
  have q0 := U.out.bg.cell 0
  simp at q0
  by_cases hlt : k < t
  · have cc := U.out.bo.cell k
    rw [bools_gb _ k (by rw [U.out.lo]; omega)] at cc
    generalize gb _ _ = v9 at cc
    have cf := U.out.bo.frozen k
    have U2 := Keep.mk (U.out.set k true)
    rw [fill_set k n (by omega)] at U2
    have i0 : (k : Int) < n := by omega
    have i1 : (k : Int) < t := by omega
    clear U
    go_wp2
    go_roundg (t - (k + 1))
    case measure => omega
    case rel => exact ⟨k + 1, by omega, by omega, by go_num, U2⟩
  have ek : k = t := by omega
  subst ek
  clear hg hk hlt
  go_wp2
  clear q0
  go_loopg [5] n (fun gg s5 wr => ∃ h : Nat, h ≤ n ∧ n - h ≤ gg ∧ s5 = .int .i64 h ∧ Keep (RfW w wr #[.int .i64 k, .int .i64 n, .int .i64 st, .slice A ps.length c] (w.heap.size + 1) n (its (gRound ps) h (List.replicate k true ++ List.replicate (n - k) false))))
  case atStart => exact ⟨0, Nat.zero_le _, by omega, rfl, U⟩
  case round =>
    clear U
    obtain ⟨h, hk, hg, rfl, U⟩ := hrel
    have q1 := U.out.bg.cell 1
    simp at q1
    by_cases hlt : h < n
    · have HS := Keep.mk (its_step (gRound ps) h (List.replicate k true ++ List.replicate (n - k) false))
      generalize its (gRound ps) h (List.replicate k true ++ List.replicate (n - k) false) = m0 at *
      have k1 : (h : Int) < n := by omega
      go_wp2
      clear q1
      go_loopg [6] ps.length (fun gg s6 wr => ∃ i : Nat, i ≤ ps.length ∧ ps.length - i ≤ gg ∧ s6 = .int .i64 i ∧ Keep (RfW w wr #[.int .i64 k, .int .i64 n, .int .i64 st, .slice A ps.length c] (w.heap.size + 1) n ((ps.take i).foldl gStep m0)))
      case atStart => exact ⟨0, Nat.zero_le _, by omega, rfl, U⟩
      case round =>
        clear U
        obtain ⟨i, hi, hgi, rfl, U⟩ := hrel
        have q3 := U.out.bg.cell 3
        simp at q3
        by_cases hlti : i < ps.length
        · obtain ⟨ad, Ab, cb, rfl, hb, c0, c1, c2, hlb, hrb⟩ := R0.out i hlti
          have hbl := B0.out _ (List.getElem_mem hlti)
          have hpi := Keep.mk (P0.out _ (List.getElem_mem hlti))
          have HU2 := Keep.mk (take_fold gStep ps i hlti m0)
          generalize (ps.take i).foldl gStep m0 = m1 at *
          generalize hx : ps[i] = p at *
          clear hx
          obtain ⟨hd, bd, rt⟩ := p
          dsimp only at *
          obtain ⟨d, rfl⟩ := Int.eq_ofNat_of_zero_le hpi.out.1
          have hdn : (d : Int) < n := by have := hpi.out.2.1; simp at this; omega
          have j1 : (0:Int) ≤ i := by omega
          have j2 : (i : Int) < ps.length := by omega
          have C0 := Keep.mk c0
          have C1 := Keep.mk c1
          clear c0 c1 c2
          go_wp2
          clear q3
          go_loopg [7, 8] bd.length (fun gg s7 s8 wr => ∃ j : Nat, j ≤ bd.length ∧ bd.length - j ≤ gg ∧ s7 = .bool ((bd.take j).all (gb m1)) ∧ s8 = .int .i64 j ∧ Keep (RfW w wr #[.int .i64 k, .int .i64 n, .int .i64 st, .slice (some ad) ps.length c] (w.heap.size + 1) n m1))
          case atStart => exact ⟨0, Nat.zero_le _, by omega, rfl, rfl, U⟩
          case round =>
            clear U
            obtain ⟨j, hj, hgj, rfl, rfl, U⟩ := hrel
            have q3 := U.out.bg.cell 3
            simp at q3
            have c0 := cell_below C0.out U.out.bw (by rw [add_block]; exact hb)
            have c1 := cell_below C1.out U.out.bw (by show (ad.add _).block < _; rw [add_block]; exact hb)
            by_cases hltj : j < bd.length
            · obtain ⟨a2, rfl, hb2, hc2⟩ := hrb.int j hltj
              replace hc2 := cell_below hc2 U.out.bw (by rw [add_block]; exact hb2)
              have hs := hpi.out.2.2 _ (List.getElem_mem hltj)
              have HV2 := Keep.mk (all_take (gb m1) bd j hltj)
              generalize (bd.take j).all (gb m1) = v0 at *
              generalize hy : bd[j] = y at *
              clear hy
              obtain ⟨y, rfl⟩ := Int.eq_ofNat_of_zero_le hs.1
              have hyn : (y : Int) < n := by have := hs.2; simp at this; omega
              have e1 : (0:Int) ≤ j := by omega
              have e2 : (j : Int) < bd.length := by omega
              have cb' := U.out.bo.cell y
              rw [bools_gb _ y (by rw [U.out.lo]; omega)] at cb'
              clear hs
              generalize gb m1 y = v2 at *
              cases v0 with
              | true =>
                go_wp2
                go_roundg (bd.length - (j + 1))
                case measure => omega
                case rel => exact ⟨j + 1, by omega, by omega, by rw [HV2.out]; rfl, by go_num, by first | exact U | exact ⟨U.out.drew⟩⟩
              | false =>
                go_wp2
                go_roundg (bd.length - (j + 1))
                case measure => omega
                case rel => exact ⟨j + 1, by omega, by omega, by rw [HV2.out]; rfl, by go_num, by first | exact U | exact ⟨U.out.drew⟩⟩
            · have ej : j = bd.length := by omega
              subst ej
              rw [List.take_length]
              have ca := U.out.bo.cell d
              rw [bools_gb _ d (by rw [U.out.lo]; omega)] at ca
              have cf := U.out.bo.frozen d
              have hci : Keep (gStep m1 ⟨d, bd, rt⟩ = m1.set d (gb m1 d || bd.all (gb m1))) := ⟨rfl⟩
              have U3 := fun b => Keep.mk (U.out.set d b)
              generalize gb m1 d = v1 at *
              generalize bd.all (gb m1) = v2 at *
              cases v1 with
              | true =>
                have UU := U3 true
                clear U3
                go_wp2
                go_region
                go_wp2
                go_roundg (ps.length - (i + 1))
                case measure => omega
                case rel => exact ⟨i + 1, by omega, by omega, by go_num, ⟨by rw [HU2.out, hci.out]; exact UU.out.drew⟩⟩
              | false =>
                have UU := U3 v2
                clear U3
                go_wp2
                go_region
                go_wp2
                go_roundg (ps.length - (i + 1))
                case measure => omega
                case rel => exact ⟨i + 1, by omega, by omega, by go_num, ⟨by rw [HU2.out, hci.out]; exact UU.out.drew⟩⟩
        · have em : i = ps.length := by omega
          subst em
          go_wp2
          go_roundg (n - (h + 1))
          case measure => omega
          case rel => exact ⟨h + 1, by omega, by omega, by go_num, ⟨by rw [HS.out]; have := U.out; rw [List.take_length] at this; exact this⟩⟩
    · have ek : h = n := by omega
      subst ek
      go_wp2
      go_ret
      refine ⟨w.heap.size + 1, rfl, by omega, ?_, U.out.bw⟩
      have := U.out.bo
      rwa [HG.out] at this
end Go.Proofs.Ytofidghilcbegaa.H
namespace Go.Proofs.Ytofidghilcbegaa.H
open Go.RowKit
set_option linter.unusedVariables false
set_option linter.unusedSimpArgs false
set_option maxRecDepth 100000 in
set_option maxHeartbeats 4000000 in
theorem refRound (g : Gr) (s : Int) (A : Option Addr) (c : Nat) (w : World) (hbl : ∀ p ∈ g.ps, p.body.length ≤ 9223372036854775807) (hr : RdP w w.heap.size A g.ps) (ok : GrOk g) (hs0 : 0 ≤ s) (hs1 : s < g.S) :
    Calls Try.prog 39 #[grV g A c, .int .i64 s] w fun e w' => e = .returned (.bool (gb (rchL g s) s)) ∧ Below w.heap.size w w' := by
  obtain ⟨T, S, st, ps⟩ := g
  obtain ⟨t0, t1, s0, s1, st0, st1, n0, n1, pr⟩ := ok
  dsimp only at *
  obtain ⟨n, rfl⟩ := Int.eq_ofNat_of_zero_le (show 0 ≤ S by omega)
  obtain ⟨x, rfl⟩ := Int.eq_ofNat_of_zero_le hs0
  have R0 : Keep (RdP w w.heap.size A ps) := ⟨hr⟩
  have B0 : Keep (∀ p ∈ ps, p.body.length ≤ 9223372036854775807) := ⟨hbl⟩
  have P0 : Keep (∀ p ∈ ps, PrIn n p) := ⟨fun p hp => ⟨by have := pr p hp; omega, by have := pr p hp; omega, fun s hs => by have := (pr p hp).2.2 s hs; omega⟩⟩
  clear hr hbl pr
  generalize hG : rchL ⟨T, n, st, ps⟩ x = RES
  have HG : Keep (its (rRound ps x) (n + 1) (List.replicate n false) = RES) := ⟨hG⟩
  clear hG
  unfold grV
  dsimp only
  have hmk := @run_make_row' Try.prog 45 4 (.bool false) 1 Try.underlying45 info_bool rfl .i64 .i64 n (by omega) (by omega)
  simp only [madeCells_bools] at hmk
  go_enter Try.func39, Try.ntmps39
  have U0 := Keep.mk (rfw_start (w := w) (gv := #[.int .i64 T, .int .i64 n, .int .i64 st, .slice A ps.length c]) (n := n))
  go_wp2
  clear hmk
  go_loopg [6] (n + 1) (fun gg s6 wr => ∃ h : Nat, h ≤ n + 1 ∧ n + 1 - h ≤ gg ∧ s6 = .int .i64 h ∧ Keep (RfW w wr #[.int .i64 T, .int .i64 n, .int .i64 st, .slice A ps.length c] (w.heap.size + 1) n (its (rRound ps x) h (List.replicate n false))))
  case atStart => exact ⟨0, Nat.zero_le _, by omega, rfl, U0⟩
  case round =>
    clear U0
    obtain ⟨h, hk, hg, rfl, U⟩ := hrel
    have q1 := U.out.bg.cell 1
    simp at q1
    by_cases hlt : h < n + 1
    · have HS := Keep.mk (its_step (rRound ps x) h (List.replicate n false))
      generalize its (rRound ps x) h (List.replicate n false) = m0 at *
      have k1 : (h : Int) ≤ n := by omega
      go_wp2
      clear q1
      go_loopg [7] ps.length (fun gg s7 wr => ∃ i : Nat, i ≤ ps.length ∧ ps.length - i ≤ gg ∧ s7 = .int .i64 i ∧ Keep (RfW w wr #[.int .i64 T, .int .i64 n, .int .i64 st, .slice A ps.length c] (w.heap.size + 1) n ((ps.take i).foldl (rStep x) m0)))
      case atStart => exact ⟨0, Nat.zero_le _, by omega, rfl, U⟩
      case round =>
        clear U
        obtain ⟨i, hi, hgi, rfl, U⟩ := hrel
        have q3 := U.out.bg.cell 3
        simp at q3
        by_cases hlti : i < ps.length
        · obtain ⟨ad, Ab, cb, rfl, hb, c0, c1, c2, hlb, hrb⟩ := R0.out i hlti
          replace c0 := cell_below c0 U.out.bw (by rw [add_block]; exact hb)
          replace c1 := cell_below c1 U.out.bw (by show (ad.add _).block < _; rw [add_block]; exact hb)
          have hbl := B0.out _ (List.getElem_mem hlti)
          have hpi := Keep.mk (P0.out _ (List.getElem_mem hlti))
          have HU2 := Keep.mk (take_fold (rStep x) ps i hlti m0)
          generalize (ps.take i).foldl (rStep x) m0 = m1 at *
          generalize hx : ps[i] = p at *
          clear hx c2
          obtain ⟨hd, bd, rt⟩ := p
          dsimp only at *
          obtain ⟨d, rfl⟩ := Int.eq_ofNat_of_zero_le hpi.out.1
          have hdn : (d : Int) < n := by have := hpi.out.2.1; simp at this; omega
          have j1 : (0:Int) ≤ i := by omega
          have j2 : (i : Int) < ps.length := by omega
          have hci : Keep (rStep x m1 ⟨d, bd, rt⟩ = if bd.length = 1 ∧ ((d : Int) = x ∨ gb m1 d = true) then m1.set (bd.getD 0 0).toNat true else m1) := ⟨rfl⟩
          have ca := U.out.bo.cell d
          rw [bools_gb _ d (by rw [U.out.lo]; omega)] at ca
          by_cases hl : bd.length = 1
          · obtain ⟨a2, rfl, hb2, hc2⟩ := hrb.int 0 (by omega)
            have hs := hpi.out.2.2 _ (List.getElem_mem (show 0 < bd.length by omega))
            replace hc2 := cell_below hc2 U.out.bw (by rw [add_block]; exact hb2)
            have hc3 := hc2
            have eg : Keep (bd.getD 0 0 = bd[0]) := ⟨by rw [List.getD_eq_getElem?_getD, List.getElem?_eq_getElem (by omega)]; rfl⟩
            generalize hy : bd[0] = y at *
            try simp [Addr.add] at hc3
            clear hy
            obtain ⟨y, rfl⟩ := Int.eq_ofNat_of_zero_le hs.1
            have hyn : (y : Int) < n := by have := hs.2; simp at this; omega
            have cb' := U.out.bo.cell y
            rw [bools_gb _ y (by rw [U.out.lo]; omega)] at cb'
            have cf := U.out.bo.frozen y
            generalize gb m1 y = v9 at cb'
            generalize gb m1 d = v1 at *
            rw [hl] at *
            clear hs hl
            by_cases hds : (d : Int) = x
            · have t2 : ((d : Int) == x) = true := by simp [hds]
              have e : Keep (rStep x m1 ⟨d, bd, rt⟩ = m1.set y true) := ⟨by rw [hci.out, if_pos ⟨rfl, .inl hds⟩, eg.out]; rfl⟩
              have UU := Keep.mk (U.out.set y true)
              clear hds
              go_wp2
              go_roundg (ps.length - (i + 1))
              case measure => omega
              case rel => exact ⟨i + 1, by omega, by omega, by go_num, ⟨by rw [HU2.out, e.out]; first | exact UU.out | exact UU.out.drew⟩⟩
            · have t2 : ((d : Int) == x) = false := by simp only [beq_eq_false_iff_ne]; exact hds
              cases v1 with
              | true =>
                have e : Keep (rStep x m1 ⟨d, bd, rt⟩ = m1.set y true) := ⟨by rw [hci.out, if_pos ⟨rfl, .inr rfl⟩, eg.out]; rfl⟩
                have UU := Keep.mk (U.out.set y true)
                clear hds
                go_wp2
                go_roundg (ps.length - (i + 1))
                case measure => omega
                case rel => exact ⟨i + 1, by omega, by omega, by go_num, ⟨by rw [HU2.out, e.out]; first | exact UU.out | exact UU.out.drew⟩⟩
              | false =>
                have e : Keep (rStep x m1 ⟨d, bd, rt⟩ = m1) := ⟨by rw [hci.out, if_neg (by rintro ⟨_, h | h⟩; exact hds h; cases h)]⟩
                clear hds
                go_wp2
                go_roundg (ps.length - (i + 1))
                case measure => omega
                case rel => exact ⟨i + 1, by omega, by omega, by go_num, ⟨by rw [HU2.out, e.out]; first | exact U.out | exact U.out.drew⟩⟩
          · have t1 : ((bd.length : Int) == 1) = false := by simp only [beq_eq_false_iff_ne]; omega
            have e : Keep (rStep x m1 ⟨d, bd, rt⟩ = m1) := ⟨by rw [hci.out, if_neg (fun h => hl h.1)]⟩
            clear hl
            go_wp2
            go_roundg (ps.length - (i + 1))
            case measure => omega
            case rel => exact ⟨i + 1, by omega, by omega, by go_num, ⟨by rw [HU2.out, e.out]; first | exact U.out | exact U.out.drew⟩⟩
        · have em : i = ps.length := by omega
          subst em
          go_wp2
          go_roundg (n + 1 - (h + 1))
          case measure => omega
          case rel => exact ⟨h + 1, by omega, by omega, by go_num, ⟨by rw [HS.out]; have := U.out; rw [List.take_length] at this; exact this⟩⟩
    · have ek : h = n + 1 := by omega
      subst ek
      have hU := U.out
      rw [HG.out] at hU
      have cx := hU.bo.cell x
      rw [bools_gb _ x (by rw [hU.lo]; omega)] at cx
      have k2 : ¬ ((n : Int) + 1 ≤ n) := by omega
      go_wp2
      go_ret
      exact ⟨rfl, U.out.bw⟩
end Go.Proofs.Ytofidghilcbegaa.H
namespace Go.Proofs.Ytofidghilcbegaa.H
open Go.RowKit
set_option linter.unusedVariables false
set_option linter.unusedSimpArgs false
theorem okAt_false_head {g : Gr} {i : Nat} (hi : i < g.ps.length) (h : (decide (g.T ≤ g.ps[i].head) && decide (g.ps[i].head < g.S)) = false) : okAt g i = false := by
  unfold okAt; rw [List.getElem?_eq_getElem hi]; simp only [prodB]; rw [h]; simp
theorem okAt_false_sym {g : Gr} {i k : Nat} (hi : i < g.ps.length) (hk : k < g.ps[i].body.length) (h : (decide (0 ≤ g.ps[i].body[k]) && decide (g.ps[i].body[k] < g.S)) = false) : okAt g i = false := by
  unfold okAt; rw [List.getElem?_eq_getElem hi]; simp only [prodB]
  have : (g.ps[i].body).all (symB g.S) = false := List.all_eq_false.2 ⟨_, List.getElem_mem hk, by simp only [symB]; rw [h]; simp⟩
  rw [this]; simp
theorem okAt_false_same {g : Gr} {i k : Nat} (hi : i < g.ps.length) (hk : k < i) (h : sameP g.ps[i] (g.ps[k]'(by omega)) = true) : okAt g i = false := by
  unfold okAt; rw [List.getElem?_eq_getElem hi]; simp only [prodB]
  have : (g.ps.take i).any (sameP g.ps[i]) = true := List.any_eq_true.2 ⟨g.ps[k], by
    rw [List.mem_take_iff_getElem]; exact ⟨k, by omega, rfl⟩, h⟩
  rw [this]; simp
theorem okAt_true {g : Gr} {i : Nat} (hi : i < g.ps.length) (h1 : (decide (g.T ≤ g.ps[i].head) && decide (g.ps[i].head < g.S)) = true) (h2 : ∀ k (hk : k < g.ps[i].body.length), (decide (0 ≤ g.ps[i].body[k]) && decide (g.ps[i].body[k] < g.S)) = true)
    (h3 : ∀ k (hk : k < i), sameP g.ps[i] (g.ps[k]'(by omega)) = false) : okAt g i = true := by
  unfold okAt; rw [List.getElem?_eq_getElem hi]; simp only [prodB]
  rw [h1]
  have a : (g.ps[i].body).all (symB g.S) = true := List.all_eq_true.2 (fun y hy => by
    obtain ⟨k, hk, rfl⟩ := List.getElem_of_mem hy
    exact h2 k hk)
  have b : (g.ps.take i).any (sameP g.ps[i]) = false := List.any_eq_false.2 (fun q hq => by
    obtain ⟨k, hk, rfl⟩ := List.mem_take_iff_getElem.1 hq
    rw [h3 k (by omega)]; simp)
  rw [a, b]; rfl
set_option maxRecDepth 100000 in
set_option maxHeartbeats 8000000 in
theorem refNumbers (g : Gr) (A : Option Addr) (c : Nat) (w : World) (h : GrIn w g A c) :
    Calls Try.prog 36 #[grV g A c] w fun e w' => e = .returned (.bool (numbersB g)) ∧ Below w.heap.size w w' := by
  have R0 := Keep.mk h.r
  have B0 := Keep.mk h.b
  have HL : g.ps.length ≤ 9223372036854775807 := h.l2
  have hlc := h.l
  clear h
  have KH := Keep.mk fun W s => refHead g s A c W
  have KS := Keep.mk fun W s => refSymbol g s A c W
  have P1 := Keep.mk (fun (hh : headB g = false) => numbersB_head hh)
  have P2 := Keep.mk (fun i (hi : i < g.ps.length) (h : okAt g i = false) => numbersB_at hi h)
  have P3 := Keep.mk (fun (hh : headB g = true) h => numbersB_all hh h)
  have Q1 := Keep.mk (fun i (hi : i < g.ps.length) h => okAt_false_head (g := g) hi h)
  have Q2 := Keep.mk (fun i k (hi : i < g.ps.length) hk h => okAt_false_sym (g := g) (k := k) hi hk h)
  have Q3 := Keep.mk (fun i k (hi : i < g.ps.length) (hk : k < i) h => okAt_false_same (g := g) hi hk h)
  have Q4 := Keep.mk (fun i (hi : i < g.ps.length) h1 h2 h3 => okAt_true (g := g) hi h1 h2 h3)
  have HH : Keep (headB g = decide (1 ≤ g.T ∧ g.T ≤ 32 ∧ g.T < g.S ∧ g.S ≤ 64 ∧ g.T ≤ g.st ∧ g.st < g.S ∧ 0 < g.ps.length ∧ g.ps.length ≤ 64)) := ⟨rfl⟩
  generalize numbersB g = RES at *
  generalize headB g = HD at *
  generalize okAt g = OK at *
  obtain ⟨T, S, st, ps⟩ := g
  unfold grV at *
  dsimp only at *
  have B1 : Keep (Below w.heap.size w (w.alloc (.cells #[.int .i64 T, .int .i64 S, .int .i64 st, .slice A ps.length c] 24))) := ⟨(Below.refl _ _).alloc (Nat.le_refl _) _⟩
  have BG1 : Keep (Blk (w.alloc (.cells #[.int .i64 T, .int .i64 S, .int .i64 st, .slice A ps.length c] 24)) w.heap.size 24 #[.int .i64 T, .int .i64 S, .int .i64 st, .slice A ps.length c]) := ⟨Blk.new _ _ _⟩
  go_enter Try.func36, Try.ntmps36
  go_upto_region 1 with fail
  go_cut [44] (fun s44 wx => s44 = .bool (!HD) ∧ Keep (Below w.heap.size w wx) ∧ Keep (Blk wx w.heap.size 24 #[.int .i64 T, .int .i64 S, .int .i64 st, .slice A ps.length c]))
  case first =>
    by_cases h4 : 1 ≤ T ∧ T ≤ 32 ∧ T < S ∧ S ≤ 64
    · obtain ⟨a1, a2, a3, a4⟩ := h4
      go_wp2_with fail
      refine (KH.out _ _).mono ?_
      rintro e w1 ⟨rfl, hb⟩
      have B2 : Keep (Below w.heap.size w w1) := ⟨below_step B1.out hb B1.out.size⟩
      have BG2 := Keep.mk (BG1.out.below hb BG1.out.lt)
      have q3 := BG2.out.cell 3
      simp at q3
      by_cases hs : T ≤ st ∧ st < S
      · have t : (decide (T ≤ st) && decide (st < S)) = true := by simp [hs.1, hs.2]
        rw [t]
        by_cases hn : 0 < ps.length ∧ ps.length ≤ 64
        · obtain ⟨n0, n1⟩ := hn
          have e : Keep (HD = true) := ⟨by rw [HH.out]; simp only [decide_eq_true_eq]; exact ⟨a1, a2, a3, a4, hs.1, hs.2, n0, n1⟩⟩
          clear hs
          go_wp2_with fail
          go_meet
          exact ⟨by rw [e.out]; first | rfl | (simp; omega), B2, BG2⟩
        · have e : Keep (HD = false) := ⟨by rw [HH.out]; simp only [decide_eq_false_iff_not]; omega⟩
          have hnn : (ps.length : Int) < 1 ∨ 64 < (ps.length : Int) := by omega
          clear hs
          rcases hnn with hnn | hnn
          · go_wp2_with fail
            go_meet
            exact ⟨by rw [e.out]; first | rfl | (simp; omega), B2, BG2⟩
          · have : ¬ (ps.length : Int) < 1 := by omega
            go_wp2_with fail
            go_meet
            exact ⟨by rw [e.out]; first | rfl | (simp; omega), B2, BG2⟩
      · have t : (decide (T ≤ st) && decide (st < S)) = false := by rw [← Bool.decide_and]; simpa using hs
        have e : Keep (HD = false) := ⟨by rw [HH.out]; simp only [decide_eq_false_iff_not]; omega⟩
        rw [t]
        clear hs
        go_wp2_with fail
        go_meet
        exact ⟨by rw [e.out]; first | rfl | (simp; omega), B2, BG2⟩
    · have e : Keep (HD = false) := ⟨by rw [HH.out]; simp only [decide_eq_false_iff_not]; omega⟩
      go_wp2_with fail
      all_goals (first | (go_meet; exact ⟨by rw [e.out]; first | rfl | (simp; omega), B1, BG1⟩) | (exfalso; omega))
  case rest =>
    obtain ⟨rfl, B2, BG2⟩ := hcut
    clear B1 BG1
    cases HD with
    | false =>
      go_wp2
      go_ret
      exact ⟨by rw [P1.out (by first | rfl | trivial)]; rfl, B2.out⟩
    | true =>
      have n1 : ps.length ≤ 64 := by have := HH.out; simp only [Bool.true_eq, decide_eq_true_eq] at this; omega
      go_wp2
      go_loopg [3] ps.length (fun gg s3 wr => ∃ i : Nat, i ≤ ps.length ∧ ps.length - i ≤ gg ∧ s3 = .int .i64 i ∧ Keep (∀ j, j < i → OK j = true) ∧ Keep (Below w.heap.size w wr) ∧
        Keep (Blk wr w.heap.size 24 #[.int .i64 T, .int .i64 S, .int .i64 st, .slice A ps.length c]))
      case atStart => exact ⟨0, Nat.zero_le _, by omega, rfl, ⟨fun j hj => absurd hj (Nat.not_lt_zero _)⟩, B2, BG2⟩
      case round =>
        clear B2 BG2
        obtain ⟨i, hi, hg, rfl, HA, BW, BK⟩ := hrel
        obtain ⟨wo, rfl⟩ : ∃ wo : World, wo = wr := ⟨_, rfl⟩
        have q0 := BK.out.cell 0
        have q1 := BK.out.cell 1
        have q2 := BK.out.cell 2
        have q3 := BK.out.cell 3
        simp at q0 q1 q2 q3
        have nw := BK.out.lt
        by_cases hlt : i < ps.length
        · obtain ⟨ad, Ab, cb, rfl, hb, c0, c1, c2, hlb, hrb⟩ := R0.out i hlt
          have na : (ad.add (i * 3)).block < wo.heap.size := by rw [add_block]; have := BW.out.size; omega
          have C0 := Keep.mk (cell_below c0 BW.out (by rw [add_block]; exact hb))
          have C1 := Keep.mk (cell_below c1 BW.out (by show (ad.add _).block < _; rw [add_block]; exact hb))
          have C2 := Keep.mk (cell_below c2 BW.out (by show (ad.add _).block < _; rw [add_block]; exact hb))
          have hbl := B0.out _ (List.getElem_mem hlt)
          have Q1' := Keep.mk (Q1.out i hlt)
          have Q2' := Keep.mk (fun k => Q2.out i k hlt)
          have Q3' := Keep.mk (fun k => Q3.out i k hlt)
          have Q4' := Keep.mk (Q4.out i hlt)
          have P2' := Keep.mk (P2.out i hlt)
          clear c0 c1 c2 Q1 Q2 Q3 Q4 P2
          generalize hx : ps[i] = p at *
          have HX := Keep.mk hx
          clear hx
          obtain ⟨hd, bd, rt⟩ := p
          dsimp only at *
          have c0 := C0.out
          have i1 : (0:Int) ≤ i := by omega
          have i2 : (i : Int) < ps.length := by omega
          go_upto_region 6 with fail
          go_cut [60] (fun sx wx => sx = .bool (!(decide (T ≤ hd) && decide (hd < S))) ∧ Keep (Below wo.heap.size wo wx))
          case first =>
            go_region_held3 (fun w' => w'.cell? ⟨w.heap.size, 0, none⟩ = some (.int .i64 T) ∧ w'.cell? ⟨w.heap.size, 1, none⟩ = some (.int .i64 S) ∧ w'.cell? ⟨w.heap.size, 2, none⟩ = some (.int .i64 st) ∧ w'.cell? ⟨w.heap.size, 3, none⟩ = some (.slice (some ad) ps.length c) ∧ w'.cell? (ad.add (i * 3)) = some (.int .i64 hd))
              (first | exact ⟨q0, q1, q2, q3, c0⟩ | exact ⟨s0, s1, s2, s3, s4⟩) (first
              | (go_at_call 48; refine (KH.out _ hd).mono ?_; rintro e w9 ⟨rfl, hb9⟩; have Z9 : Keep (Below wo.heap.size wo w9) := ⟨below_step (below_drew1 (Below.refl _ _)) hb9 (Nat.le_refl _)⟩; have s0 := cell_below q0 Z9.out nw; have s1 := cell_below q1 Z9.out nw; have s2 := cell_below q2 Z9.out nw; have s3 := cell_below q3 Z9.out nw; have s4 := cell_below c0 Z9.out na; clear hb9))
            all_goals (go_wp2_with fail; go_meet; exact ⟨by first | rfl | simp, Z9⟩)
          case rest =>
          obtain ⟨rfl, Z9⟩ := hcut
          clear q0 q1 q2 q3 c0
          generalize hq : (decide (T ≤ hd) && decide (hd < S)) = b
          have HQ := Keep.mk hq
          clear hq
          cases b with
          | false =>
            go_wp2
            go_ret
            exact ⟨by rw [P2'.out (Q1'.out HQ.out)]; rfl, below_step BW.out Z9.out BW.out.size⟩
          | true =>
            go_wp2
            clear Q1'
            go_loopg [4] bd.length (fun gg s4 wr => ∃ m : Nat, m ≤ bd.length ∧ bd.length - m ≤ gg ∧ s4 = .int .i64 m ∧ Keep (∀ k (hk : k < bd.length), k < m → (decide (0 ≤ bd[k]) && decide (bd[k] < S)) = true) ∧ Keep (Below wo.heap.size wo wr))
            case atStart => exact ⟨0, Nat.zero_le _, by omega, rfl, ⟨fun k _ hk => absurd hk (Nat.not_lt_zero _)⟩, Z9⟩
            case round =>
              clear Z9
              obtain ⟨m, hm, hgm, rfl, HS, BW2⟩ := hrel
              have BK2 := BK.out.below BW2.out BK.out.lt
              have q0 := BK2.cell 0
              have q1 := BK2.cell 1
              have q2 := BK2.cell 2
              have q3 := BK2.cell 3
              simp at q0 q1 q2 q3
              have c1 := cell_below C1.out BW2.out na
              have nw2 := BK2.lt
              obtain ⟨wi, rfl⟩ : ∃ wi : World, wi = wr := ⟨_, rfl⟩
              have na2 : (ad.add (i * 3)).block < wi.heap.size := by have := BW2.out.size; omega
              by_cases hltm : m < bd.length
              · obtain ⟨a2, rfl, hb2, hc2⟩ := hrb.int m hltm
                replace hc2 := cell_below hc2 (below_step BW.out BW2.out BW.out.size) (by rw [add_block]; exact hb2)
                have nb2 : (a2.add m).block < wi.heap.size := by rw [add_block]; have := BW2.out.size; have := BW.out.size; omega
                have Q2m := Keep.mk (Q2'.out m hltm)
                generalize hy : bd[m] = y at *
                have HY := Keep.mk hy
                clear hy
                have j1 : (0:Int) ≤ m := by omega
                have j2 : (m : Int) < bd.length := by omega
                go_upto_region 11 with fail
                go_cut [83] (fun sx wx => sx = .bool (!(decide (0 ≤ y) && decide (y < S))) ∧ Keep (Below wi.heap.size wi wx))
                case first =>
                  go_region_held3 (fun w' => w'.cell? ⟨w.heap.size, 0, none⟩ = some (.int .i64 T) ∧ w'.cell? ⟨w.heap.size, 1, none⟩ = some (.int .i64 S) ∧ w'.cell? ⟨w.heap.size, 2, none⟩ = some (.int .i64 st) ∧ w'.cell? ⟨w.heap.size, 3, none⟩ = some (.slice (some ad) ps.length c) ∧ w'.cell? ⟨(ad.add (i * 3)).block, (ad.add (i * 3)).off + 1, none⟩ = some (.slice (some a2) bd.length cb) ∧ w'.cell? (a2.add m) = some (.int .i64 y))
                    (first | exact ⟨q0, q1, q2, q3, c1, hc2⟩ | exact ⟨s0, s1, s2, s3, s4, s5⟩) (first
                    | (go_at_call 44; refine (KS.out _ y).mono ?_; rintro e w9 ⟨rfl, hb9⟩; have Z9 : Keep (Below wi.heap.size wi w9) := ⟨below_step (below_drew1 (Below.refl _ _)) hb9 (Nat.le_refl _)⟩; have s0 := cell_below q0 Z9.out nw2; have s1 := cell_below q1 Z9.out nw2; have s2 := cell_below q2 Z9.out nw2; have s3 := cell_below q3 Z9.out nw2; have s4 := cell_below c1 Z9.out na2; have s5 := cell_below hc2 Z9.out nb2; clear hb9))
                  all_goals (go_wp2_with fail; go_meet; exact ⟨by first | rfl | simp, Z9⟩)
                case rest =>
                obtain ⟨rfl, Z9⟩ := hcut
                clear q0 q1 q2 q3 c1 hc2
                generalize hq : (decide (0 ≤ y) && decide (y < S)) = b2
                have HQ2 := Keep.mk hq
                clear hq
                cases b2 with
                | false =>
                  go_wp2
                  go_ret
                  exact ⟨by rw [P2'.out (Q2m.out HQ2.out)]; rfl, below_step BW.out (below_step BW2.out Z9.out BW2.out.size) BW.out.size⟩
                | true =>
                  go_wp2
                  go_roundg (bd.length - (m + 1))
                  case measure => omega
                  case rel =>
                    refine ⟨m + 1, by omega, by omega, by go_num, ⟨fun k hk hkm => ?_⟩, ⟨below_step BW2.out Z9.out BW2.out.size⟩⟩
                    by_cases e : k = m
                    · subst e; rw [HY.out]; exact HQ2.out
                    · exact HS.out k hk (by omega)
              · have em : m = bd.length := by omega
                subst em
                go_wp2
                clear q0 q1 q2 q3 c1
                go_loopg [5] i (fun gg s5 wr => ∃ m : Nat, m ≤ i ∧ i - m ≤ gg ∧ s5 = .int .i64 m ∧ Keep (∀ k (hk : k < i), k < m → sameP ⟨hd, bd, rt⟩ (ps[k]'(by omega)) = false) ∧ Keep (Below wo.heap.size wo wr))
                case atStart => exact ⟨0, Nat.zero_le _, by omega, rfl, ⟨fun k _ hk => absurd hk (Nat.not_lt_zero _)⟩, BW2⟩
                case round =>
                  clear BW2 BK2 nw2 na2
                  obtain ⟨m, hm, hgm, rfl, HT, BW2⟩ := hrel
                  obtain ⟨wi, rfl⟩ : ∃ wi : World, wi = wr := ⟨_, rfl⟩
                  have BK2 := BK.out.below BW2.out BK.out.lt
                  have q3 := BK2.cell 3
                  simp at q3
                  have nw2 := BK2.lt
                  have na2 : (ad.add (i * 3)).block < wi.heap.size := by have := BW2.out.size; omega
                  by_cases hltm : m < i
                  · obtain ⟨ad', Ad, cd, he, hbd, d0, d1, d2, hld, hrd⟩ := R0.out m (by omega)
                    cases he
                    have hbl2 := B0.out _ (List.getElem_mem (show m < ps.length by omega))
                    have BWW : Keep (Below w.heap.size w wi) := ⟨below_step BW.out BW2.out BW.out.size⟩
                    have nd2 : (ad.add (m * 3)).block < wi.heap.size := by rw [add_block]; have := BWW.out.size; omega
                    replace d0 := cell_below d0 BWW.out (by rw [add_block]; exact hb)
                    replace d1 := cell_below d1 BWW.out (by show (ad.add _).block < _; rw [add_block]; exact hb)
                    replace d2 := cell_below d2 BWW.out (by show (ad.add _).block < _; rw [add_block]; exact hb)
                    have c0 := cell_below C0.out BW2.out na
                    have c1 := cell_below C1.out BW2.out na
                    have c2 := cell_below C2.out BW2.out na
                    have Q3m := Keep.mk (Q3'.out m hltm)
                    have KX := Keep.mk fun W (hW : Below wi.heap.size wi W) => refSame ⟨hd, bd, rt⟩ ps[m] Ab Ad cb cd W hbl hlb hld ((hrb.below (below_step BWW.out hW BWW.out.size)).mono (by have := BWW.out.size; have := hW.size; omega)) ((hrd.below (below_step BWW.out hW BWW.out.size)).mono (by have := BWW.out.size; have := hW.size; omega))
                    generalize hy : ps[m] = y at *
                    have HY := Keep.mk hy
                    clear hy
                    obtain ⟨hd', bd', rt'⟩ := y
                    unfold prV at KX
                    dsimp only at *
                    have j1 : (0:Int) ≤ m := by omega
                    have j2 : (m : Int) < ps.length := by omega
                    have j3 : (m : Int) < i := by omega
                    go_upto_region 16 with fail
                    go_cut [99] (fun sx wx => sx = .bool (sameP ⟨hd, bd, rt⟩ ⟨hd', bd', rt'⟩) ∧ Keep (Below wi.heap.size wi wx))
                    case first =>
                      go_region_held3 (fun w' => w'.cell? ⟨w.heap.size, 3, none⟩ = some (.slice (some ad) ps.length c) ∧ w'.cell? (ad.add (i * 3)) = some (.int .i64 hd) ∧ w'.cell? ⟨(ad.add (i * 3)).block, (ad.add (i * 3)).off + 1, none⟩ = some (.slice Ab bd.length cb) ∧ w'.cell? ⟨(ad.add (i * 3)).block, (ad.add (i * 3)).off + 2, none⟩ = some (.bool rt) ∧ w'.cell? (ad.add (m * 3)) = some (.int .i64 hd') ∧ w'.cell? ⟨(ad.add (m * 3)).block, (ad.add (m * 3)).off + 1, none⟩ = some (.slice Ad bd'.length cd) ∧ w'.cell? ⟨(ad.add (m * 3)).block, (ad.add (m * 3)).off + 2, none⟩ = some (.bool rt'))
                        (first | exact ⟨q3, c0, c1, c2, d0, d1, d2⟩ | exact ⟨s3, s0, s1, s2, s4, s5, s6⟩) (first
                        | (go_at_call 56; refine (KX.out _ (below_drew1 (Below.refl _ _))).mono ?_; rintro e w9 ⟨rfl, hb9⟩; have Z9 : Keep (Below wi.heap.size wi w9) := ⟨below_step (below_drew1 (Below.refl _ _)) hb9 (Nat.le_refl _)⟩; have s3 := cell_below q3 Z9.out nw2; have s0 := cell_below c0 Z9.out na2; have s1 := cell_below c1 Z9.out na2; have s2 := cell_below c2 Z9.out na2; have s4 := cell_below d0 Z9.out nd2; have s5 := cell_below d1 Z9.out nd2; have s6 := cell_below d2 Z9.out nd2; clear hb9))
                      all_goals (go_wp2_with fail; go_meet; exact ⟨by first | rfl | simp, Z9⟩)
                    case rest =>
                    obtain ⟨rfl, Z9⟩ := hcut
                    clear q3 c0 c1 c2 d0 d1 d2 KX
                    generalize hq : sameP ⟨hd, bd, rt⟩ ⟨hd', bd', rt'⟩ = b3
                    have HQ3 := Keep.mk hq
                    clear hq
                    cases b3 with
                    | true =>
                      go_wp2
                      go_ret
                      exact ⟨by rw [P2'.out (Q3m.out HQ3.out)]; rfl, below_step BWW.out Z9.out BWW.out.size⟩
                    | false =>
                      go_wp2
                      go_roundg (i - (m + 1))
                      case measure => omega
                      case rel =>
                        refine ⟨m + 1, by omega, by omega, by go_num, ⟨fun k hk hkm => ?_⟩, ⟨below_step BW2.out Z9.out BW2.out.size⟩⟩
                        by_cases e : k = m
                        · subst e; rw [HY.out]; exact HQ3.out
                        · exact HT.out k hk (by omega)
                  · have em : m = i := by omega
                    subst em
                    have HOK := Keep.mk (Q4'.out HQ.out (fun k hk => HS.out k hk hk) (fun k hk => HT.out k hk hk))
                    have j3 : ¬ ((m : Int) < m) := by omega
                    go_wp2
                    go_roundg (ps.length - (m + 1))
                    case measure => omega
                    case rel =>
                      refine ⟨m + 1, by omega, by omega, by go_num, ⟨fun j hj => ?_⟩, ⟨below_step BW.out BW2.out BW.out.size⟩, ⟨BK2⟩⟩
                      by_cases e : j = m
                      · subst e; exact HOK.out
                      · exact HA.out j (by omega)
        · have em : i = ps.length := by omega
          subst em
          go_wp2
          go_ret
          exact ⟨by rw [P3.out (by first | rfl | trivial) HA.out]; rfl, BW.out⟩
end Go.Proofs.Ytofidghilcbegaa.H
namespace Go.Proofs.Ytofidghilcbegaa.H
open Go.RowKit
set_option linter.unusedVariables false
set_option linter.unusedSimpArgs false
theorem any_at {p : Pr → Bool} {l : List Pr} {i : Nat} (hi : i < l.length) (h : p l[i] = true) : l.any p = true := List.any_eq_true.2 ⟨_, List.getElem_mem hi, h⟩
theorem any_none {p : Pr → Bool} {l : List Pr} (h : ∀ i (hi : i < l.length), p l[i] = false) : l.any p = false := List.any_eq_false.2 fun x hx => by
  obtain ⟨i, hi, rfl⟩ := List.getElem_of_mem hx
  rw [h i hi]; simp
theorem used_no {g : Gr} (ok : GrOk g) {x : Nat} (h0 : g.T ≤ x) (h1 : (x : Int) < g.S) (h : gb (comeL g) x = false ∨ gb (goodL g) x = false) : usedB g = false := by
  cases hu : usedB g with
  | false => rfl
  | true =>
    have := (used_ref ok).1 hu x h0 h1
    rcases h with h | h <;> rw [h] at this <;> simp at this
theorem used_yes {g : Gr} (ok : GrOk g) (h : ∀ x : Nat, g.T ≤ x → (x : Int) < g.S → gb (comeL g) x = true ∧ gb (goodL g) x = true) : usedB g = true := by
  refine (used_ref ok).2 fun s h0 h1 => ?_
  obtain ⟨x, rfl⟩ := Int.eq_ofNat_of_zero_le (show 0 ≤ s by have := ok.t0; omega)
  exact h x h0 h1
theorem round_yes {g : Gr} (ok : GrOk g) {x : Nat} (h0 : g.T ≤ x) (h1 : (x : Int) < g.S) (h : gb (rchL g x) x = true) : roundB g = true := (round_ref ok).2 ⟨x, h0, h1, h⟩
theorem round_no {g : Gr} (ok : GrOk g) (h : ∀ x : Nat, g.T ≤ x → (x : Int) < g.S → gb (rchL g x) x = false) : roundB g = false := by
  cases hu : roundB g with
  | false => rfl
  | true =>
    obtain ⟨s, h0, h1, h2⟩ := (round_ref ok).1 hu
    obtain ⟨x, rfl⟩ := Int.eq_ofNat_of_zero_le (show 0 ≤ s by have := ok.t0; omega)
    rw [h x h0 h1] at h2
    cases h2
set_option maxRecDepth 100000 in
set_option maxHeartbeats 8000000 in
theorem refcheck_any (g : Gr) (A : Option Addr) (c : Nat) (w : World) (h : GrIn w g A c) :
    Calls Try.prog 16 #[grV g A c] w fun e w' => e = .returned (.int .i64 (checkI g)) ∧ Below w.heap.size w w' := by
  have H0 := Keep.mk h
  have R0 := Keep.mk h.r
  have B0 := Keep.mk h.b
  have HL : g.ps.length ≤ 9223372036854775807 := h.l2
  clear h
  have KN := Keep.mk fun W (hW : Below w.heap.size w W) => refNumbers g A c W (H0.out.below hW)
  have KC := Keep.mk fun (hn : numbersB g = true) W (hW : Below w.heap.size w W) => refCome g A c W B0.out (H0.out.below hW).r (numbersB_ok hn).1
  have KG := Keep.mk fun (hn : numbersB g = true) W (hW : Below w.heap.size w W) => refGood g A c W B0.out (H0.out.below hW).r (numbersB_ok hn).1
  have KR := Keep.mk fun (hn : numbersB g = true) (x : Nat) (hx : (x : Int) < g.S) W (hW : Below w.heap.size w W) => refRound g x A c W B0.out (H0.out.below hW).r (numbersB_ok hn).1 (Int.natCast_nonneg x) hx
  have HC : Keep (checkI g = if numbersB g = false then 2 else if g.ps.any (fun p => decide (8 < p.body.length)) = true then 3 else if g.ps.any (fun p => decide (p.body.length = 0)) = true then 130
    else if usedB g = false then 131 else if roundB g = true then 132 else 0) := ⟨rfl⟩
  have HN : Keep (numbersB g = true → GrOk g) := ⟨fun hn => (numbersB_ok hn).1⟩
  have CL := Keep.mk (comeL_len g)
  have GL := Keep.mk (fun (hn : numbersB g = true) => goodL_len (numbersB_ok hn).1)
  have F2 := Keep.mk (fun i (hi : i < g.ps.length) (h : 8 < g.ps[i].body.length) => any_at (p := fun p => decide (8 < p.body.length)) hi (decide_eq_true h))
  have F2' := Keep.mk (fun (h : ∀ i (hi : i < g.ps.length), ¬ 8 < g.ps[i].body.length) => any_none (p := fun p => decide (8 < p.body.length)) (fun i hi => decide_eq_false (h i hi)))
  have F3 := Keep.mk (fun i (hi : i < g.ps.length) (h : g.ps[i].body.length = 0) => any_at (p := fun p => decide (p.body.length = 0)) hi (decide_eq_true h))
  have F3' := Keep.mk (fun (h : ∀ i (hi : i < g.ps.length), ¬ g.ps[i].body.length = 0) => any_none (p := fun p => decide (p.body.length = 0)) (fun i hi => decide_eq_false (h i hi)))
  have F4 := Keep.mk (fun (hn : numbersB g = true) (x : Nat) h0 h1 h => used_no (numbersB_ok hn).1 (x := x) h0 h1 h)
  have F4' := Keep.mk (fun (hn : numbersB g = true) h => used_yes (numbersB_ok hn).1 h)
  have F5 := Keep.mk (fun (hn : numbersB g = true) (x : Nat) h0 h1 h => round_yes (numbersB_ok hn).1 (x := x) h0 h1 h)
  have F5' := Keep.mk (fun (hn : numbersB g = true) h => round_no (numbersB_ok hn).1 h)
  generalize checkI g = RES at *
  generalize numbersB g = n1 at *
  generalize g.ps.any (fun p => decide (8 < p.body.length)) = n2 at *
  generalize g.ps.any (fun p => decide (p.body.length = 0)) = n3 at *
  generalize usedB g = n4 at *
  generalize roundB g = n5 at *
  generalize comeL g = C at *
  generalize goodL g = G at *
  generalize rchL g = RR at *
  clear H0
  obtain ⟨T, S, st, ps⟩ := g
  unfold grV at *
  dsimp only at *
  have B1 : Keep (Below w.heap.size w (w.alloc (.cells #[.int .i64 T, .int .i64 S, .int .i64 st, .slice A ps.length c] 24))) := ⟨(Below.refl _ _).alloc (Nat.le_refl _) _⟩
  have BG1 : Keep (Blk (w.alloc (.cells #[.int .i64 T, .int .i64 S, .int .i64 st, .slice A ps.length c] 24)) w.heap.size 24 #[.int .i64 T, .int .i64 S, .int .i64 st, .slice A ps.length c]) := ⟨Blk.new _ _ _⟩
  go_enter Try.func16, Try.ntmps16
  go_wp2_with fail
  refine (KN.out _ B1.out).mono ?_
  rintro e w1 ⟨rfl, hb⟩
  have B2 : Keep (Below w.heap.size w w1) := ⟨below_step B1.out hb B1.out.size⟩
  have BG2 := Keep.mk (BG1.out.below hb BG1.out.lt)
  clear hb B1 BG1 KN
  cases n1 with
  | false =>
    clear F4 F4' F5 F5' KC KG KR
    go_wp2
    go_ret
    exact ⟨by rw [HC.out]; rfl, B2.out⟩
  | true =>
    obtain ⟨t0, t1, s0, s1, st0, st1, m0, m1, pr⟩ := HN.out rfl
    dsimp only at t0 t1 s0 s1 st0 st1 m0 m1
    clear pr HN
    obtain ⟨t, rfl⟩ := Int.eq_ofNat_of_zero_le (show 0 ≤ T by omega)
    obtain ⟨n, rfl⟩ := Int.eq_ofNat_of_zero_le (show 0 ≤ S by omega)
    replace GL := Keep.mk (GL.out rfl)
    replace F4 := Keep.mk (F4.out rfl)
    replace F4' := Keep.mk (F4'.out rfl)
    replace F5 := Keep.mk (F5.out rfl)
    replace F5' := Keep.mk (F5'.out rfl)
    replace KC := Keep.mk (KC.out rfl)
    replace KG := Keep.mk (KG.out rfl)
    replace KR := Keep.mk (KR.out rfl)
    go_wp2
    go_loopg [3] ps.length (fun gg s3 wr => ∃ i : Nat, i ≤ ps.length ∧ ps.length - i ≤ gg ∧ s3 = .int .i64 i ∧ Keep (∀ j (hj : j < ps.length), j < i → ¬ 8 < ps[j].body.length) ∧ wr = w1)
    case atStart => exact ⟨0, Nat.zero_le _, by omega, rfl, ⟨fun j _ hj => absurd hj (Nat.not_lt_zero _)⟩, rfl⟩
    case round =>
    obtain ⟨i, hi, hg, rfl, HA, rfl⟩ := hrel
    have q3 := BG2.out.cell 3
    simp at q3
    by_cases hlt : i < ps.length
    · obtain ⟨ad, Ab, cb, rfl, hb, c0, c1, c2, hlb, hrb⟩ := R0.out i hlt
      replace c1 := cell_below c1 B2.out (by show (ad.add _).block < _; rw [add_block]; exact hb)
      have hbl := B0.out _ (List.getElem_mem hlt)
      have F2i := Keep.mk (F2.out i hlt)
      have HAi : Keep (¬ 8 < ps[i].body.length → ∀ j (hj : j < ps.length), j < i + 1 → ¬ 8 < ps[j].body.length) := ⟨fun h j hj hji => by
        by_cases e : j = i
        · subst e; exact h
        · exact HA.out j hj (by omega)⟩
      clear c0 c2 hrb hlb
      generalize ps[i].body.length = bl at *
      have i1 : (0:Int) ≤ i := by omega
      have i2 : (i : Int) < ps.length := by omega
      by_cases h8 : 8 < bl
      · have e := Keep.mk (F2i.out h8)
        have h8' : (8:Int) < bl := by omega
        clear h8
        go_wp2
        go_ret
        exact ⟨by rw [HC.out, e.out]; rfl, B2.out⟩
      · have e := Keep.mk (HAi.out h8)
        have h8' : ¬ (8:Int) < bl := by omega
        clear h8
        go_wp2
        go_roundg (ps.length - (i + 1))
        case measure => omega
        case rel => exact ⟨i + 1, by omega, by omega, by go_num, e, rfl⟩
    have ei : i = ps.length := by omega
    subst ei
    have e2 := Keep.mk (F2'.out (fun i hi => HA.out i hi hi))
    clear HA F2 F2' hi hg hlt
    go_wp2
    clear q3
    go_loopg [4] ps.length (fun gg s4 wr' => ∃ i : Nat, i ≤ ps.length ∧ ps.length - i ≤ gg ∧ s4 = .int .i64 i ∧ Keep (∀ j (hj : j < ps.length), j < i → ¬ ps[j].body.length = 0) ∧ wr' = wr)
    case atStart => exact ⟨0, Nat.zero_le _, by omega, rfl, ⟨fun j _ hj => absurd hj (Nat.not_lt_zero _)⟩, rfl⟩
    case round =>
    obtain ⟨i, hi, hg, rfl, HA, rfl⟩ := hrel
    have q3 := BG2.out.cell 3
    simp at q3
    by_cases hlt : i < ps.length
    · obtain ⟨ad, Ab, cb, rfl, hb, c0, c1, c2, hlb, hrb⟩ := R0.out i hlt
      replace c1 := cell_below c1 B2.out (by show (ad.add _).block < _; rw [add_block]; exact hb)
      have hbl := B0.out _ (List.getElem_mem hlt)
      have F3i := Keep.mk (F3.out i hlt)
      have HAi : Keep (¬ ps[i].body.length = 0 → ∀ j (hj : j < ps.length), j < i + 1 → ¬ ps[j].body.length = 0) := ⟨fun h j hj hji => by
        by_cases e : j = i
        · subst e; exact h
        · exact HA.out j hj (by omega)⟩
      clear c0 c2 hrb hlb
      generalize ps[i].body.length = bl at *
      have i1 : (0:Int) ≤ i := by omega
      have i2 : (i : Int) < ps.length := by omega
      by_cases h8 : bl = 0
      · have e := Keep.mk (F3i.out h8)
        have h8' : ((bl : Int) == 0) = true := by simp [h8]
        clear h8
        go_wp2
        go_ret
        exact ⟨by rw [HC.out, e2.out, e.out]; rfl, B2.out⟩
      · have e := Keep.mk (HAi.out h8)
        have h8' : ((bl : Int) == 0) = false := by simp only [beq_eq_false_iff_ne]; omega
        clear h8
        go_wp2
        go_roundg (ps.length - (i + 1))
        case measure => omega
        case rel => exact ⟨i + 1, by omega, by omega, by go_num, e, rfl⟩
    have ei : i = ps.length := by omega
    subst ei
    have e3 := Keep.mk (F3'.out (fun i hi => HA.out i hi hi))
    clear HA F3 F3' hi hg hlt
    obtain ⟨wo, rfl⟩ : ∃ wo : World, wo = wr := ⟨_, rfl⟩
    go_upto_region 13 with fail
    clear q3
    have q0 := BG2.out.cell 0
    have q1 := BG2.out.cell 1
    have q2 := BG2.out.cell 2
    have q3 := BG2.out.cell 3
    simp at q0 q1 q2 q3
    have nw := BG2.out.lt
    simp only [Int.toNat_natCast] at KC KG CL GL
    go_cut [5, 6] (fun s5 s6 wx => ∃ g1 g2 : Nat, s5 = .slice (some ⟨g1, 0, none⟩) n n ∧ s6 = .slice (some ⟨g2, 0, none⟩) n n ∧ Keep (Blk wx g1 4 (bools C)) ∧ Keep (Blk wx g2 4 (bools G)) ∧ Keep (Below wo.heap.size wo wx))
    case first =>
      go_region_held3 (fun w' => w'.cell? ⟨w.heap.size, 0, none⟩ = some (.int .i64 t) ∧ w'.cell? ⟨w.heap.size, 1, none⟩ = some (.int .i64 n) ∧ w'.cell? ⟨w.heap.size, 2, none⟩ = some (.int .i64 st) ∧ w'.cell? ⟨w.heap.size, 3, none⟩ = some (.slice A ps.length c))
        (first | exact ⟨q0, q1, q2, q3⟩ | exact ⟨s0', s1', s2', s3'⟩ | exact ⟨t0', t1', t2', t3'⟩) (first
        | (go_at_call 37; refine (KC.out _ (below_drew1 B2.out)).mono ?_; rintro e w9 ⟨g1, rfl, hg1, hB1, hb9⟩; have Z9 : Keep (Below wo.heap.size wo w9) := ⟨below_step (below_drew1 (Below.refl _ _)) hb9 (Nat.le_refl _)⟩; have s0' := cell_below q0 Z9.out nw; have s1' := cell_below q1 Z9.out nw; have s2' := cell_below q2 Z9.out nw; have s3' := cell_below q3 Z9.out nw; clear hb9)
        | (go_at_call 38; refine (KG.out _ (below_step B2.out Z9.out B2.out.size)).mono ?_; rintro e w10 ⟨g2, rfl, hg2, hB2, hb10⟩; have hB1' := hB1.below hb10 hB1.lt; have Z10 : Keep (Below wo.heap.size wo w10) := ⟨below_step Z9.out hb10 Z9.out.size⟩; have t0' := cell_below q0 Z10.out nw; have t1' := cell_below q1 Z10.out nw; have t2' := cell_below q2 Z10.out nw; have t3' := cell_below q3 Z10.out nw; clear hb10))
      all_goals (go_wp2_with fail; go_meet; exact ⟨g1, g2, rfl, rfl, ⟨hB1'⟩, ⟨hB2⟩, Z10⟩)
    case rest =>
    obtain ⟨g1, g2, rfl, rfl, HB1, HB2, Z⟩ := hcut
    have BG3 := Keep.mk (BG2.out.below Z.out BG2.out.lt)
    have B3 : Keep (Below w.heap.size w wc) := ⟨below_step B2.out Z.out B2.out.size⟩
    clear q0 q1 q2 q3 BG2 B2 Z KC KG nw
    have q0 := BG3.out.cell 0
    simp at q0
    go_wp2
    clear q0
    go_loopg [7] n (fun gg s7 wr' => ∃ x : Nat, t ≤ x ∧ x ≤ n ∧ n - x ≤ gg ∧ s7 = .int .i64 x ∧ Keep (∀ y : Nat, (t : Int) ≤ y → y < x → gb C y = true ∧ gb G y = true) ∧ wr' = wc)
    case atStart => exact ⟨t, Nat.le_refl _, by omega, by omega, rfl, ⟨fun y h1 h2 => by omega⟩, rfl⟩
    case round =>
    obtain ⟨x, hx0, hx, hg, rfl, HA, rfl⟩ := hrel
    have q1 := BG3.out.cell 1
    simp at q1
    by_cases hlt : x < n
    · have c1 := HB1.out.cell x
      rw [bools_gb _ x (by have := CL.out; omega)] at c1
      have c2 := HB2.out.cell x
      rw [bools_gb _ x (by have := GL.out; omega)] at c2
      have i2 : (x : Int) < n := by omega
      have F4x := Keep.mk (F4.out x (by omega) (by omega))
      have HAx : Keep (gb C x = true → gb G x = true → ∀ y : Nat, (t : Int) ≤ y → y < x + 1 → gb C y = true ∧ gb G y = true) := ⟨fun h1 h2 y hy hyx => by
        by_cases e : y = x
        · subst e; exact ⟨h1, h2⟩
        · exact HA.out y hy (by omega)⟩
      generalize gb C x = v1 at *
      generalize gb G x = v2 at *
      cases v1 with
      | false =>
        have e := Keep.mk (F4x.out (.inl rfl))
        clear F4x HAx
        go_wp2
        go_ret
        exact ⟨by rw [HC.out, e2.out, e3.out, e.out]; rfl, B3.out⟩
      | true =>
        cases v2 with
        | false =>
          have e := Keep.mk (F4x.out (.inr rfl))
          clear F4x HAx
          go_wp2
          go_ret
          exact ⟨by rw [HC.out, e2.out, e3.out, e.out]; rfl, B3.out⟩
        | true =>
          have e := Keep.mk (HAx.out rfl rfl)
          clear F4x HAx
          go_wp2
          go_roundg (n - (x + 1))
          case measure => omega
          case rel => exact ⟨x + 1, by omega, by omega, by omega, by go_num, e, rfl⟩
    have ei : x = n := by omega
    subst ei
    have e4 := Keep.mk (F4'.out (fun y h1 h2 => HA.out y h1 (by omega)))
    clear HA F4 F4' hx hx0 hg hlt HB1 HB2
    have q0 := BG3.out.cell 0
    simp at q0
    go_wp2
    clear q0 q1
    go_loopg [8] x (fun gg s8 wr' => ∃ y : Nat, t ≤ y ∧ y ≤ x ∧ x - y ≤ gg ∧ s8 = .int .i64 y ∧ Keep (∀ z : Nat, (t : Int) ≤ z → z < y → gb (RR z) z = false) ∧ Keep (Below w.heap.size w wr') ∧ Keep (Blk wr' w.heap.size 24 #[.int .i64 t, .int .i64 x, .int .i64 st, .slice A ps.length c]))
    case atStart => exact ⟨t, Nat.le_refl _, by omega, by omega, rfl, ⟨fun y h1 h2 => by omega⟩, B3, BG3⟩
    case round =>
    clear B3 BG3
    obtain ⟨y, hx0, hx, hg, rfl, HA, B4, BG4⟩ := hrel
    have q0 := BG4.out.cell 0
    have q1 := BG4.out.cell 1
    have q2 := BG4.out.cell 2
    have q3 := BG4.out.cell 3
    simp at q0 q1 q2 q3
    by_cases hlt : y < x
    · have i2 : (y : Int) < x := by omega
      have F5x := Keep.mk (F5.out y (by omega) (by omega))
      have KRx := Keep.mk (KR.out y (by omega) _ B4.out)
      have HAx : Keep (gb (RR y) y = false → ∀ z : Nat, (t : Int) ≤ z → z < y + 1 → gb (RR z) z = false) := ⟨fun h1 z hy hyx => by
        by_cases e : z = y
        · subst e; exact h1
        · exact HA.out z hy (by omega)⟩
      generalize gb (RR y) y = v1 at *
      go_wp2_with fail
      refine KRx.out.mono ?_
      rintro e w5 ⟨rfl, hb⟩
      have B5 : Keep (Below w.heap.size w w5) := ⟨below_step B4.out hb B4.out.size⟩
      have BG5 := Keep.mk (BG4.out.below hb BG4.out.lt)
      clear hb KRx
      cases v1 with
      | true =>
        have e := Keep.mk (F5x.out rfl)
        clear F5x HAx
        go_wp2
        go_ret
        exact ⟨by rw [HC.out, e2.out, e3.out, e4.out, e.out]; rfl, B5.out⟩
      | false =>
        have e := Keep.mk (HAx.out rfl)
        clear F5x HAx
        go_wp2
        go_roundg (x - (y + 1))
        case measure => omega
        case rel => exact ⟨y + 1, by omega, by omega, by omega, by go_num, e, B5, BG5⟩
    · have ei : y = x := by omega
      subst ei
      have e5 := Keep.mk (F5'.out (fun z h1 h2 => HA.out z h1 (by omega)))
      go_wp2
      go_ret
      exact ⟨by rw [HC.out, e2.out, e3.out, e4.out, e5.out]; rfl, B4.out⟩
end Go.Proofs.Ytofidghilcbegaa.H
namespace Go.Proofs.Ytofidghilcbegaa.H
open Go.RowKit
set_option linter.unusedVariables false
set_option linter.unusedSimpArgs false
theorem Blk.set_size {w : World} {g : Nat} {t : TypeId} {cs : Array Value} (h : Blk w g t cs) (i : Nat) (u : Value) : ∃ cs', Blk (w.setCell ⟨g, i, none⟩ u) g t cs' ∧ cs'.size = cs.size := ⟨_, h.set_ i u, by simp⟩
theorem OwnI.lt_block {w : World} {B : Nat} {A : Addr} {n c : Nat} {xs : List Int} (h : OwnI w B (.slice (some A) n c) xs) : A.block < w.heap.size := by
  obtain ⟨h1, h2⟩ := h
  rcases h2 with ⟨he, h0⟩ | ⟨g, cap, cur, he, hgB, hh, hr⟩
  · cases he
  · cases he
    exact (show Blk w g _ cur from hh).lt
theorem OwnI.keep {w w' : World} {B : Nat} {v : Value} {xs : List Int} (h : OwnI w B v xs) (hk : ∀ g, B ≤ g → w'.heap[g]? = w.heap[g]?) : OwnI w' B v xs := by
  obtain ⟨h1, h2⟩ := h
  refine ⟨h1, ?_⟩
  rcases h2 with h0 | ⟨g, cap, cur, hv, hB, hh, hr⟩
  · exact .inl h0
  · exact .inr ⟨g, cap, cur, hv, hB, (hk g hB).trans hh, hr⟩
set_option maxRecDepth 100000 in
set_option maxHeartbeats 4000000 in
theorem markInts_any (v : Value) (xs : List Int) (B : Nat) (w : World) (h : OwnI w B v xs) (hB : B ≤ w.heap.size) :
    Calls Try.prog 21 #[v, .int .i64 0] w fun e w' => e = .returned (.int .i64 xs.length) ∧ Below B w w' ∧
      ∀ B', (∀ A n c, v = .slice (some A) n c → A.block < B') → ∀ g, B' ≤ g → w'.heap[g]? = w.heap[g]? := by
  obtain ⟨h1, h2⟩ := h
  rcases h2 with ⟨rfl, h0⟩ | ⟨g, cap, cur, rfl, hgB, hh, hn, hc, hs, ht⟩
  · rw [h0]
    go_enter Try.func21, Try.ntmps21
    go_wp2
    go_loopg [5] 0 (fun gg s5 wr => s5 = .int .i64 0 ∧ wr = w)
    case atStart => exact ⟨rfl, rfl⟩
    case round =>
      obtain ⟨rfl, rfl⟩ := hrel
      go_wp2
      go_ret
      exact ⟨rfl, Below.refl _ _, fun _ _ _ _ => rfl⟩
  · generalize xs.length = n at *
    have HB : Keep (Blk w g 3 cur) := ⟨hh⟩
    have HS : Keep (n ≤ cur.size) := ⟨by omega⟩
    have HM : n ≤ maxLen := by omega
    unfold maxLen at HM
    clear hh hs ht h1
    go_enter Try.func21, Try.ntmps21
    go_wp2
    go_loopg [5] n (fun gg s5 wr => ∃ (k : Nat) (cs : Array Value), k ≤ n ∧ n - k ≤ gg ∧ s5 = .int .i64 k ∧ Keep (Blk wr g 3 cs) ∧ Keep (n ≤ cs.size) ∧ Keep (Below B w wr) ∧ Keep (∀ g', g' ≠ g → wr.heap[g']? = w.heap[g']?))
    case atStart => exact ⟨0, cur, Nat.zero_le _, by omega, rfl, HB, HS, ⟨Below.refl _ _⟩, ⟨fun _ _ => rfl⟩⟩
    case round =>
      clear HB HS
      obtain ⟨k, cs, hk, hg, rfl, HB, HS, HW, HF⟩ := hrel
      by_cases hlt : k < n
      · have hks : k < cs.size := by have := HS.out; omega
        obtain ⟨u0, cc⟩ : ∃ u0, wr.cell? ⟨g, k, none⟩ = some u0 := ⟨cs[k], by rw [HB.out.cell k, Array.getElem?_eq_getElem hks]⟩
        have cf := HB.out.frozen k
        have i1 : (0:Int) ≤ k := by omega
        have i2 : (k : Int) < n := by omega
        clear hks
        obtain ⟨wo, rfl⟩ : ∃ wo : World, wo = wr := ⟨_, rfl⟩
        go_wp2
        go_roundg (n - (k + 1))
        case measure => omega
        case rel =>
          obtain ⟨cs', hb', hs'⟩ := HB.out.set_size k (.int .i64 (-(k : Int) - 1))
          refine ⟨k + 1, cs.setIfInBounds k _, by omega, by omega, by go_num, ⟨HB.out.set_ k _⟩, ⟨by rw [Array.size_setIfInBounds]; exact HS.out⟩, ⟨HW.out.setCell hgB _⟩, ⟨fun g' hg' => ?_⟩⟩
          exact (Below.heap_setCell _ _ _ g' hg').trans (HF.out g' hg')
      · have ek : k = n := by omega
        subst ek
        go_wp2
        go_ret
        refine ⟨rfl, HW.out, fun B' hB' g' hg' => HF.out g' ?_⟩
        have := hB' _ _ _ rfl
        rintro rfl
        exact absurd hg' (by simpa using this)
end Go.Proofs.Ytofidghilcbegaa.H
namespace Go.Proofs.Ytofidghilcbegaa.H
open Go.RowKit
set_option linter.unusedVariables false
set_option linter.unusedSimpArgs false
theorem info_flags : (Try.prog.info? 45).map (fun i => (i.zero, i.size, i.bytes)) = some (some (.slice none 0 0), 1, 24) := by kernel_rfl
def fRow (m : Nat) (f : Nat → Bool) : List Bool := (List.range m).map f
theorem fRow_len (m : Nat) (f : Nat → Bool) : (fRow m f).length = m := by simp [fRow]
theorem fRow_at (m : Nat) (f : Nat → Bool) (t : Nat) (h : t < m) : gb (fRow m f) t = f t := by simp [gb, fRow, h]
theorem fRow_cell {w : World} {g : Nat} {ty : TypeId} {m : Nat} {f : Nat → Bool} (h : Blk w g ty (bools (fRow m f))) (t : Nat) (ht : t < m) : w.cell? ⟨g, t, none⟩ = some (.bool (f t)) := by
  rw [h.cell t, bools_gb _ t (by rw [fRow_len]; exact ht), fRow_at m f t ht]
theorem fRow_set (m : Nat) (f : Nat → Bool) (t : Nat) (b : Bool) : (fRow m f).set t b = fRow m (fun u => if u = t then b else f u) := by
  refine List.ext_getElem (by simp [fRow]) fun i h1 h2 => ?_
  rw [List.getElem_set]
  simp only [fRow, List.getElem_map, List.getElem_range]
  by_cases e : t = i
  · subst e; simp
  · rw [if_neg e, if_neg (fun h => e h.symm)]
theorem fRow_congr {m : Nat} {f f' : Nat → Bool} (h : ∀ t, t < m → f t = f' t) : fRow m f = fRow m f' := List.map_congr_left fun t ht => h t (List.mem_range.1 ht)
theorem fRow_replicate (m : Nat) : List.replicate m false = fRow m (fun _ => false) := by
  refine List.ext_getElem (by simp [fRow]) fun i h1 h2 => ?_
  simp [fRow]
structure Fm (w : World) (B : Nat) (v : Value) (n m : Nat) (gs : List Nat) (F : Nat → Nat → Bool) : Prop where
  own : w.ownsRow B 45 1 v gs.length (gs.map fun g => Value.slice (some ⟨g, 0, none⟩) m m)
  len : gs.length = n
  row : ∀ s (h : s < gs.length), Blk w gs[s] 4 (bools (fRow m (F s))) ∧ B ≤ gs[s]
  nd : gs.Nodup
theorem Fm.nil (w : World) (B m : Nat) (F : Nat → Nat → Bool) : Fm w B (.slice none 0 0) 0 m [] F := ⟨⟨by simp, .inl ⟨rfl, rfl⟩⟩, rfl, fun s h => absurd h (by simp), List.nodup_nil⟩
section
variable {w w' : World} {B : Nat} {v : Value} {n m : Nat} {gs : List Nat} {F : Nat → Nat → Bool}
theorem Fm.keep (h : Fm w B v n m gs F) (hk : ∀ (g : Nat) (o : Obj), w.heap[g]? = some o → w'.heap[g]? = some o) : Fm w' B v n m gs F := by
  refine ⟨⟨h.own.1, ?_⟩, h.len, fun s hs => ⟨hk _ _ (h.row s hs).1, (h.row s hs).2⟩, h.nd⟩
  rcases h.own.2 with h0 | ⟨g, cap, cur, hv, hB, hh, hr⟩
  · exact .inl h0
  · exact .inr ⟨g, cap, cur, hv, hB, hk _ _ hh, hr⟩
theorem Fm.below (h : Fm w B v n m gs F) (hb : Below w.heap.size w w') : Fm w' B v n m gs F := h.keep fun g o hg => (hb.block g (by
  rcases Nat.lt_or_ge g w.heap.size with h | h
  · exact h
  · rw [Array.getElem?_eq_none h] at hg; cases hg)).trans hg
theorem Fm.congr (h : Fm w B v n m gs F) {F' : Nat → Nat → Bool} (hF : ∀ s t, s < n → t < m → F s t = F' s t) : Fm w B v n m gs F' :=
  ⟨h.own, h.len, fun s hs => ⟨by rw [← fRow_congr fun t ht => hF s t (by rw [← h.len]; exact hs) ht]; exact (h.row s hs).1, (h.row s hs).2⟩, h.nd⟩
theorem Fm.blk (h : Fm w B v n m gs F) (g : Nat) (hg : v.ownBlock = some g) : B ≤ g := by
  rcases h.own.2 with ⟨rfl, _⟩ | ⟨g', cap, cur, rfl, hB, _⟩
  · simp [Value.ownBlock] at hg
  · simp [Value.ownBlock] at hg
    omega
theorem Fm.blk_ne (h : Fm w B v n m gs F) {g : Nat} {t : TypeId} {cs : Array Value} (hg : Blk w g t cs) (ht : t ≠ 45) : some g ≠ v.ownBlock := by
  rcases h.own.2 with ⟨rfl, _⟩ | ⟨g', cap, cur, rfl, hB, hh, _⟩
  · simp [Value.ownBlock]
  · intro e
    have e' : g = g' := by simpa [Value.ownBlock] using e
    subst e'
    unfold Blk at hg
    rw [hg] at hh
    injection hh with hh
    injection hh with _ h2
    exact ht h2
theorem Fm.open_ (h : Fm w B v n m gs F) (hn : 0 < n) : ∃ go c, v = .slice (some ⟨go, 0, none⟩) n c ∧ n ≤ c ∧ c ≤ maxLen ∧ B ≤ go ∧ go < w.heap.size ∧ (∀ s (hs : s < gs.length), go ≠ gs[s]) ∧
    ∀ s (hs : s < gs.length), w.cell? ⟨go, s, none⟩ = some (.slice (some ⟨gs[s], 0, none⟩) m m) := by
  have hne := h.len
  rcases h.own.2 with ⟨_, h0⟩ | ⟨g, cap, cur, rfl, hB, hh, hnc, hc, hs, ht⟩
  · omega
  · refine ⟨g, cap, by rw [h.len], by omega, hc, hB, (show Blk w g _ cur from hh).lt, fun s hs e => ?_, fun s hs' => ?_⟩
    · have := (h.row s hs).1
      rw [← e] at this
      unfold Blk at this
      rw [hh] at this
      injection this with this
      injection this with _ h2
      exact absurd h2 (by decide)
    · rw [cell_of_row w g s cur _ _ hh]
      have h3 : (cur.toList.take (gs.length * 1))[s]? = (gs.map fun g => Value.slice (some ⟨g, 0, none⟩) m m)[s]? := by rw [ht]
      rw [List.getElem?_take, if_pos (by omega)] at h3
      simp only [Array.getElem?_toList] at h3
      rw [h3]
      simp [hs']
theorem Fm.write (h : Fm w B v n m gs F) {s : Nat} (hs : s < gs.length) {f : Nat → Bool} (hb : Blk w' gs[s] 4 (bools (fRow m f))) (hk : ∀ g, g ≠ gs[s] → w'.heap[g]? = w.heap[g]?) :
    Fm w' B v n m gs (fun u => if u = s then f else F u) := by
  refine ⟨⟨h.own.1, ?_⟩, h.len, fun u hu => ?_, h.nd⟩
  · rcases h.own.2 with h0 | ⟨g, cap, cur, hv, hB, hh, hr⟩
    · exact .inl h0
    · refine .inr ⟨g, cap, cur, hv, hB, (hk g ?_).trans hh, hr⟩
      rintro rfl
      have := (h.row s hs).1
      unfold Blk at this
      rw [hh] at this
      injection this with this
      injection this with _ h2
      exact absurd h2 (by decide)
  · by_cases e : u = s
    · subst e
      refine ⟨?_, (h.row u hu).2⟩
      simp only [if_true]
      exact hb
    · refine ⟨?_, (h.row u hu).2⟩
      simp only [if_neg e]
      exact (hk _ (fun e' => e ((List.getElem_inj h.nd).1 e'))).trans (h.row u hu).1
end
theorem wpl_append_fm {ops : Array Oper} {rest : List Oper} {o : Oper} {a : Act} {Q : Exit → Act → World → Prop} (w : World) (hgd : o.guard = none) (s x : Operand)
    (ho : o.op = .call { callee := .builtin .append, args := #[s, x], argTypes := #[53, 53] })
    (B : Nat) (v : Value) {n m : Nat} {gs : List Nat} {F : Nat → Nat → Bool} (hs : a.eval s = v) (hown : Fm w B v n m gs F) (g1 g : Nat) (hx : a.eval x = .slice (some ⟨g1, 0, none⟩) 1 1) (hc : w.cell? ⟨g1, 0, none⟩ = some (.slice (some ⟨g, 0, none⟩) m m))
    (hg : Blk w g 4 (bools (fRow m (F n)))) (hgB : B ≤ g) (hgn : g ∉ gs) (hl : n < 1000000) (hbase : B ≤ w.heap.size)
    (h : ∀ v' w', Fm w' B v' (n + 1) m (gs ++ [g]) F → Below B w w' → (∀ g t cs, Blk w g t cs → t ≠ 45 → Blk w' g t cs) → wpList Try.prog ops Q rest (a.put o.dst v') w') : wpList Try.prog ops Q (o :: rest) a w := by
  obtain ⟨i0, hi0, hz0, hz1, hz2⟩ := info_parts info_flags
  have hlen := hown.len
  refine wpList_append_own w hgd s x 53 ho B 45 i0 (.slice none 0 0) 1 24 Try.underlying53 hi0 hz0 hz1 hz2 rfl (by decide) v gs.length (gs.map fun g => Value.slice (some ⟨g, 0, none⟩) m m) hs hown.own ⟨g1, 0, none⟩ 1 1 [.slice (some ⟨g, 0, none⟩) m m] hx rfl
    (fun j u hu => ?_) (by simp [Value.oneCell']) (by simp only [maxLen]; omega) (by omega) hbase (fun v' w' h1 h2 _ => ?_)
  · rcases j with _ | j
    · simp at hu
      subst hu
      exact hc
    · simp at hu
  · have hk : ∀ g t cs, Blk w g t cs → t ≠ 45 → Blk w' g t cs := fun b t cs hb ht => hb.grown h2 (hown.blk_ne hb ht)
    refine h v' w' ⟨?_, by simp [hlen], fun s hs => ?_, ?_⟩ ((Below.refl _ _).grown h2 hbase (fun b hb => hown.blk b hb)) hk
    · rw [List.map_append, List.length_append]
      exact h1
    · rw [List.getElem_append]
      split
      · rename_i hlt
        exact ⟨hk _ _ _ (hown.row s hlt).1 (by decide), (hown.row s hlt).2⟩
      · rename_i hge
        simp only [List.getElem_singleton]
        have e : s = n := by simp at hs; omega
        subst e
        exact ⟨hk _ _ _ hg (by decide), hgB⟩
    · rw [List.nodup_append]
      exact ⟨hown.nd, by simp, fun a ha b hb => by rw [List.mem_singleton] at hb; subst hb; rintro rfl; exact hgn ha⟩
end Go.Proofs.Ytofidghilcbegaa.H
namespace Go.Proofs.Ytofidghilcbegaa.H
set_option linter.unusedVariables false
set_option linter.unusedSimpArgs false
def itsF {α : Type} (R : α → α) : Nat → α → α
  | 0, m => m
  | k + 1, m => R (itsF R k m)
theorem itsF_its (R : List Bool → List Bool) (k : Nat) (m : List Bool) : its R k m = itsF R k m := by
  induction k generalizing m with
  | zero => rfl
  | succ k ih =>
    show its R k (R m) = R (itsF R k m)
    rw [ih]
    clear ih
    induction k with
    | zero => rfl
    | succ k ih => show R (itsF R k (R m)) = R (R (itsF R k m)); rw [ih]
def fCol (n : Nat) (F : Nat → Nat → Bool) (t : Nat) : List Bool := (List.range n).map fun s => F s t
theorem fCol_len (n : Nat) (F : Nat → Nat → Bool) (t : Nat) : (fCol n F t).length = n := by simp [fCol]
theorem fCol_at (n : Nat) (F : Nat → Nat → Bool) (t : Nat) (s : Int) (hs : s.toNat < n) : gb (fCol n F t) s = F s.toNat t := by simp [gb, fCol, hs]
theorem fCol_set (n : Nat) (F : Nat → Nat → Bool) (t h : Nat) (b : Bool) : (fCol n F t).set h b = fCol n (fun s u => if s = h then (if u = t then b else F s u) else F s u) t := by
  refine List.ext_getElem (by simp [fCol]) fun i h1 h2 => ?_
  rw [List.getElem_set]
  simp only [fCol, List.getElem_map, List.getElem_range]
  by_cases e : h = i
  · subst e; simp
  · rw [if_neg e, if_neg (fun h => e h.symm)]
theorem fCol_congr {n : Nat} {F F' : Nat → Nat → Bool} {t : Nat} (h : ∀ s, s < n → F s t = F' s t) : fCol n F t = fCol n F' t := List.map_congr_left fun s hs => h s (List.mem_range.1 hs)
def fInto (F : Nat → Nat → Bool) (a : Nat) (b : Nat → Bool) : Nat → Nat → Bool := fun s => if s = a then (fun t => F a t || b t) else F s
def fiStep (F : Nat → Nat → Bool) (p : Pr) : Nat → Nat → Bool := fInto F p.head.toNat (F (p.body.getD 0 0).toNat)
def fiRound (ps : List Pr) (F : Nat → Nat → Bool) : Nat → Nat → Bool := ps.foldl fiStep F
def fi0 (T : Nat) : Nat → Nat → Bool := fun s t => decide (s < T ∧ s = t)
def fiEnd (g : Gr) : Nat → Nat → Bool := itsF (fiRound g.ps) g.S.toNat (fi0 g.T.toNat)
def kStep (m : List Bool) (p : Pr) : List Bool := m.set p.head.toNat (gb m p.head || gb m (p.body.getD 0 0))
theorem kStep_le {m : List Bool} {p : Pr} : BLe m (kStep m p) := BLe.set fun e => by
  have hlt : p.head.toNat < m.length := (List.getElem?_eq_some_iff.1 e).1
  rw [(gb_some hlt).2 e]
  rfl
def kRound (ps : List Pr) (m : List Bool) : List Bool := ps.foldl kStep m
theorem kRound_le {n : Nat} {ps : List Pr} (m : List Bool) (hm : m.length = n) : BLe m (kRound ps m) := foldl_le (n := n) ps (fun u p _ hu => kStep_le) m hm
theorem body0_mem {p : Pr} (h : 0 < p.body.length) : p.body.getD 0 0 ∈ p.body := by
  rw [List.getD_eq_getElem?_getD, List.getElem?_eq_getElem h]; exact List.getElem_mem _
theorem fiStep_col {n : Nat} {p : Pr} (hin : PrIn n p) (hne : 0 < p.body.length) (F : Nat → Nat → Bool) (t : Nat) : fCol n (fiStep F p) t = kStep (fCol n F t) p := by
  have hb := hin.2.2 _ (body0_mem hne)
  unfold kStep fiStep fInto
  rw [fCol_at _ _ _ _ hin.2.1, fCol_at _ _ _ _ hb.2, fCol_set]
  refine fCol_congr fun s hs => ?_
  by_cases e : s = p.head.toNat
  · subst e; simp
  · simp [e]
theorem fiRound_col {n : Nat} (ps : List Pr) (hin : ∀ p ∈ ps, PrIn n p) (hne : ∀ p ∈ ps, 0 < p.body.length) (t : Nat) : ∀ F, fCol n (fiRound ps F) t = kRound ps (fCol n F t) := by
  induction ps with
  | nil => intro F; rfl
  | cons p ps ih =>
    intro F
    show fCol n (fiRound ps (fiStep F p)) t = kRound ps (kStep (fCol n F t) p)
    rw [ih (fun q hq => hin q (by simp [hq])) (fun q hq => hne q (by simp [hq])), fiStep_col (hin p (by simp)) (hne p (by simp))]
theorem itsF_col {n : Nat} {R : (Nat → Nat → Bool) → (Nat → Nat → Bool)} {K : List Bool → List Bool} {t : Nat} (h : ∀ F, fCol n (R F) t = K (fCol n F t)) : ∀ k F, fCol n (itsF R k F) t = itsF K k (fCol n F t) := by
  intro k
  induction k with
  | zero => intro F; rfl
  | succ k ih => intro F; show fCol n (R (itsF R k F)) t = K (itsF K k (fCol n F t)); rw [h, ih]
theorem count_false_le (m : List Bool) : m.count false ≤ m.length := List.count_le_length
theorem itsF_fix {R : List Bool → List Bool} {n : Nat} (hR : ∀ m : List Bool, m.length = n → BLe m (R m)) (k : Nat) (hk : n ≤ k) (m : List Bool) (hm : m.length = n) : R (itsF R k m) = itsF R k m := by
  rw [← itsF_its]
  exact its_fix (n := n) hR k m hm (by have := count_false_le m; omega)
theorem itsF_ind {α : Type} {R : α → α} {P : α → Prop} (hR : ∀ m, P m → P (R m)) : ∀ k m, P m → P (itsF R k m) := by
  intro k
  induction k with
  | zero => intro m h; exact h
  | succ k ih => intro m h; exact hR _ (ih m h)
theorem fi_spec {g : Gr} (h : GrFit g) (s t : Nat) (hs : (s : Int) < g.S) : fiEnd g s t = true ↔ Beg g.T.toNat g.ps s t := by
  have hT0 := h.ok.t0
  have hS := h.ok.s0
  have hpin := h.pin
  generalize hn : g.S.toNat = n at *
  have hsn : s < n := by omega
  have hc : ∀ k, fCol n (itsF (fiRound g.ps) k (fi0 g.T.toNat)) t = itsF (kRound g.ps) k (fCol n (fi0 g.T.toNat) t) := fun k => itsF_col (fiRound_col g.ps hpin h.ne t) k _
  have he : fiEnd g s t = gb (itsF (kRound g.ps) n (fCol n (fi0 g.T.toNat) t)) (s : Int) := by
    rw [← hc, fCol_at _ _ _ _ (by simpa using hsn)]
    unfold fiEnd
    rw [hn]; simp
  rw [he]
  have hlen0 : (fCol n (fi0 g.T.toNat) t).length = n := fCol_len _ _ _
  constructor
  · have inv := itsF_ind (R := kRound g.ps) (P := fun m => m.length = n ∧ ∀ s : Int, 0 ≤ s → s.toNat < n → gb m s = true → Beg g.T.toNat g.ps s t) (fun m hm => by
      refine foldl_ind (P := fun m => m.length = n ∧ ∀ s : Int, 0 ≤ s → s.toNat < n → gb m s = true → Beg g.T.toNat g.ps s t) g.ps (fun u p hp hu => ?_) m hm
      have hin := hpin p hp
      have hb := hin.2.2 _ (body0_mem (h.ne p hp))
      refine ⟨by simp [kStep, hu.1], fun x hx0 hxn hg => ?_⟩
      unfold kStep at hg
      rw [gb_set hin.1 (by rw [hu.1]; exact hin.2.1) x hx0] at hg
      split at hg
      · rename_i e
        subst e
        rcases Bool.or_eq_true_iff.1 hg with h1 | h1
        · exact hu.2 _ hx0 hxn h1
        · exact .head hp (by rw [List.getElem?_eq_getElem (h.ne p hp), List.getD_eq_getElem?_getD, List.getElem?_eq_getElem (h.ne p hp)]; rfl) (hu.2 _ hb.1 hb.2 h1)
      · exact hu.2 x hx0 hxn hg) n (fCol n (fi0 g.T.toNat) t) ⟨hlen0, fun x hx0 hxn hg => by
        rw [fCol_at _ _ _ _ hxn] at hg
        unfold fi0 at hg
        simp only [decide_eq_true_eq] at hg
        obtain ⟨y, rfl⟩ := Int.eq_ofNat_of_zero_le hx0
        simp only [Int.toNat_natCast] at hg
        rw [← hg.2]
        exact .term hg.1⟩
    intro hg
    exact inv.2 s (by omega) (by simpa using hsn) hg
  · have fix := itsF_fix (R := kRound g.ps) (n := n) (fun m hm => kRound_le m hm) n (Nat.le_refl _) _ hlen0
    have hle := itsF_ind (R := kRound g.ps) (P := fun m => m.length = n ∧ BLe (fCol n (fi0 g.T.toNat) t) m) (fun m hm => by
      have := kRound_le (ps := g.ps) m hm.1
      exact ⟨by rw [this.1]; exact hm.1, hm.2.trans this⟩) n _ ⟨hlen0, BLe.refl _⟩
    generalize itsF (kRound g.ps) n (fCol n (fi0 g.T.toNat) t) = M at *
    have key : ∀ (x : Int) (u : Nat), Beg g.T.toNat g.ps x u → u = t → 0 ≤ x → x.toNat < n → gb M x = true := by
      intro x u hb
      induction hb with
      | @term u hu =>
        intro e h0 hx
        subst e
        refine (gb_some (by rw [hle.1]; exact hx)).2 (hle.2.2 _ ?_)
        refine (gb_some (by rw [hlen0]; exact hx)).1 ?_
        rw [fCol_at _ _ _ _ hx]
        unfold fi0
        simp only [decide_eq_true_eq, Int.toNat_natCast]
        exact ⟨hu, by first | rfl | trivial⟩
      | @head p u y hp hy hb ih =>
        intro e h0 hx
        have hyb := List.mem_of_getElem? hy
        have hyn := (hpin p hp).2.2 y hyb
        have e1 := foldl_fix (n := n) g.ps (fun u p _ hu => kStep_le) M hle.1 fix p hp
        have e2 := set_fix h0 (by rw [hle.1]; exact hx) e1
        have ey : p.body.getD 0 0 = y := getD_of hy
        rw [ey, ih e hyn.1 hyn.2, Bool.or_true] at e2
        exact e2
    intro hb
    exact key _ _ hb rfl (by omega) (by simpa using hsn)
def foPart (N : Nat → Nat → Bool) (p : Pr) (F : Nat → Nat → Bool) (k : Nat) : Nat → Nat → Bool := fInto F (p.body.getD k 0).toNat (N (p.body.getD (k + 1) 0).toNat)
def foAll (N F : Nat → Nat → Bool) (p : Pr) : Nat → Nat → Bool := (List.range (p.body.length - 1)).foldl (foPart N p) F
def foStep (N F : Nat → Nat → Bool) (p : Pr) : Nat → Nat → Bool := fInto (foAll N F p) (p.body.getD (p.body.length - 1) 0).toNat (foAll N F p p.head.toNat)
def foRound (N : Nat → Nat → Bool) (ps : List Pr) (F : Nat → Nat → Bool) : Nat → Nat → Bool := ps.foldl (foStep N) F
def fo0 (T st : Nat) : Nat → Nat → Bool := fun s t => decide (s = st ∧ t = T)
def foEnd (g : Gr) : Nat → Nat → Bool := itsF (foRound (fiEnd g) g.ps) (g.S.toNat + 1) (fo0 g.T.toNat g.st.toNat)
def kfPart (c : Nat → Bool) (p : Pr) (m : List Bool) (k : Nat) : List Bool := m.set (p.body.getD k 0).toNat (gb m (p.body.getD k 0) || c (p.body.getD (k + 1) 0).toNat)
def kfAll (c : Nat → Bool) (m : List Bool) (p : Pr) : List Bool := (List.range (p.body.length - 1)).foldl (kfPart c p) m
def kfStep (c : Nat → Bool) (m : List Bool) (p : Pr) : List Bool := (kfAll c m p).set (p.body.getD (p.body.length - 1) 0).toNat (gb (kfAll c m p) (p.body.getD (p.body.length - 1) 0) || gb (kfAll c m p) p.head)
def kfRound (c : Nat → Bool) (ps : List Pr) (m : List Bool) : List Bool := ps.foldl (kfStep c) m
theorem bodyk_mem {p : Pr} {k : Nat} (h : k < p.body.length) : p.body.getD k 0 ∈ p.body := by
  rw [List.getD_eq_getElem?_getD, List.getElem?_eq_getElem h]; exact List.getElem_mem _
theorem fInto_col {n : Nat} (F : Nat → Nat → Bool) (a : Int) (b : Nat → Bool) (t : Nat) (ha : a.toNat < n) : fCol n (fInto F a.toNat b) t = (fCol n F t).set a.toNat (gb (fCol n F t) a || b t) := by
  unfold fInto
  rw [fCol_at _ _ _ _ ha, fCol_set]
  refine fCol_congr fun s hs => ?_
  by_cases e : s = a.toNat
  · subst e; simp
  · simp [e]
theorem foAll_col {n : Nat} {p : Pr} (hin : PrIn n p) (N : Nat → Nat → Bool) (t : Nat) (l : List Nat) (hl : ∀ k ∈ l, k < p.body.length) : ∀ F, fCol n (l.foldl (foPart N p) F) t = l.foldl (kfPart (fun y => N y t) p) (fCol n F t) := by
  induction l with
  | nil => intro F; rfl
  | cons k l ih =>
    intro F
    show fCol n (l.foldl (foPart N p) (foPart N p F k)) t = l.foldl (kfPart (fun y => N y t) p) (kfPart (fun y => N y t) p (fCol n F t) k)
    rw [ih (fun k' hk => hl k' (by simp [hk]))]
    congr 1
    exact fInto_col F _ _ t (hin.2.2 _ (bodyk_mem (hl k (by simp)))).2
theorem foStep_col {n : Nat} {p : Pr} (hin : PrIn n p) (hne : 0 < p.body.length) (N F : Nat → Nat → Bool) (t : Nat) : fCol n (foStep N F p) t = kfStep (fun y => N y t) (fCol n F t) p := by
  have e : fCol n (foAll N F p) t = kfAll (fun y => N y t) (fCol n F t) p := foAll_col hin N t _ (fun k hk => by have := List.mem_range.1 hk; omega) F
  unfold foStep kfStep
  rw [fInto_col _ _ _ _ (hin.2.2 _ (bodyk_mem (show p.body.length - 1 < p.body.length by omega))).2, ← e, fCol_at n (foAll N F p) t p.head hin.2.1]
theorem foRound_col {n : Nat} (N : Nat → Nat → Bool) (ps : List Pr) (hin : ∀ p ∈ ps, PrIn n p) (hne : ∀ p ∈ ps, 0 < p.body.length) (t : Nat) : ∀ F, fCol n (foRound N ps F) t = kfRound (fun y => N y t) ps (fCol n F t) := by
  induction ps with
  | nil => intro F; rfl
  | cons p ps ih =>
    intro F
    show fCol n (foRound N ps (foStep N F p)) t = kfRound (fun y => N y t) ps (kfStep (fun y => N y t) (fCol n F t) p)
    rw [ih (fun q hq => hin q (by simp [hq])) (fun q hq => hne q (by simp [hq])), foStep_col (hin p (by simp)) (hne p (by simp))]
theorem or_le {m : List Bool} {a : Int} {b : Bool} : BLe m (m.set a.toNat (gb m a || b)) := BLe.set fun e => by
  have hlt : a.toNat < m.length := (List.getElem?_eq_some_iff.1 e).1
  rw [(gb_some hlt).2 e]
  rfl
theorem kfAll_le {n : Nat} {c : Nat → Bool} {m : List Bool} {p : Pr} (hm : m.length = n) : BLe m (kfAll c m p) := foldl_le (n := n) _ (fun u k _ _ => or_le) m hm
theorem kfStep_le {n : Nat} {c : Nat → Bool} {m : List Bool} {p : Pr} (hm : m.length = n) : BLe m (kfStep c m p) := (kfAll_le hm).trans or_le
theorem kfRound_le {n : Nat} {c : Nat → Bool} {ps : List Pr} (m : List Bool) (hm : m.length = n) : BLe m (kfRound c ps m) := foldl_le (n := n) ps (fun u p _ hu => kfStep_le hu) m hm
theorem fo_spec {g : Gr} (h : GrFit g) (s t : Nat) (hs : (s : Int) < g.S) : foEnd g s t = true ↔ Fol g.T.toNat g.st g.ps s t := by
  have hT0 := h.ok.t0
  have hS := h.ok.s0
  have hst0 := h.ok.st0
  have hst1 := h.ok.st1
  have hpin := h.pin
  have hfi : ∀ y : Int, 0 ≤ y → y < g.S → (fiEnd g y.toNat t = true ↔ Beg g.T.toNat g.ps y t) := fun y h0 h1 => by
    have := fi_spec h y.toNat t (by omega)
    rwa [show ((y.toNat : Nat) : Int) = y by omega] at this
  have hin2 : ∀ p ∈ g.ps, ∀ y ∈ p.body, 0 ≤ y ∧ y < g.S := fun p hp => (h.ok.pr p hp).2.2
  generalize hn : g.S.toNat = n at *
  have hsn : s < n := by omega
  have hc : ∀ k, fCol n (itsF (foRound (fiEnd g) g.ps) k (fo0 g.T.toNat g.st.toNat)) t = itsF (kfRound (fun y => fiEnd g y t) g.ps) k (fCol n (fo0 g.T.toNat g.st.toNat) t) := fun k => itsF_col (foRound_col (fiEnd g) g.ps hpin h.ne t) k _
  have he : foEnd g s t = gb (itsF (kfRound (fun y => fiEnd g y t) g.ps) (n + 1) (fCol n (fo0 g.T.toNat g.st.toNat) t)) (s : Int) := by
    rw [← hc, fCol_at _ _ _ _ (by simpa using hsn)]
    unfold foEnd
    rw [hn]; simp
  rw [he]
  have hlen0 : (fCol n (fo0 g.T.toNat g.st.toNat) t).length = n := fCol_len _ _ _
  constructor
  · have inv := itsF_ind (R := kfRound (fun y => fiEnd g y t) g.ps) (P := fun m => m.length = n ∧ ∀ s : Int, 0 ≤ s → s.toNat < n → gb m s = true → Fol g.T.toNat g.st g.ps s t) (fun m hm => by
      refine foldl_ind (P := fun m => m.length = n ∧ ∀ s : Int, 0 ≤ s → s.toNat < n → gb m s = true → Fol g.T.toNat g.st g.ps s t) g.ps (fun u p hp hu => ?_) m hm
      have hin := hpin p hp
      have hne := h.ne p hp
      have hall : (kfAll (fun y => fiEnd g y t) u p).length = n ∧ ∀ s : Int, 0 ≤ s → s.toNat < n → gb (kfAll (fun y => fiEnd g y t) u p) s = true → Fol g.T.toNat g.st g.ps s t := by
        refine foldl_ind (P := fun m => m.length = n ∧ ∀ s : Int, 0 ≤ s → s.toNat < n → gb m s = true → Fol g.T.toNat g.st g.ps s t) (List.range (p.body.length - 1)) (fun v k hk hv => ?_) u hu
        have hk' : k + 1 < p.body.length := by have := List.mem_range.1 hk; omega
        have hb := hin.2.2 _ (bodyk_mem (show k < p.body.length by omega))
        refine ⟨by simp [kfPart, hv.1], fun x hx0 hxn hg => ?_⟩
        unfold kfPart at hg
        rw [gb_set hb.1 (by rw [hv.1]; exact hb.2) x hx0] at hg
        split at hg
        · rename_i e
          subst e
          rcases Bool.or_eq_true_iff.1 hg with h1 | h1
          · exact hv.2 _ hx0 hxn h1
          · have hz := hin2 p hp _ (bodyk_mem hk')
            refine .next hp (k := k) ?_ ?_ ((hfi _ hz.1 hz.2).1 h1)
            · rw [List.getD_eq_getElem?_getD, List.getElem?_eq_getElem (by omega)]; rfl
            · rw [List.getD_eq_getElem?_getD, List.getElem?_eq_getElem hk']; rfl
        · exact hv.2 x hx0 hxn hg
      have hb := hin.2.2 _ (bodyk_mem (show p.body.length - 1 < p.body.length by omega))
      refine ⟨by simp [kfStep, hall.1], fun x hx0 hxn hg => ?_⟩
      unfold kfStep at hg
      rw [gb_set hb.1 (by rw [hall.1]; exact hb.2) x hx0] at hg
      split at hg
      · rename_i e
        subst e
        rcases Bool.or_eq_true_iff.1 hg with h1 | h1
        · exact hall.2 _ hx0 hxn h1
        · refine .last hp (k := p.body.length - 1) ?_ (by omega) (hall.2 _ hin.1 hin.2.1 h1)
          rw [List.getD_eq_getElem?_getD, List.getElem?_eq_getElem (by omega)]; rfl
      · exact hall.2 x hx0 hxn hg) (n + 1) (fCol n (fo0 g.T.toNat g.st.toNat) t) ⟨hlen0, fun x hx0 hxn hg => by
        rw [fCol_at _ _ _ _ hxn] at hg
        unfold fo0 at hg
        simp only [decide_eq_true_eq] at hg
        have ex : x = g.st := by omega
        rw [hg.2, ex]
        exact .start⟩
    intro hg
    exact inv.2 s (by omega) (by simpa using hsn) hg
  · have fix := itsF_fix (R := kfRound (fun y => fiEnd g y t) g.ps) (n := n) (fun m hm => kfRound_le m hm) (n + 1) (by omega) _ hlen0
    have hle := itsF_ind (R := kfRound (fun y => fiEnd g y t) g.ps) (P := fun m => m.length = n ∧ BLe (fCol n (fo0 g.T.toNat g.st.toNat) t) m) (fun m hm => by
      have := kfRound_le (c := fun y => fiEnd g y t) (ps := g.ps) m hm.1
      exact ⟨by rw [this.1]; exact hm.1, hm.2.trans this⟩) (n + 1) _ ⟨hlen0, BLe.refl _⟩
    generalize itsF (kfRound (fun y => fiEnd g y t) g.ps) (n + 1) (fCol n (fo0 g.T.toNat g.st.toNat) t) = M at *
    have hp1 : ∀ p ∈ g.ps, kfAll (fun y => fiEnd g y t) M p = M ∧ kfStep (fun y => fiEnd g y t) M p = M := fun p hp => by
      have e1 := foldl_fix (n := n) g.ps (fun u p _ hu => kfStep_le hu) M hle.1 fix p hp
      have a : BLe M (kfAll (fun y => fiEnd g y t) M p) := kfAll_le hle.1
      have b : BLe (kfAll (fun y => fiEnd g y t) M p) (kfStep (fun y => fiEnd g y t) M p) := or_le
      rw [e1] at b
      exact ⟨b.antisymm a, e1⟩
    have key : ∀ (x : Int) (u : Nat), Fol g.T.toNat g.st g.ps x u → u = t → 0 ≤ x → x.toNat < n → gb M x = true := by
      intro x u hb
      induction hb with
      | start =>
        intro e h0 hx
        refine (gb_some (by rw [hle.1]; exact hx)).2 (hle.2.2 _ ?_)
        refine (gb_some (by rw [hlen0]; exact hx)).1 ?_
        rw [fCol_at _ _ _ _ hx]
        unfold fo0
        simp only [decide_eq_true_eq]
        exact ⟨by first | rfl | trivial, by first | exact e | exact e.symm⟩
      | @next p k y z u hp hy hz hb =>
        intro e h0 hx
        subst e
        have hk : k + 1 < p.body.length := (List.getElem?_eq_some_iff.1 hz).1
        have e2 := foldl_fix (n := n) (List.range (p.body.length - 1)) (fun u k _ _ => or_le) M hle.1 (hp1 p hp).1 k (List.mem_range.2 (by omega))
        have ey : p.body.getD k 0 = y := getD_of hy
        have ez : p.body.getD (k + 1) 0 = z := getD_of hz
        rw [ey, ez] at e2
        have e3 := set_fix h0 (by rw [hle.1]; exact hx) e2
        have hzn := hin2 p hp z (List.mem_of_getElem? hz)
        dsimp only at e3
        rw [(hfi z hzn.1 hzn.2).2 hb, Bool.or_true] at e3
        exact e3
      | @last p k y u hp hy hl hb ih =>
        intro e h0 hx
        have hk : k < p.body.length := (List.getElem?_eq_some_iff.1 hy).1
        have ek : k = p.body.length - 1 := by omega
        subst ek
        have e2 := (hp1 p hp).2
        unfold kfStep at e2
        rw [(hp1 p hp).1] at e2
        have ey : p.body.getD (p.body.length - 1) 0 = y := getD_of hy
        rw [ey] at e2
        have e3 := set_fix h0 (by rw [hle.1]; exact hx) e2
        rw [ih e (hpin p hp).1 (hpin p hp).2.1, Bool.or_true] at e3
        exact e3
    intro hb
    exact key _ _ hb rfl (by omega) (by simpa using hsn)
def fList (m : Nat) (f : Nat → Bool) : List Int := ((List.range m).filter f).map Int.ofNat
theorem fList_tlist {m : Nat} {f : Nat → Bool} {x : Nat} (hm : m ≤ 64) (h1 : ∀ t, t < m → (x.testBit t = true ↔ f t = true)) (h2 : ∀ t, m ≤ t → x.testBit t = false) : fList m f = tlist x := by
  unfold fList tlist
  have e : List.range 64 = List.range m ++ (List.range (64 - m)).map (m + ·) := by
    rw [← List.range_add]; congr 1; omega
  rw [e, List.filter_append]
  have z : ((List.range (64 - m)).map (m + ·)).filter x.testBit = [] := by
    rw [List.filter_eq_nil_iff]
    intro a ha
    obtain ⟨b, _, rfl⟩ := List.mem_map.1 ha
    rw [h2 _ (by omega)]; simp
  rw [z, List.append_nil]
  congr 1
  refine List.filter_congr fun t ht => ?_
  have := h1 t (List.mem_range.1 ht)
  rw [Bool.eq_iff_iff]
  exact this.symm
theorem follow_list {g : Gr} (h : GrFit g) (s : Nat) (hs : (s : Int) < g.S) : fList (g.T.toNat + 1) (foEnd g s) = tlist (gn (followEnd g) s) := by
  obtain ⟨_, _, f3⟩ := follow_spec h
  have hT := h.ok.t1
  have hT0 := h.ok.t0
  refine fList_tlist (by omega) (fun t _ => (f3 s (by omega) hs t).trans (fo_spec h s t hs).symm) fun t ht => ?_
  cases hb : (gn (followEnd g) s).testBit t with
  | false => rfl
  | true => have := ((f3 s (by omega) hs t).1 hb).le; omega
end Go.Proofs.Ytofidghilcbegaa.H
namespace Go.Proofs.Ytofidghilcbegaa.H
open Go.RowKit
set_option linter.unusedVariables false
set_option linter.unusedSimpArgs false
theorem bools_inj {a b : List Bool} (h : bools a = bools b) : a = b := by
  unfold bools at h
  have h2 : a.map Value.bool = b.map Value.bool := by simpa using h
  exact (List.map_inj_right (fun x y e => by injection e)).1 h2
theorem fRow_inj {m : Nat} {f h : Nat → Bool} (e : fRow m f = fRow m h) (t : Nat) (ht : t < m) : f t = h t := by
  have := congrArg (fun l => gb l (t : Int)) e
  simpa [fRow_at _ _ _ ht] using this
def mixTo (f h : Nat → Bool) (k : Nat) : Nat → Bool := fun t => if t < k then (f t || h t) else f t
theorem mixTo_step (m : Nat) (f h : Nat → Bool) (k : Nat) : (fRow m (mixTo f h k)).set k (f k || h k) = fRow m (mixTo f h (k + 1)) := by
  rw [fRow_set]
  refine fRow_congr fun t ht => ?_
  unfold mixTo
  by_cases e : t = k
  · subst e; simp
  · rw [if_neg e]
    by_cases l : t < k
    · rw [if_pos l, if_pos (by omega)]
    · rw [if_neg l, if_neg (by omega)]
set_option maxRecDepth 100000 in
set_option maxHeartbeats 4000000 in
theorem refInto (ga g2 m : Nat) (f h : Nat → Bool) (w : World) (ha : Blk w ga 4 (bools (fRow m f))) (hb : Blk w g2 4 (bools (fRow m h))) (hm : m ≤ 1000) :
    Calls Try.prog 47 #[.slice (some ⟨ga, 0, none⟩) m m, .slice (some ⟨g2, 0, none⟩) m m] w fun e w' => (∃ v, e = .returned v) ∧
      Blk w' ga 4 (bools (fRow m fun t => f t || h t)) ∧ (∀ g, g ≠ ga → w'.heap[g]? = w.heap[g]?) ∧ (∀ B, B ≤ ga → Below B w w') := by
  have hsame : Keep (g2 = ga → ∀ t, t < m → f t = h t) := ⟨by
    rintro rfl t ht
    unfold Blk at ha hb
    rw [ha] at hb
    injection hb with hb
    injection hb with hb
    exact fRow_inj (bools_inj hb) t ht⟩
  have HA : Keep (Blk w ga 4 (bools (fRow m (mixTo f h 0)))) := ⟨by rw [← fRow_congr (f := f) (f' := mixTo f h 0) (fun t _ => by simp [mixTo])]; exact ha⟩
  have HB := Keep.mk hb
  clear ha hb
  go_enter Try.func47, Try.ntmps47
  go_wp2
  go_loopg [4] m (fun gg s4 wr => ∃ k : Nat, k ≤ m ∧ m - k ≤ gg ∧ s4 = .int .i64 k ∧ Keep (Blk wr ga 4 (bools (fRow m (mixTo f h k)))) ∧ Keep (∀ g, g ≠ ga → wr.heap[g]? = w.heap[g]?) ∧ Keep (∀ B, B ≤ ga → Below B w wr))
  case atStart => exact ⟨0, Nat.zero_le _, by omega, rfl, HA, ⟨fun _ _ => rfl⟩, ⟨fun _ _ => Below.refl _ _⟩⟩
  case round =>
    clear HA
    obtain ⟨k, hk, hg, rfl, HA, HF, HL⟩ := hrel
    by_cases hlt : k < m
    · have ca := fRow_cell HA.out k hlt
      have cf := HA.out.frozen k
      have cb : wr.cell? ⟨g2, k, none⟩ = some (.bool (h k)) := by
        by_cases e : g2 = ga
        · rw [e, ca, show mixTo f h k k = f k from by simp [mixTo], hsame.out e k hlt]
        · exact fRow_cell (show Blk wr g2 4 (bools (fRow m h)) from (HF.out g2 e).trans HB.out) k hlt
      rw [show mixTo f h k k = f k from by simp [mixTo]] at ca
      have H1 : ∀ b, b = (f k || h k) → Keep (Blk (wr.setCell ⟨ga, k, none⟩ (.bool b)) ga 4 (bools (fRow m (mixTo f h (k + 1)))) ∧ (∀ g, g ≠ ga → (wr.setCell ⟨ga, k, none⟩ (.bool b)).heap[g]? = w.heap[g]?) ∧ (∀ B, B ≤ ga → Below B w (wr.setCell ⟨ga, k, none⟩ (.bool b)))) := by
        rintro b rfl
        refine ⟨?_, fun g hg => ?_, fun B hB => (HL.out B hB).setCell hB _⟩
        · have := HA.out.set_ k (.bool (f k || h k))
          rw [bools_set, mixTo_step] at this
          exact this
        · exact (Below.heap_setCell wr ⟨ga, k, none⟩ _ g hg).trans (HF.out g hg)
      have i1 : (0:Int) ≤ k := by omega
      have i2 : (k : Int) < m := by omega
      clear HA HF HL
      generalize f k = v1 at *
      generalize h k = v2 at *
      cases v1 with
      | true =>
        have U := H1 true rfl
        clear H1
        go_wp2
        go_roundg (m - (k + 1))
        case measure => omega
        case rel => exact ⟨k + 1, by omega, by omega, by go_num, ⟨U.out.1⟩, ⟨U.out.2.1⟩, ⟨U.out.2.2⟩⟩
      | false =>
        have U := H1 v2 rfl
        clear H1
        go_wp2
        go_roundg (m - (k + 1))
        case measure => omega
        case rel => exact ⟨k + 1, by omega, by omega, by go_num, ⟨U.out.1⟩, ⟨U.out.2.1⟩, ⟨U.out.2.2⟩⟩
    · have ek : k = m := by omega
      subst ek
      go_wp2
      go_end0
      refine ⟨⟨_, rfl⟩, ?_, HF.out, HL.out⟩
      rw [fRow_congr (f := fun t => f t || h t) (f' := mixTo f h k) (fun t ht => by simp [mixTo, ht])]
      exact HA.out
theorem fList_step (f : Nat → Bool) (k : Nat) : fList (k + 1) f = if f k = true then fList k f ++ [(k : Int)] else fList k f := by
  unfold fList
  rw [List.range_succ, List.filter_append]
  by_cases h : f k = true <;> simp [h]
set_option maxRecDepth 100000 in
set_option maxHeartbeats 4000000 in
theorem refListed (g m : Nat) (f : Nat → Bool) (w : World) (hb : Blk w g 4 (bools (fRow m f))) (hm : m ≤ 1000) :
    Calls Try.prog 45 #[.slice (some ⟨g, 0, none⟩) m m] w fun e w' => ∃ v, e = .returned v ∧ OwnI w' w.heap.size v (fList m f) ∧ Below w.heap.size w w' := by
  have HB := Keep.mk hb
  clear hb
  go_enter Try.func45, Try.ntmps45
  go_wp2
  go_loopg [3, 4] m (fun gg s3 s4 wr => ∃ k : Nat, k ≤ m ∧ m - k ≤ gg ∧ s4 = .int .i64 k ∧ Keep (OwnI wr w.heap.size s3 (fList k f)) ∧ Keep (Below w.heap.size w wr))
  case atStart => exact ⟨0, Nat.zero_le _, by omega, rfl, ⟨OwnI.nil _ _⟩, ⟨Below.refl _ _⟩⟩
  case round =>
    obtain ⟨k, hk, hg, rfl, HO, HW⟩ := hrel
    have hBs := HW.out.size
    by_cases hlt : k < m
    · have cc := cell_below (fRow_cell HB.out k hlt) HW.out HB.out.lt
      have hst := Keep.mk (fList_step f k)
      have hlen : (fList k f).length ≤ k := by
        unfold fList
        rw [List.length_map]
        exact Nat.le_trans (List.length_filter_le _ _) (by simp)
      generalize fList k f = ys at *
      generalize f k = v at *
      have i1 : (0:Int) ≤ k := by omega
      have i2 : (k : Int) < m := by omega
      cases v with
      | true =>
        rw [if_pos rfl] at hst
        go_wp2_with (at_builtin; refine wpl_append_int _ rfl (.tmp 15) (.tmp 17) rfl w.heap.size _ ys rfl (HO.out.below ((Below.refl _ _).alloc (Nat.le_refl _) (.cells #[.int .i64 k] 3))) wr.heap.size k rfl ?c1 ?c2 ?c3 ?_)
        case c1 => simp [World.cell?_alloc_at]
        case c2 => omega
        case c3 => simp; omega
        intro v' w2 hG
        have O2 : Keep (OwnI w2 w.heap.size v' (fList (k + 1) f)) := ⟨by rw [hst.out]; exact hG.own⟩
        have HB2 : Keep (Below w.heap.size w w2) := ⟨below_step (HW.out.alloc hBs _) hG.low (Nat.le_refl _)⟩
        clear hG
        go_wp2
        go_roundg (m - (k + 1))
        case measure => omega
        case rel => exact ⟨k + 1, by omega, by omega, by go_num, O2, HB2⟩
      | false =>
        rw [if_neg (by decide)] at hst
        go_wp2
        go_roundg (m - (k + 1))
        case measure => omega
        case rel => exact ⟨k + 1, by omega, by omega, by go_num, ⟨by rw [hst.out]; exact HO.out⟩, HW⟩
    · have ek : k = m := by omega
      subst ek
      go_wp2
      go_ret
      exact ⟨_, rfl, HO.out, HW.out⟩
end Go.Proofs.Ytofidghilcbegaa.H
namespace Go.Proofs.Ytofidghilcbegaa.H
open Go.RowKit
set_option linter.unusedVariables false
set_option linter.unusedSimpArgs false
theorem Fm.cell {w : World} {B : Nat} {go n c m : Nat} {gs : List Nat} {F : Nat → Nat → Bool} (h : Fm w B (.slice (some ⟨go, 0, none⟩) n c) n m gs F) (s : Nat) (hs : s < n) :
    ∃ g, gs[s]? = some g ∧ w.cell? ⟨go, s, none⟩ = some (.slice (some ⟨g, 0, none⟩) m m) ∧ Blk w g 4 (bools (fRow m (F s))) ∧ B ≤ g ∧ go ≠ g := by
  obtain ⟨go', c', he, _, _, _, _, hne, hc⟩ := h.open_ (by omega)
  cases he
  have hs' : s < gs.length := by rw [h.len]; exact hs
  exact ⟨gs[s], List.getElem?_eq_getElem hs', hc s hs', (h.row s hs').1, (h.row s hs').2, hne s hs'⟩
theorem Fm.put {w w' : World} {B : Nat} {v : Value} {n m : Nat} {gs : List Nat} {F : Nat → Nat → Bool} (h : Fm w B v n m gs F) {s g : Nat} (hs : gs[s]? = some g) {f : Nat → Bool} (hb : Blk w' g 4 (bools (fRow m f))) (hk : ∀ x, x ≠ g → w'.heap[x]? = w.heap[x]?) :
    Fm w' B v n m gs (fun u => if u = s then f else F u) := by
  obtain ⟨hlt, rfl⟩ := List.getElem?_eq_some_iff.1 hs
  exact h.write hlt hb hk
theorem cell_of_heap {w w' : World} {a : Addr} (h : w'.heap[a.block]? = w.heap[a.block]?) : w'.cell? a = w.cell? a := by unfold World.cell?; rw [h]
theorem fRow_fi0_T {m t k : Nat} (hk : k < t) : (List.replicate m false).set k true = fRow m (fi0 t k) := by
  rw [fRow_replicate, fRow_set]
  refine fRow_congr fun u _ => ?_
  unfold fi0
  by_cases e : u = k
  · subst e; simp [hk]
  · rw [if_neg e]; simp; omega
theorem fRow_fi0_F {m t k : Nat} (hk : ¬ k < t) : List.replicate m false = fRow m (fi0 t k) := by
  rw [fRow_replicate]
  refine fRow_congr fun u _ => ?_
  unfold fi0; simp; omega
theorem Fm.fresh {w : World} {B : Nat} {v : Value} {n m : Nat} {gs : List Nat} {F : Nat → Nat → Bool} (h : Fm w B v n m gs F) : w.heap.size ∉ gs := by
  intro hm
  obtain ⟨i, hi, he⟩ := List.getElem_of_mem hm
  have := (h.row i hi).1.lt
  omega
set_option maxRecDepth 100000 in
set_option maxHeartbeats 8000000 in
theorem refBegins (g : Gr) (A : Option Addr) (c : Nat) (w : World) (hbl : ∀ p ∈ g.ps, p.body.length ≤ 9223372036854775807) (hr : RdP w w.heap.size A g.ps) (ok : GrOk g) (hne : ∀ p ∈ g.ps, 0 < p.body.length) :
    Calls Try.prog 46 #[grV g A c] w fun e w' => ∃ go co gs, e = .returned (.slice (some ⟨go, 0, none⟩) g.S.toNat co) ∧ g.S.toNat ≤ co ∧ Fm w' (w.heap.size + 1) (.slice (some ⟨go, 0, none⟩) g.S.toNat co) g.S.toNat (g.T.toNat + 1) gs (fiEnd g) ∧ Below w.heap.size w w' := by
  obtain ⟨T, S, st, ps⟩ := g
  obtain ⟨t0, t1, s0, s1, st0, st1, n0, n1, pr⟩ := ok
  dsimp only at *
  obtain ⟨t, rfl⟩ := Int.eq_ofNat_of_zero_le (show 0 ≤ T by omega)
  obtain ⟨n, rfl⟩ := Int.eq_ofNat_of_zero_le (show 0 ≤ S by omega)
  have R0 : Keep (RdP w w.heap.size A ps) := ⟨hr⟩
  have B0 : Keep (∀ p ∈ ps, p.body.length ≤ 9223372036854775807) := ⟨hbl⟩
  have N0 : Keep (∀ p ∈ ps, 0 < p.body.length) := ⟨hne⟩
  have P0 : Keep (∀ p ∈ ps, PrIn n p) := ⟨fun p hp => ⟨by have := pr p hp; omega, by have := pr p hp; omega, fun s hs => by have := (pr p hp).2.2 s hs; omega⟩⟩
  clear hr hbl pr hne
  generalize hG : fiEnd ⟨t, n, st, ps⟩ = RES
  have HG : Keep (itsF (fiRound ps) n (fi0 t) = RES) := ⟨by rw [← hG]; unfold fiEnd; simp⟩
  clear hG
  unfold grV
  dsimp only
  rw [Int.toNat_natCast, Int.toNat_natCast]
  have hmk := @run_make_row' Try.prog 45 4 (.bool false) 1 Try.underlying45 info_bool rfl .i64 .i64 (t + 1) (by omega) (by omega)
  simp only [madeCells_bools] at hmk
  rw [show (((t + 1 : Nat) : Int)) = (t : Int) + 1 from by simp] at hmk
  have U0 : Keep (Fm (w.alloc (.cells #[.int .i64 t, .int .i64 n, .int .i64 st, .slice A ps.length c] 24)) (w.heap.size + 1) (.slice none 0 0) 0 (t + 1) [] (fi0 t)) := ⟨Fm.nil _ _ _ _⟩
  have B1 : Keep (Below w.heap.size w (w.alloc (.cells #[.int .i64 t, .int .i64 n, .int .i64 st, .slice A ps.length c] 24))) := ⟨(Below.refl _ _).alloc (Nat.le_refl _) _⟩
  have BG1 : Keep (Blk (w.alloc (.cells #[.int .i64 t, .int .i64 n, .int .i64 st, .slice A ps.length c] 24)) w.heap.size 24 #[.int .i64 t, .int .i64 n, .int .i64 st, .slice A ps.length c]) := ⟨Blk.new _ _ _⟩
  go_enter Try.func46, Try.ntmps46
  go_wp2
  go_loopg [3, 4] n (fun gg s3 s4 wr => ∃ (k : Nat) (gs : List Nat), k ≤ n ∧ n - k ≤ gg ∧ s4 = .int .i64 k ∧ Keep (Fm wr (w.heap.size + 1) s3 k (t + 1) gs (fi0 t)) ∧ Keep (Below w.heap.size w wr) ∧ Keep (Blk wr w.heap.size 24 #[.int .i64 t, .int .i64 n, .int .i64 st, .slice A ps.length c]))
  case atStart => exact ⟨0, [], Nat.zero_le _, by omega, rfl, U0, B1, BG1⟩
  case round =>
  clear U0 B1 BG1
  obtain ⟨k, gs, hk, hg, rfl, U, BW, BK⟩ := hrel
  have q0 := BK.out.cell 0
  have q1 := BK.out.cell 1
  simp at q0 q1
  have nw := BK.out.lt
  by_cases hlt : k < n
  · have i1 : (k : Int) < n := by omega
    have fr := Keep.mk U.out.fresh
    by_cases hkt : k < t
    · have i2 : (k : Int) < t := by omega
      have HR : Keep ((bools (List.replicate (t + 1) false)).setIfInBounds k (.bool true) = bools (fRow (t + 1) (fi0 t k))) := ⟨by rw [bools_set, fRow_fi0_T hkt]⟩
      have hnb := Keep.mk (Blk.new wr 4 (bools (List.replicate (t + 1) false)))
      have cc := hnb.out.cell k
      rw [bools_gb _ k (by simp; omega)] at cc
      have cf := hnb.out.frozen k
      generalize gb _ _ = v9 at cc
      clear hkt hnb
      go_wp2_with (at_builtin; (refine wpl_append_fm _ rfl (.tmp 25) (.tmp 27) rfl (w.heap.size + 1) _ rfl (U.out.below (((Below.refl _ _).alloc (Nat.le_refl _) (.cells ((bools (List.replicate (t + 1) false)).setIfInBounds k (.bool true)) 4)).alloc (by simp) (.cells #[.slice (some ⟨wr.heap.size, 0, none⟩) (t + 1) (t + 1)] 45))) (wr.heap.size + 1) wr.heap.size rfl ?c1 ?c2 ?c3 ?c4 ?c5 ?c6 ?_))
      case c1 => simp [World.cell?_alloc_at]
      case c2 => exact HR.out ▸ (Blk.new _ _ _).alloc _
      case c3 => omega
      case c4 => exact fr.out
      case c5 => omega
      case c6 => first | (simp; omega) | omega
      intro v' w2 hU hb hk2
      have U2 := Keep.mk hU
      have B2 : Keep (Below w.heap.size w w2) := ⟨below_step ((BW.out.alloc BW.out.size _).alloc (by simp; omega) _) hb (by omega)⟩
      have BK2 : Keep (Blk w2 w.heap.size 24 #[.int .i64 t, .int .i64 n, .int .i64 st, .slice A ps.length c]) := ⟨hk2 _ _ _ ((BK.out.alloc _).alloc _) (by decide)⟩
      clear hU hb hk2 q0 q1 HR
      go_wp2
      go_roundg (n - (k + 1))
      case measure => omega
      case rel => exact ⟨k + 1, _, by omega, by omega, by go_num, U2, B2, BK2⟩
    · have i2 : ¬ (k : Int) < t := by omega
      have HR : Keep (bools (List.replicate (t + 1) false) = bools (fRow (t + 1) (fi0 t k))) := ⟨by rw [fRow_fi0_F hkt]⟩
      clear hkt
      go_wp2_with (at_builtin; go_loud (refine wpl_append_fm _ rfl (.tmp 25) (.tmp 27) rfl (w.heap.size + 1) _ rfl (U.out.below (((Below.refl _ _).alloc (Nat.le_refl _) (.cells (bools (List.replicate (t + 1) false)) 4)).alloc (by simp) (.cells #[.slice (some ⟨wr.heap.size, 0, none⟩) (t + 1) (t + 1)] 45))) (wr.heap.size + 1) wr.heap.size rfl ?c1 ?c2 ?c3 ?c4 ?c5 ?c6 ?_))
      case c2 => exact HR.out ▸ (Blk.new _ _ _).alloc _
      case c3 => omega
      case c4 => exact fr.out
      case c5 => omega
      case c6 => first | (simp; omega) | omega
      intro v' w2 hU hb hk2
      have U2 := Keep.mk hU
      have B2 : Keep (Below w.heap.size w w2) := ⟨below_step ((BW.out.alloc BW.out.size _).alloc (by simp; omega) _) hb (by omega)⟩
      have BK2 : Keep (Blk w2 w.heap.size 24 #[.int .i64 t, .int .i64 n, .int .i64 st, .slice A ps.length c]) := ⟨hk2 _ _ _ ((BK.out.alloc _).alloc _) (by decide)⟩
      clear hU hb hk2 q0 q1 HR
      go_wp2
      go_roundg (n - (k + 1))
      case measure => omega
      case rel => exact ⟨k + 1, _, by omega, by omega, by go_num, U2, B2, BK2⟩
  have ek : k = n := by omega
  subst ek
  obtain ⟨go, co, rfl, hc1, hc2, hgo, hlt2, _, _⟩ := U.out.open_ (by omega)
  clear hgo hlt2 hlt hg hk q0 hmk
  go_wp2
  clear q1
  go_loopg [6] k (fun gg s6 wr => ∃ h : Nat, h ≤ k ∧ k - h ≤ gg ∧ s6 = .int .i64 h ∧ Keep (Fm wr (w.heap.size + 1) (.slice (some ⟨go, 0, none⟩) k co) k (t + 1) gs (itsF (fiRound ps) h (fi0 t))) ∧ Keep (Below w.heap.size w wr) ∧ Keep (Blk wr w.heap.size 24 #[.int .i64 t, .int .i64 k, .int .i64 st, .slice A ps.length c]))
  case atStart => exact ⟨0, Nat.zero_le _, by omega, rfl, U, BW, BK⟩
  case round =>
  clear U BW BK nw
  obtain ⟨h, hk, hg, rfl, U, BW, BK⟩ := hrel
  have q1 := BK.out.cell 1
  simp at q1
  by_cases hlt : h < k
  · have HS : Keep (itsF (fiRound ps) (h + 1) (fi0 t) = fiRound ps (itsF (fiRound ps) h (fi0 t))) := ⟨rfl⟩
    generalize itsF (fiRound ps) h (fi0 t) = F0 at *
    have k1 : (h : Int) < k := by omega
    go_wp2
    clear q1
    go_loopg [7] ps.length (fun gg s7 wr => ∃ i : Nat, i ≤ ps.length ∧ ps.length - i ≤ gg ∧ s7 = .int .i64 i ∧ Keep (Fm wr (w.heap.size + 1) (.slice (some ⟨go, 0, none⟩) k co) k (t + 1) gs ((ps.take i).foldl fiStep F0)) ∧ Keep (Below w.heap.size w wr) ∧ Keep (Blk wr w.heap.size 24 #[.int .i64 t, .int .i64 k, .int .i64 st, .slice A ps.length c]))
    case atStart => exact ⟨0, Nat.zero_le _, by omega, rfl, U, BW, BK⟩
    case round =>
      clear U BW BK
      obtain ⟨i, hi, hgi, rfl, U, BW, BK⟩ := hrel
      have q3 := BK.out.cell 3
      simp at q3
      by_cases hlti : i < ps.length
      · obtain ⟨ad, Ab, cb, rfl, hb, c0, c1, c2, hlb, hrb⟩ := R0.out i hlti
        replace c0 := cell_below c0 BW.out (by rw [add_block]; exact hb)
        replace c1 := cell_below c1 BW.out (by show (ad.add _).block < _; rw [add_block]; exact hb)
        have na : (ad.add (i * 3)).block < w.heap.size + 1 := by rw [add_block]; omega
        have hbl := B0.out _ (List.getElem_mem hlti)
        have hnb := N0.out _ (List.getElem_mem hlti)
        have hpi := Keep.mk (P0.out _ (List.getElem_mem hlti))
        have HU2 := Keep.mk (take_fold fiStep ps i hlti F0)
        generalize (ps.take i).foldl fiStep F0 = F1 at *
        generalize hx : ps[i] = p at *
        clear hx c2
        obtain ⟨hd, bd, rt⟩ := p
        dsimp only at *
        obtain ⟨d, rfl⟩ := Int.eq_ofNat_of_zero_le hpi.out.1
        have hdn : (d : Int) < k := by have := hpi.out.2.1; simp at this; omega
        obtain ⟨a2, rfl, hb2, hc2⟩ := hrb.int 0 hnb
        replace hc2 := cell_below hc2 BW.out (by rw [add_block]; exact hb2)
        have hc3 := hc2
        simp [Addr.add] at hc3
        have nb : a2.block < w.heap.size + 1 := by omega
        have hs := hpi.out.2.2 _ (List.getElem_mem hnb)
        have eg : Keep (bd.getD 0 0 = bd[0]) := ⟨by rw [List.getD_eq_getElem?_getD, List.getElem?_eq_getElem hnb]; rfl⟩
        generalize hy : bd[0] = y at *
        clear hy hc2
        obtain ⟨y, rfl⟩ := Int.eq_ofNat_of_zero_le hs.1
        have hyn : (y : Int) < k := by have := hs.2; simp at this; omega
        clear hs
        obtain ⟨g1, hg1, o1, bl1, hB1, hn1⟩ := U.out.cell d (by omega)
        obtain ⟨g2, hg2, o2, bl2, hB2, hn2⟩ := U.out.cell y (by omega)
        have KI := Keep.mk (refInto g1 g2 (t + 1) (F1 d) (F1 y) wr.drew bl1.drew bl2.drew (by omega))
        have HF : Keep (fiStep F1 ⟨d, bd, rt⟩ = fun u => if u = d then (fun x => F1 d x || F1 y x) else F1 u) := ⟨by unfold fiStep fInto; dsimp only; rw [eg.out]; simp⟩
        have HG1 := Keep.mk hg1
        clear bl1 bl2 hg1 hg2 hn2 hB2 eg
        have j1 : (0:Int) ≤ i := by omega
        have j2 : (i : Int) < ps.length := by omega
        have j3 : (0:Int) < bd.length := by omega
        obtain ⟨wo, rfl⟩ : ∃ wo : World, wo = wr := ⟨_, rfl⟩
        go_upto_region 15 with fail
        go_region_held3 (fun w' => w'.cell? ⟨w.heap.size, 3, none⟩ = some (.slice (some ad) ps.length c) ∧ w'.cell? (ad.add (i * 3)) = some (.int .i64 d) ∧ w'.cell? ⟨(ad.add (i * 3)).block, (ad.add (i * 3)).off + 1, none⟩ = some (.slice (some a2) bd.length cb) ∧ w'.cell? a2 = some (.int .i64 y) ∧ w'.cell? ⟨go, d, none⟩ = some (.slice (some ⟨g1, 0, none⟩) (t + 1) (t + 1)) ∧ w'.cell? ⟨go, y, none⟩ = some (.slice (some ⟨g2, 0, none⟩) (t + 1) (t + 1)))
          (first | exact ⟨q3, c0, c1, hc3, o1, o2⟩ | exact ⟨s0', s1', s2', s3', s4', s5'⟩) (first
          | (go_at_call 47; refine KI.out.mono ?_; rintro e w9 ⟨⟨v9, rfl⟩, hb9, hk9, hl9⟩; have Z9 : Keep (Below (w.heap.size + 1) wo w9) := ⟨below_step (below_drew1 (Below.refl _ _)) (hl9 _ hB1) (Nat.le_refl _)⟩; have s0' := cell_below q3 Z9.out (by simp); have s1' := cell_below c0 Z9.out na; have s2' := cell_below c1 Z9.out na; have s3' := cell_below hc3 Z9.out nb; have s4' := (cell_of_heap (w := wo) (a := ⟨go, d, none⟩) (hk9 go hn1)).trans o1; have s5' := (cell_of_heap (w := wo) (a := ⟨go, y, none⟩) (hk9 go hn1)).trans o2; have U9 := Keep.mk (U.out.put HG1.out hb9 hk9); clear hb9 hk9 hl9))
        all_goals (
          have B3 : Keep (Below w.heap.size w w9) := ⟨below_step BW.out Z9.out (by omega)⟩
          have BK3 := Keep.mk (BK.out.below Z9.out (by omega))
          have U3 : Keep (Fm w9 (w.heap.size + 1) (.slice (some ⟨go, 0, none⟩) k co) k (t + 1) gs ((ps.take (i + 1)).foldl fiStep F0)) := ⟨by rw [HU2.out, HF.out]; exact U9.out⟩
          clear U KI q3 c0 c1 hc3 o1 o2 s0' s1' s2' s3' s4' s5' U9
          go_wp2
          go_roundg (ps.length - (i + 1))
          case measure => omega
          case rel => exact ⟨i + 1, by omega, by omega, by go_num, U3, B3, BK3⟩)
      · have em : i = ps.length := by omega
        subst em
        go_wp2
        go_roundg (k - (h + 1))
        case measure => omega
        case rel => exact ⟨h + 1, by omega, by omega, by go_num, ⟨by rw [HS.out]; have := U.out; rw [List.take_length] at this; exact this⟩, BW, BK⟩
  · have ek : h = k := by omega
    subst ek
    go_wp2
    go_ret
    refine ⟨go, co, gs, rfl, hc1, ?_, BW.out⟩
    have := U.out
    rwa [HG.out] at this
end Go.Proofs.Ytofidghilcbegaa.H
namespace Go.Proofs.Ytofidghilcbegaa.H
open Go.RowKit
set_option linter.unusedVariables false
set_option linter.unusedSimpArgs false
theorem GrFit.of {g : Gr} (h : checkI g = 0) : GrFit g := ⟨GrIn.ok h, fun p hp => ((checkI_zero h).2.1 p hp).1⟩
end Go.Proofs.Ytofidghilcbegaa.H
namespace Go.Proofs.Ytofidghilcbegaa.H
open Go.RowKit
set_option linter.unusedVariables false
set_option linter.unusedSimpArgs false
theorem range_fold {β : Type} (f : β → Nat → β) (k : Nat) (b : β) : (List.range (k + 1)).foldl f b = f ((List.range k).foldl f b) k := by
  rw [List.range_succ, List.foldl_append]; rfl
theorem getD_at {l : List Int} {k : Nat} (h : k < l.length) : l.getD k 0 = l[k] := by rw [List.getD_eq_getElem?_getD, List.getElem?_eq_getElem h]; rfl
set_option maxRecDepth 100000 in
set_option maxHeartbeats 8000000 in
theorem refFollow_any (g : Gr) (s : Int) (A : Option Addr) (c : Nat) (w : World) (h : GrIn w g A c) :
    Calls Try.prog 23 #[grV g A c, .int .i64 s] w (ListErr w (followR g s)) := by
  have H0 := Keep.mk h
  have R0 := Keep.mk h.r
  have BL0 := Keep.mk h.b
  clear h
  have K1 := Keep.mk fun W (hW : Below w.heap.size w W) => refcheck_any g A c W (H0.out.below hW)
  have K9 := Keep.mk fun W => refSymbol g s A c W
  have KB := Keep.mk fun (hz : checkI g = 0) W (hW : Below w.heap.size w W) => refBegins g A c W H0.out.b (H0.out.below hW).r (GrIn.ok hz) (GrFit.of hz).ne
  have HS : Keep (checkI g = 0 → GrFit g) := ⟨GrFit.of⟩
  have HT := Keep.mk fun (hz : checkI g = 0) (x : Nat) hx => follow_list (GrFit.of hz) x hx
  have HE : Keep (foEnd g = itsF (foRound (fiEnd g) g.ps) (g.S.toNat + 1) (fo0 g.T.toNat g.st.toNat)) := ⟨rfl⟩
  have HR : Keep (followR g s = if checkI g = 0 then (if 0 ≤ s ∧ s < g.S then (tlist (gn (followEnd g) s), 0) else ([], 2)) else ([], checkI g)) := ⟨rfl⟩
  generalize checkI g = E at *
  generalize followR g s = R at *
  generalize followEnd g = F at *
  generalize foEnd g = FO at *
  generalize fiEnd g = FE at *
  clear H0
  obtain ⟨T, S, st, ps⟩ := g
  unfold grV at *
  dsimp only at *
  have B0 : Keep (Below w.heap.size w (w.alloc (.cells #[.int .i64 T, .int .i64 S, .int .i64 st, .slice A ps.length c] 24))) := ⟨(Below.refl _ _).alloc (Nat.le_refl _) _⟩
  have BG : Keep (Blk (w.alloc (.cells #[.int .i64 T, .int .i64 S, .int .i64 st, .slice A ps.length c] 24)) w.heap.size 24 #[.int .i64 T, .int .i64 S, .int .i64 st, .slice A ps.length c]) := ⟨Blk.new _ _ _⟩
  go_enter Try.func23, Try.ntmps23
  go_wp2_with fail
  refine (K1.out _ B0.out).mono ?_
  rintro e w1 ⟨rfl, hb⟩
  have B1 : Keep (Below w.heap.size w w1) := ⟨below_step B0.out hb B0.out.size⟩
  have BG1 := Keep.mk (BG.out.below hb BG.out.lt)
  clear BG B0 hb K1
  have q0 := BG1.out.cell 0
  have q1 := BG1.out.cell 1
  have q2 := BG1.out.cell 2
  have q3 := BG1.out.cell 3
  simp at q0 q1 q2 q3
  by_cases hE : E = 0
  rotate_left
  · have t : ((E : Int) != 0) = true := by simp [hE]
    have HR2 : Keep (R = ([], E)) := ⟨by rw [HR.out, if_neg hE]⟩
    clear HR hE HT HS KB HE
    go_wp2
    go_ret2
    rw [HR2.out]
    exact ⟨_, rfl, OwnI.nil _ _, B1.out⟩
  subst hE
  by_cases hs : 0 ≤ s ∧ s < S
  rotate_left
  · have HR2 : Keep (R = ([], 2)) := ⟨by rw [HR.out, if_pos rfl, if_neg hs]⟩
    have th : (decide (0 ≤ s) && decide (s < S)) = false := by simp; omega
    rw [th] at K9
    clear HR HT HS KB HE
    go_wp2_with fail
    refine (K9.out _).mono ?_
    rintro e w2 ⟨rfl, hb⟩
    have B2 : Keep (Below w.heap.size w w2) := ⟨below_step B1.out hb B1.out.size⟩
    clear hb
    go_wp2
    go_ret2
    rw [HR2.out]
    exact ⟨_, rfl, OwnI.nil _ _, B2.out⟩
  obtain ⟨hs0, hs1⟩ := hs
  have HR2 : Keep (R = (tlist (gn F s), 0)) := ⟨by rw [HR.out, if_pos rfl, if_pos ⟨hs0, hs1⟩]⟩
  have fit := HS.out rfl
  obtain ⟨x, rfl⟩ := Int.eq_ofNat_of_zero_le hs0
  have HL := Keep.mk (HT.out rfl x hs1)
  have P0 := Keep.mk fit.pin
  have N0 := Keep.mk fit.ne
  obtain ⟨t0, t1, s0, s1, st0, st1, n0, n1, pr⟩ := fit.ok
  dsimp only at t0 t1 s0 s1 st0 st1 n0 n1 P0 N0
  clear pr fit HS HR HT
  obtain ⟨t, rfl⟩ := Int.eq_ofNat_of_zero_le (show 0 ≤ T by omega)
  obtain ⟨n, rfl⟩ := Int.eq_ofNat_of_zero_le (show 0 ≤ S by omega)
  obtain ⟨a, rfl⟩ := Int.eq_ofNat_of_zero_le (show 0 ≤ st by omega)
  simp only [Int.toNat_natCast] at KB HE HL P0
  have th : (decide (0 ≤ (x : Int)) && decide ((x : Int) < n)) = true := by simp; omega
  rw [th] at K9
  clear th
  go_wp2_with fail
  refine (K9.out _).mono ?_
  rintro e w2 ⟨rfl, hb⟩
  have BG2 := Keep.mk (BG1.out.below hb BG1.out.lt)
  have B2 : Keep (Below w.heap.size w w2) := ⟨below_step B1.out hb B1.out.size⟩
  clear hb q0 q1 q2 q3 K9 BG1 B1
  have q0 := BG2.out.cell 0
  have q1 := BG2.out.cell 1
  have q2 := BG2.out.cell 2
  have q3 := BG2.out.cell 3
  simp at q0 q1 q2 q3
  go_wp2_with fail
  refine (KB.out (by first | rfl | trivial) _ B2.out).mono ?_
  rintro e w3 ⟨go1, co1, gs1, rfl, hco1, hF1, hb⟩
  have B3 : Keep (Below w.heap.size w w3) := ⟨below_step B2.out hb B2.out.size⟩
  have BG3 := Keep.mk (BG2.out.below hb BG2.out.lt)
  have U1 := Keep.mk hF1
  clear hb hF1 q0 q1 q2 q3 KB BG2 B2
  have nw := BG3.out.lt
  have hmk := @run_make_row' Try.prog 45 4 (.bool false) 1 Try.underlying45 info_bool rfl .i64 .i64 (t + 1) (by omega) (by omega)
  simp only [madeCells_bools] at hmk
  rw [show (((t + 1 : Nat) : Int)) = (t : Int) + 1 from by simp] at hmk
  have HRW : Keep (bools (List.replicate (t + 1) false) = bools (fRow (t + 1) (fun _ => false))) := ⟨by rw [fRow_replicate]⟩
  go_wp2
  go_loopg [8, 9] n (fun gg s8 s9 wr => ∃ (k : Nat) (gs : List Nat), k ≤ n ∧ n - k ≤ gg ∧ s9 = .int .i64 k ∧ Keep (Fm wr w3.heap.size s8 k (t + 1) gs (fun _ _ => false)) ∧ Keep (Below w3.heap.size w3 wr))
  case atStart => exact ⟨0, [], Nat.zero_le _, by omega, rfl, ⟨Fm.nil _ _ _ _⟩, ⟨Below.refl _ _⟩⟩
  case round =>
  obtain ⟨k, gs, hk, hg, rfl, U, Z⟩ := hrel
  have BK := BG3.out.below Z.out nw
  have q0 := BK.cell 0
  have q1 := BK.cell 1
  simp at q0 q1
  by_cases hlt : k < n
  · have i1 : (k : Int) < n := by omega
    have fr := Keep.mk U.out.fresh
    have zs := Z.out.size
    go_wp2_with (at_builtin; go_loud (refine wpl_append_fm _ rfl (.tmp 31) (.tmp 36) rfl w3.heap.size _ rfl (U.out.below (((Below.refl _ _).alloc (Nat.le_refl _) (.cells (bools (List.replicate (t + 1) false)) 4)).alloc (by simp) (.cells #[.slice (some ⟨wr.heap.size, 0, none⟩) (t + 1) (t + 1)] 45))) (wr.heap.size + 1) wr.heap.size rfl ?c1 ?c2 ?c3 ?c4 ?c5 ?c6 ?_))
    case c1 => simp [World.cell?_alloc_at]
    case c2 => exact HRW.out ▸ (Blk.new _ _ _).alloc _
    case c3 => omega
    case c4 => exact fr.out
    case c5 => omega
    case c6 => first | (simp; omega) | omega
    intro v' w4 hU hb hk2
    have U2 := Keep.mk hU
    have Z2 : Keep (Below w3.heap.size w3 w4) := ⟨below_step ((Z.out.alloc Z.out.size _).alloc (by simp; omega) _) hb (by omega)⟩
    clear hU hb hk2 q0 q1
    go_wp2
    go_roundg (n - (k + 1))
    case measure => omega
    case rel => exact ⟨k + 1, _, by omega, by omega, by go_num, U2, Z2⟩
  have ek : k = n := by omega
  subst ek
  obtain ⟨go, co, rfl, hc1, hc2, hgo, hlt2, _, _⟩ := U.out.open_ (by omega)
  clear hlt2 hlt hg hk q0 q1 hmk HRW BK
  have BK := BG3.out.below Z.out nw
  have q0 := BK.cell 0
  have q1 := BK.cell 1
  have q2 := BK.cell 2
  simp at q0 q1 q2
  obtain ⟨g1, hg1, o1, bl1, hB1, hn1⟩ := U.out.cell a (by omega)
  have cc := fRow_cell bl1 t (by omega)
  have cf := bl1.frozen t
  have i1 : (a : Int) < k := by omega
  have U2 : Keep (Fm (wr.setCell ⟨g1, t, none⟩ (.bool true)).drew w3.heap.size (.slice (some ⟨go, 0, none⟩) k co) k (t + 1) gs (fo0 t a)) := ⟨by
    have hb := bl1.set_ t (.bool true)
    rw [bools_set, fRow_set] at hb
    have := U.out.put hg1 (w' := (wr.setCell ⟨g1, t, none⟩ (.bool true)).drew) hb (fun x hx => Below.heap_setCell wr ⟨g1, t, none⟩ _ x hx)
    refine this.congr fun s u _ _ => ?_
    unfold fo0
    by_cases e : s = a
    · subst e
      simp
    · simp [e]⟩
  have Z2 : Keep (Below w3.heap.size w3 (wr.setCell ⟨g1, t, none⟩ (.bool true)).drew) := ⟨below_drew1 (Z.out.setCell hB1 _)⟩
  clear bl1 hg1 BK U Z
  go_wp2
  go_region
  clear q0 q1 q2 cc cf o1
  go_wp2
  generalize (wr.setCell ⟨g1, t, none⟩ (.bool true)).drew = w4 at *
  go_loopg [10] (k + 1) (fun gg s10 wr => ∃ h : Nat, h ≤ k + 1 ∧ k + 1 - h ≤ gg ∧ s10 = .int .i64 h ∧ Keep (Fm wr w3.heap.size (.slice (some ⟨go, 0, none⟩) k co) k (t + 1) gs (itsF (foRound FE ps) h (fo0 t a))) ∧ Keep (Below w3.heap.size w3 wr))
  case atStart => exact ⟨0, Nat.zero_le _, by omega, rfl, U2, Z2⟩
  case round =>
  clear U2 Z2
  obtain ⟨h, hk, hg, rfl, U, Z⟩ := hrel
  have q1 := (BG3.out.below Z.out nw).cell 1
  simp at q1
  by_cases hlt : h < k + 1
  rotate_left
  · have ek : h = k + 1 := by omega
    subst ek
    rw [← HE.out] at U
    obtain ⟨g2, hg2, o2, bl2, hB2, hn2⟩ := U.out.cell x (by omega)
    have KL := Keep.mk (refListed g2 (t + 1) (FO x) _ bl2 (by omega))
    rw [HL.out] at KL
    have k2 : ¬ ((k : Int) + 1 < k + 1) := by omega
    have i2 : (x : Int) < k := by omega
    clear bl2 hg2
    go_wp2_with fail
    refine KL.out.mono ?_
    rintro e w5 ⟨v, rfl, ho, hb⟩
    have B5 : Keep (Below w.heap.size w w5) := ⟨below_step B3.out (below_step Z.out hb Z.out.size) B3.out.size⟩
    have HO : Keep (OwnI w5 w.heap.size v (tlist (gn F x))) := ⟨ho.mono (by have := B3.out.size; have := Z.out.size; omega)⟩
    clear ho hb KL
    go_wp2
    go_ret2
    rw [HR2.out]
    exact ⟨v, rfl, HO.out, B5.out⟩
  have HSt : Keep (itsF (foRound FE ps) (h + 1) (fo0 t a) = foRound FE ps (itsF (foRound FE ps) h (fo0 t a))) := ⟨rfl⟩
  generalize itsF (foRound FE ps) h (fo0 t a) = F0 at *
  have k1 : (h : Int) < (k : Int) + 1 := by omega
  go_wp2
  clear q1
  go_loopg [11] ps.length (fun gg s11 wr => ∃ i : Nat, i ≤ ps.length ∧ ps.length - i ≤ gg ∧ s11 = .int .i64 i ∧ Keep (Fm wr w3.heap.size (.slice (some ⟨go, 0, none⟩) k co) k (t + 1) gs ((ps.take i).foldl (foStep FE) F0)) ∧ Keep (Below w3.heap.size w3 wr))
  case atStart => exact ⟨0, Nat.zero_le _, by omega, rfl, U, Z⟩
  case round =>
  clear U Z
  obtain ⟨i, hi, hgi, rfl, U, Z⟩ := hrel
  have q3 := (BG3.out.below Z.out nw).cell 3
  simp at q3
  by_cases hlti : i < ps.length
  rotate_left
  · have em : i = ps.length := by omega
    subst em
    go_wp2
    go_roundg (k + 1 - (h + 1))
    case measure => omega
    case rel => exact ⟨h + 1, by omega, by omega, by go_num, ⟨by rw [HSt.out]; have := U.out; rw [List.take_length] at this; exact this⟩, Z⟩
  obtain ⟨ad, Ab, cb, rfl, hb, c0, c1, c2, hlb, hrb⟩ := R0.out i hlti
  have nd3 : (ad.add (i * 3)).block < w3.heap.size := by rw [add_block]; have := B3.out.size; omega
  have C0 := Keep.mk (cell_below c0 B3.out (by rw [add_block]; exact hb))
  have C1 := Keep.mk (cell_below c1 B3.out (by show (ad.add _).block < _; rw [add_block]; exact hb))
  have hbl := BL0.out _ (List.getElem_mem hlti)
  have hnb := N0.out _ (List.getElem_mem hlti)
  have hpi := Keep.mk (P0.out _ (List.getElem_mem hlti))
  have HU2 := Keep.mk (take_fold (foStep FE) ps i hlti F0)
  generalize (ps.take i).foldl (foStep FE) F0 = F1 at *
  generalize hx : ps[i] = p at *
  clear hx c2 c0 c1
  obtain ⟨hd, bd, rt⟩ := p
  dsimp only at *
  obtain ⟨d, rfl⟩ := Int.eq_ofNat_of_zero_le hpi.out.1
  have hdn : (d : Int) < k := by have := hpi.out.2.1; simp at this; omega
  obtain ⟨a2, rfl, hb2, _⟩ := hrb.int 0 hnb
  have HC : Keep (∀ j (hj : j < bd.length), w3.cell? (a2.add j) = some (.int .i64 bd[j])) := ⟨fun j hj => by
    obtain ⟨a2', he, _, hc⟩ := hrb.int j hj
    cases he
    exact cell_below hc B3.out (by rw [add_block]; exact hb2)⟩
  have nb2 : ∀ j, (a2.add j).block < w3.heap.size := fun j => by rw [add_block]; have := B3.out.size; omega
  have NB := Keep.mk nb2
  clear nb2
  have HBD : Keep (∀ j (hj : j < bd.length), 0 ≤ bd[j] ∧ bd[j].toNat < k) := ⟨fun j hj => hpi.out.2.2 _ (List.getElem_mem hj)⟩
  have j1 : (0:Int) ≤ i := by omega
  have j2 : (i : Int) < ps.length := by omega
  have c1 := cell_below C1.out Z.out nd3
  go_wp2
  clear q3 c1
  go_loopg [13] bd.length (fun gg s13 wr => ∃ j : Nat, j + 1 ≤ bd.length ∧ bd.length - j ≤ gg ∧ s13 = .int .i64 j ∧ Keep (Fm wr w3.heap.size (.slice (some ⟨go, 0, none⟩) k co) k (t + 1) gs ((List.range j).foldl (foPart FE ⟨d, bd, rt⟩) F1)) ∧ Keep (Below w3.heap.size w3 wr))
  case atStart => exact ⟨0, by omega, by omega, rfl, U, Z⟩
  case round =>
  clear U Z
  obtain ⟨j, hj, hgj, rfl, U, Z⟩ := hrel
  by_cases hltj : j + 1 < bd.length
  · have HV2 := Keep.mk (range_fold (foPart FE ⟨d, bd, rt⟩) j F1)
    generalize (List.range j).foldl (foPart FE ⟨d, bd, rt⟩) F1 = F2 at *
    have hc1 := cell_below (HC.out j (by omega)) Z.out (NB.out j)
    have hc2 := cell_below (HC.out (j + 1) hltj) Z.out (NB.out (j + 1))
    unfold Addr.add at hc2
    rw [if_neg (by omega)] at hc2
    have hy1 := HBD.out j (by omega)
    have hy2 := HBD.out (j + 1) hltj
    have eg1 : Keep (bd.getD j 0 = bd[j]) := ⟨getD_at (by omega)⟩
    have eg2 : Keep (bd.getD (j + 1) 0 = bd[j + 1]) := ⟨getD_at hltj⟩
    generalize hy : bd[j] = y at *
    generalize hz : bd[j + 1] = z at *
    clear hy hz
    obtain ⟨y, rfl⟩ := Int.eq_ofNat_of_zero_le hy1.1
    obtain ⟨z, rfl⟩ := Int.eq_ofNat_of_zero_le hy2.1
    have hyn : (y : Int) < k := by have := hy1.2; simp at this; omega
    have hzn : (z : Int) < k := by have := hy2.2; simp at this; omega
    clear hy1 hy2
    have U1w := U1.out.below Z.out
    obtain ⟨g1, hg1, o1, bl1, hB1, hn1⟩ := U.out.cell y (by omega)
    obtain ⟨g2, hg2, o2, bl2, hB2, hn2⟩ := U1w.cell z (by omega)
    have ng2 : go1 < w3.heap.size := by
      obtain ⟨_, _, he, _, _, _, hlt, _⟩ := U1.out.open_ (show 0 < k by omega)
      cases he; exact hlt
    have KI := Keep.mk (refInto g1 g2 (t + 1) (F2 y) (FE z) wr.drew bl1.drew bl2.drew (by omega))
    have HF : Keep (foPart FE ⟨d, bd, rt⟩ F2 j = fun u => if u = y then (fun x => F2 y x || FE z x) else F2 u) := ⟨by unfold foPart fInto; dsimp only; rw [eg1.out, eg2.out]; simp⟩
    have HG1 := Keep.mk hg1
    have n1 := NB.out j
    have n2 : a2.block < w3.heap.size := by have := NB.out j; rwa [add_block] at this
    clear bl1 bl2 hg1 hg2 hn2 hB2 eg1 eg2 U1w
    have l1 : (0:Int) ≤ j := by omega
    have l2 : (j : Int) + 1 < bd.length := by omega
    have l4 : (0:Int) ≤ (j : Int) + 1 := by omega
    have l5 : ((j : Int) + 1).toNat = j + 1 := by omega
    have l3 : (j : Int) < bd.length := by omega
    obtain ⟨wo, rfl⟩ : ∃ wo : World, wo = wr := ⟨_, rfl⟩
    go_upto_region 23 with fail
    have hw : IntKind.i64.wrap ((j : Int) + 1) = (j : Int) + 1 := by rw [IntKind.wrap_i64]; omega
    go_region_held3 (fun w' => w'.cell? (a2.add j) = some (.int .i64 y) ∧ w'.cell? ⟨a2.block, a2.off + (j + 1), none⟩ = some (.int .i64 z) ∧ w'.cell? ⟨go, y, none⟩ = some (.slice (some ⟨g1, 0, none⟩) (t + 1) (t + 1)) ∧ w'.cell? ⟨go1, z, none⟩ = some (.slice (some ⟨g2, 0, none⟩) (t + 1) (t + 1)))
      (first | exact ⟨hc1, hc2, o1, o2⟩ | exact ⟨s0', s1', s2', s3'⟩) (first
      | (go_at_call 47; refine KI.out.mono ?_; rintro e w9 ⟨⟨v9, rfl⟩, hb9, hk9, hl9⟩; have Z9 : Keep (Below w3.heap.size wo w9) := ⟨below_step (below_drew1 (Below.refl _ _)) (hl9 _ hB1) (Nat.le_refl _)⟩; have s0' := cell_below hc1 Z9.out n1; have s1' := cell_below hc2 Z9.out n2; have s2' := (cell_of_heap (w := wo) (a := ⟨go, y, none⟩) (hk9 go hn1)).trans o1; have s3' := cell_below o2 Z9.out ng2; have U9 := Keep.mk (U.out.put HG1.out hb9 hk9); clear hb9 hk9 hl9))
    all_goals (
      have Z3 : Keep (Below w3.heap.size w3 w9) := ⟨Z.out.trans Z9.out⟩
      have U3 : Keep (Fm w9 w3.heap.size (.slice (some ⟨go, 0, none⟩) k co) k (t + 1) gs ((List.range (j + 1)).foldl (foPart FE ⟨d, bd, rt⟩) F1)) := ⟨by rw [HV2.out, HF.out]; exact U9.out⟩
      clear hw U KI hc1 hc2 o1 o2 s0' s1' s2' s3' U9
      go_wp2
      go_roundg (bd.length - (j + 1))
      case measure => omega
      case rel => exact ⟨j + 1, by omega, by omega, by go_num, U3, Z3⟩)
  · have ej : j = bd.length - 1 := by omega
    have HV2 : Keep ((List.range j).foldl (foPart FE ⟨d, bd, rt⟩) F1 = foAll FE F1 ⟨d, bd, rt⟩) := ⟨by rw [ej]; rfl⟩
    generalize (List.range j).foldl (foPart FE ⟨d, bd, rt⟩) F1 = F2 at *
    have hc1 := cell_below (HC.out j (by omega)) Z.out (NB.out j)
    have hy1 := HBD.out j (by omega)
    have eg1 : Keep (bd.getD (bd.length - 1) 0 = bd[j]) := ⟨by rw [← ej]; exact getD_at (by omega)⟩
    have ej2 : (bd.length : Int) - 1 = j := by omega
    have q3 := (BG3.out.below Z.out nw).cell 3
    simp at q3
    have c0 := cell_below C0.out Z.out nd3
    generalize hy : bd[j] = y at *
    clear hy
    obtain ⟨y, rfl⟩ := Int.eq_ofNat_of_zero_le hy1.1
    have hyn : (y : Int) < k := by have := hy1.2; simp at this; omega
    clear hy1
    obtain ⟨g1, hg1, o1, bl1, hB1, hn1⟩ := U.out.cell y (by omega)
    obtain ⟨g2, hg2, o2, bl2, hB2, hn2⟩ := U.out.cell d (by omega)
    have KI := Keep.mk (refInto g1 g2 (t + 1) (F2 y) (F2 d) wr.drew bl1.drew bl2.drew (by omega))
    have HF : Keep (foStep FE F1 ⟨d, bd, rt⟩ = fun u => if u = y then (fun x => F2 y x || F2 d x) else F2 u) := ⟨by unfold foStep fInto; dsimp only; rw [← HV2.out, eg1.out]; simp⟩
    have HG1 := Keep.mk hg1
    have n1 := NB.out j
    clear bl1 bl2 hg1 hg2 hn2 hB2 eg1
    have l1 : (0:Int) ≤ j := by omega
    have l2 : ¬ ((j : Int) + 1 < bd.length) := by omega
    clear ej
    have l3 : (j : Int) < bd.length := by omega
    obtain ⟨wo, rfl⟩ : ∃ wo : World, wo = wr := ⟨_, rfl⟩
    go_upto_region 24 with fail
    have hw : IntKind.i64.wrap ((bd.length : Int) - 1) = (j : Int) := by rw [IntKind.wrap_i64]; omega
    have hw2 : IntKind.i64.wrap (j : Int) = (j : Int) := by rw [IntKind.wrap_i64]; omega
    go_region_held3 (fun w' => w'.cell? (a2.add j) = some (.int .i64 y) ∧ w'.cell? ⟨w.heap.size, 3, none⟩ = some (.slice (some ad) ps.length c) ∧ w'.cell? (ad.add (i * 3)) = some (.int .i64 d) ∧ w'.cell? ⟨go, y, none⟩ = some (.slice (some ⟨g1, 0, none⟩) (t + 1) (t + 1)) ∧ w'.cell? ⟨go, d, none⟩ = some (.slice (some ⟨g2, 0, none⟩) (t + 1) (t + 1)))
      (first | exact ⟨hc1, q3, c0, o1, o2⟩ | exact ⟨s0', s1', s2', s3', s4'⟩) (first
      | (go_at_call 47; refine KI.out.mono ?_; rintro e w9 ⟨⟨v9, rfl⟩, hb9, hk9, hl9⟩; have Z9 : Keep (Below w3.heap.size wo w9) := ⟨below_step (below_drew1 (Below.refl _ _)) (hl9 _ hB1) (Nat.le_refl _)⟩; have s0' := cell_below hc1 Z9.out n1; have s1' := cell_below q3 Z9.out nw; have s2' := cell_below c0 Z9.out nd3; have s3' := (cell_of_heap (w := wo) (a := ⟨go, y, none⟩) (hk9 go hn1)).trans o1; have s4' := (cell_of_heap (w := wo) (a := ⟨go, d, none⟩) (hk9 go hn1)).trans o2; have U9 := Keep.mk (U.out.put HG1.out hb9 hk9); clear hb9 hk9 hl9))
    all_goals (
      have Z3 : Keep (Below w3.heap.size w3 w9) := ⟨Z.out.trans Z9.out⟩
      have U3 : Keep (Fm w9 w3.heap.size (.slice (some ⟨go, 0, none⟩) k co) k (t + 1) gs ((ps.take (i + 1)).foldl (foStep FE) F0)) := ⟨by rw [HU2.out, HF.out]; exact U9.out⟩
      clear hw hw2 U KI hc1 q3 c0 o1 o2 s0' s1' s2' s3' s4' U9
      go_wp2
      go_roundg (ps.length - (i + 1))
      case measure => omega
      case rel => exact ⟨i + 1, by omega, by omega, by go_num, U3, Z3⟩)
end Go.Proofs.Ytofidghilcbegaa.H
namespace Go.Proofs.Ytofidghilcbegaa.H
open Go.RowKit
set_option linter.unusedVariables false
set_option linter.unusedSimpArgs false
theorem TwG.below {w w' : World} {B : Nat} {g : Gr} {A : Option Addr} {c : Nat} (h : TwG w B g A c) (hb : Below w.heap.size w w') : TwG w' B g A c := by
  obtain ⟨⟨m, hm, ho, hx⟩⟩ := h
  exact ⟨⟨m, hm, own_below ho hb, fun x hxm => own_below (hx x hxm) hb⟩⟩
theorem big_small {g : Gr} (h : bigB g = false) : g.ps.length ≤ 100000 ∧ ∀ p ∈ g.ps, p.body.length ≤ 100000 := by
  unfold bigB sizeOfGr at h
  simp only [decide_eq_false_iff_not] at h
  have hm : ∀ (l : List Pr), ∀ p ∈ l, p.body.length ≤ (l.map (·.body.length)).sum := by
    intro l
    induction l with
    | nil => intro p hp; cases hp
    | cons q l ih =>
      intro p hp
      simp only [List.map_cons, List.sum_cons]
      rcases List.mem_cons.1 hp with rfl | hp
      · omega
      · have := ih p hp; omega
  refine ⟨by omega, fun p hp => ?_⟩
  have := hm g.ps p hp
  omega
end Go.Proofs.Ytofidghilcbegaa.H
namespace Go.Proofs.Ytofidghilcbegaa.H
open Go.RowKit
set_option linter.unusedVariables false
set_option linter.unusedSimpArgs false
set_option maxRecDepth 100000 in
set_option maxHeartbeats 8000000 in
theorem follows_law (g : Gr) (s : Int) (A : Option Addr) (c : Nat) (w : World) (h : GrIn w g A c) :
    Calls Try.prog 5 #[grV g A c, .int .i64 s] w fun e w' => e = .returned (.bool true) ∧ Below w.heap.size w w' := by
  have H0 := Keep.mk h
  clear h
  have KB := Keep.mk fun W (hW : Below w.heap.size w W) => big_any g A c W (H0.out.below hW)
  have KR := Keep.mk fun W (hW : Below w.heap.size w W) => refFollow_any g s A c W (H0.out.below hW)
  cases hBig : bigB g with
  | true =>
    rw [hBig] at KB
    clear hBig H0 KR
    obtain ⟨T, S, st, ps⟩ := g
    unfold grV at *
    dsimp only at *
    have B0 : Keep (Below w.heap.size w (w.alloc (.cells #[.int .i64 T, .int .i64 S, .int .i64 st, .slice A ps.length c] 24))) := ⟨(Below.refl _ _).alloc (Nat.le_refl _) _⟩
    go_enter Try.func5, Try.ntmps5
    go_wp2_with fail
    refine (KB.out _ B0.out).mono ?_
    rintro e w1 ⟨rfl, hb⟩
    have B1 : Keep (Below w.heap.size w w1) := ⟨below_step B0.out hb B0.out.size⟩
    clear hb
    go_wp2
    go_ret
    exact ⟨rfl, B1.out⟩
  | false =>
    obtain ⟨hs1, hs2⟩ := big_small hBig
    rw [hBig] at KB
    have KT := Keep.mk fun W (hW : Below w.heap.size w W) => twinGrammar_any g A c W (H0.out.below hW) hs1 hs2
    have KXt := Keep.mk fun W A' c' (hg : GrIn W g A' c') => follow_any g s A' c' W hg
    have KLt := Keep.mk fun W A' c' B (hg : TwG W B g A' c') (hW : Below w.heap.size w W) => leftGrammar_true g A' A c' c B W hg (H0.out.below hW) hs2
    have KOp := Keep.mk fun W A' c' B (hg : TwG W B g A' c') => twG_open hg hs2
    have KLn : Keep ((followR g s).1.length ≤ 9223372036854775807 ∨ True) := ⟨.inr trivial⟩
    generalize followR g s = R at *
    obtain ⟨L, E⟩ := R
    have tE1 : ((E : Int) != E) = false := by simp
    have tE2 : ((E : Int) == E) = true := by simp
    clear hBig hs1 hs2 KLn
    obtain ⟨T, S, st, ps⟩ := g
    unfold grV at *
    dsimp only at *
    have B0 : Keep (Below w.heap.size w (w.alloc (.cells #[.int .i64 T, .int .i64 S, .int .i64 st, .slice A ps.length c] 24))) := ⟨(Below.refl _ _).alloc (Nat.le_refl _) _⟩
    have BG : Keep (Blk (w.alloc (.cells #[.int .i64 T, .int .i64 S, .int .i64 st, .slice A ps.length c] 24)) w.heap.size 24 #[.int .i64 T, .int .i64 S, .int .i64 st, .slice A ps.length c]) := ⟨Blk.new _ _ _⟩
    go_enter Try.func5, Try.ntmps5
    go_wp2_with fail
    refine (KB.out _ B0.out).mono ?_
    rintro e w1 ⟨rfl, hb⟩
    have B1 : Keep (Below w.heap.size w w1) := ⟨below_step B0.out hb B0.out.size⟩
    have BG1 := Keep.mk (BG.out.below hb BG.out.lt)
    clear hb B0 BG KB
    have q0 := BG1.out.cell 0
    have q1 := BG1.out.cell 1
    have q2 := BG1.out.cell 2
    have q3 := BG1.out.cell 3
    simp at q0 q1 q2 q3
    have n0 : w.heap.size < w1.heap.size := BG1.out.lt
    go_wp2_with fail
    refine (KT.out _ B1.out).mono ?_
    rintro e w2 ⟨At, ct, rfl, hT, hb⟩
    have B2 : Keep (Below w.heap.size w w2) := ⟨below_step B1.out hb B1.out.size⟩
    have BG2 := Keep.mk (BG1.out.below hb BG1.out.lt)
    have TW2 := Keep.mk hT
    clear hb hT KT BG1 q0 q1 q2 q3 n0
    obtain ⟨w3, hw3⟩ : ∃ w3 : World, w3 = w2.alloc (.cells #[.int .i64 T, .int .i64 S, .int .i64 st, .slice At ps.length ct] 24) := ⟨_, rfl⟩
    have B3 : Keep (Below w.heap.size w w3) := ⟨by rw [hw3]; exact B2.out.alloc B2.out.size _⟩
    have BG3 : Keep (Blk w3 w.heap.size 24 #[.int .i64 T, .int .i64 S, .int .i64 st, .slice A ps.length c]) := ⟨by rw [hw3]; exact BG2.out.alloc _⟩
    have BT3 : Keep (Blk w3 w2.heap.size 24 #[.int .i64 T, .int .i64 S, .int .i64 st, .slice At ps.length ct]) := ⟨by rw [hw3]; exact Blk.new _ _ _⟩
    have TW3 : Keep (TwG w3 _ ⟨T, S, st, ps⟩ At ct) := ⟨by rw [hw3]; exact TW2.out.below ((Below.refl _ _).alloc (Nat.le_refl _) _)⟩
    have KXa := Keep.mk fun W (hW : Below w3.heap.size w3 W) => KXt.out W At ct (by obtain ⟨_, _, _, _, _, h, _⟩ := KOp.out _ _ _ _ (TW3.out.below hW); exact h)
    have KRa := Keep.mk fun W (hW : Below w3.heap.size w3 W) => KR.out W (below_step B3.out hW B3.out.size)
    have KLa := Keep.mk fun W (hW : Below w3.heap.size w3 W) => KLt.out W At ct _ (TW3.out.below hW) (below_step B3.out hW B3.out.size)
    clear KXt KR KLt KOp TW2 B2 BG2 TW3
    generalize hgT : w2.heap.size = gT at *
    go_upto_region 4 with fail
    rw [← hw3]
    clear hw3 hgT
    have Q : Keep (∀ W, Below w3.heap.size w3 W → W.cell? ⟨w.heap.size, 0, none⟩ = some (.int .i64 T) ∧ W.cell? ⟨w.heap.size, 1, none⟩ = some (.int .i64 S) ∧ W.cell? ⟨w.heap.size, 2, none⟩ = some (.int .i64 st) ∧ W.cell? ⟨w.heap.size, 3, none⟩ = some (.slice A ps.length c) ∧
        W.cell? ⟨gT, 0, none⟩ = some (.int .i64 T) ∧ W.cell? ⟨gT, 1, none⟩ = some (.int .i64 S) ∧ W.cell? ⟨gT, 2, none⟩ = some (.int .i64 st) ∧ W.cell? ⟨gT, 3, none⟩ = some (.slice At ps.length ct)) := ⟨fun W hW => by
      have a := BG3.out.below hW BG3.out.lt
      have b := BT3.out.below hW BT3.out.lt
      refine ⟨?_, ?_, ?_, ?_, ?_, ?_, ?_, ?_⟩
      · simpa using a.cell 0
      · simpa using a.cell 1
      · simpa using a.cell 2
      · simpa using a.cell 3
      · simpa using b.cell 0
      · simpa using b.cell 1
      · simpa using b.cell 2
      · simpa using b.cell 3⟩
    clear BG3 BT3
    have Z3 : Keep (Below w3.heap.size w3 w3) := ⟨Below.refl _ _⟩
    obtain ⟨q0, q1, q2, q3, r0, r1, r2, r3⟩ := Q.out _ Z3.out
    go_wp2_with fail
    refine (KXa.out _ Z3.out).mono ?_
    rintro e w4 ⟨v1, rfl, ho1, hb⟩
    have Z4 : Keep (Below w3.heap.size w3 w4) := ⟨hb⟩
    obtain ⟨A1, c1, rfl, hc11, hc12, hr1, ha1, hn1⟩ := ho1.open_
    have O1 := Keep.mk ho1
    have R1 := Keep.mk hr1
    have M1 : L.length ≤ 9223372036854775807 := by dsimp only at hc11; unfold maxLen at hc12; omega
    clear hb ho1 hr1 ha1 hn1 q0 q1 q2 q3 r0 r1 r2 r3
    obtain ⟨q0, q1, q2, q3, r0, r1, r2, r3⟩ := Q.out _ Z4.out
    go_wp2_with fail
    refine (KRa.out _ Z4.out).mono ?_
    rintro e w5 ⟨v2, rfl, ho2, hb⟩
    have Z5 : Keep (Below w3.heap.size w3 w5) := ⟨below_step Z4.out hb Z4.out.size⟩
    have O15 := Keep.mk (O1.out.below hb)
    have R15 := Keep.mk ((R1.out.below hb).mono hb.size)
    have L1 : Keep (∀ A0 n0 c0, Value.slice A1 L.length c1 = .slice (some A0) n0 c0 → A0.block < w4.heap.size) := ⟨fun A0 n0 c0 he => by
      have h := O1.out
      rw [he] at h
      exact h.lt_block⟩
    have S45 : Keep (w4.heap.size ≤ w5.heap.size) := ⟨hb.size⟩
    obtain ⟨A2, c2, rfl, hc21, hc22, hr2, ha2, hn2⟩ := ho2.open_
    have O2 := Keep.mk ho2
    have R2 := Keep.mk hr2
    clear hb ho2 hr2 ha2 hn2 q0 q1 q2 q3 r0 r1 r2 r3 O1 R1
    obtain ⟨q0, q1, q2, q3, r0, r1, r2, r3⟩ := Q.out _ Z5.out
    have KS := Keep.mk (sameInts A1 A2 L.length L.length c1 c2 L L w5 rfl rfl M1 R15.out R2.out)
    rw [show decide (L = L) = true from by simp] at KS
    go_wp2_with fail
    refine KS.out.mono ?_
    rintro e w6 ⟨rfl, n6, rfl⟩
    have Z6 : Keep (Below w3.heap.size w3 (w5.drewN n6)) := ⟨below_drewN Z5.out n6⟩
    go_wp2_with fail
    refine (KLa.out _ Z6.out).mono ?_
    rintro e w7 ⟨rfl, hb⟩
    have Z7 : Keep (Below w3.heap.size w3 w7) := ⟨below_step Z6.out hb Z6.out.size⟩
    have O17 := Keep.mk (O15.out.below ((below_drewN (Below.refl _ _) n6).trans hb))
    have O27 := Keep.mk (O2.out.below ((below_drewN (Below.refl _ _) n6).trans hb))
    clear hb q0 q1 q2 q3 r0 r1 r2 r3 O15 O2 R15 R2
    have KM := Keep.mk (markInts_any _ L w3.heap.size w7 O17.out Z7.out.size)
    go_wp2_with fail
    refine KM.out.mono ?_
    rintro e w8 ⟨rfl, hb, hk⟩
    have Z8 : Keep (Below w3.heap.size w3 w8) := ⟨Z7.out.trans hb⟩
    have O28 := Keep.mk (O27.out.keep (hk _ L1.out))
    clear hb hk O17 O27
    obtain ⟨q0, q1, q2, q3, r0, r1, r2, r3⟩ := Q.out _ Z8.out
    go_wp2_with fail
    refine (KXa.out _ Z8.out).mono ?_
    rintro e w9 ⟨v3, rfl, ho3, hb⟩
    have Z9 : Keep (Below w3.heap.size w3 w9) := ⟨below_step Z8.out hb Z8.out.size⟩
    obtain ⟨A3, c3, rfl, hc31, hc32, hr3, ha3, hn3⟩ := ho3.open_
    have O29 := Keep.mk (O28.out.below hb)
    obtain ⟨A2', c2', he2, _, _, hr2, _, _⟩ := O29.out.open_
    cases he2
    have KS2 := Keep.mk (sameInts A3 A2 L.length L.length c3 c2 L L w9 rfl rfl M1 hr3 hr2)
    rw [show decide (L = L) = true from by simp] at KS2
    clear hb ho3 hr3 ha3 hn3 hr2
    go_wp2_with (first
      | (go_at_call 20; refine KS2.out.mono ?_; rintro e w10 ⟨rfl, n10, rfl⟩)
      | (go_at_call 14; refine (alive_any _).mono ?_; rintro e w11 ⟨rfl, hb11⟩))
    go_ret
    refine ⟨rfl, ?_⟩
    exact below_step B3.out (below_step (below_drewN Z9.out _) hb11 (below_drewN Z9.out _).size) B3.out.size
end Go.Proofs.Ytofidghilcbegaa.H
