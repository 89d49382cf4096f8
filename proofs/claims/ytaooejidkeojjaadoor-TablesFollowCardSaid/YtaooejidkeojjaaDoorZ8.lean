import Derived.Test.YtaooejidkeojjaaDoorZ4
import Derived.Test.YtaooejidkeojjaaDoorZ7
import Derived.Test.YtaooejidkeojjaaDoorRows
import Derived.Test.YtaooejidkeojjaaDoorZ1
import Derived.LaidMore
import Derived.Stop.Joined
namespace Go.Proofs.YtaooejidkeojjaaDoor.H
set_option linter.unusedVariables false
set_option linter.unusedSimpArgs false
theorem Cl.some {g : Gr} {F : List Nat} {B B' : Nat → Nat → Prop} (h : ∀ n a, B n a → ∃ b, B' n b) {n a : Nat} (hc : Cl g F B n a) : ∃ b, Cl g F B' n b := by
  induction hc with
  | base h1 => obtain ⟨b, hb⟩ := h _ _ h1; exact ⟨b, .base hb⟩
  | @step n a p b h1 hp hh hs ih =>
    obtain ⟨c, hc⟩ := ih
    by_cases e : 0 ≤ nextS g (n + 1)
    · rw [if_pos e] at hs
      exact ⟨b, .step hc hp hh (by rw [if_pos e]; exact hs)⟩
    · exact ⟨c, .step hc hp hh (by rw [if_neg e])⟩
theorem stB_some {g : Gr} {core m m' : List Nat} (h' : StOk g core m') : ∀ n a, StB core m n a → ∃ b, StB core m' n b := by
  rintro n a ⟨i, hi, hn, _⟩
  have hm : m'.getD i 0 ≠ 0 := by
    rw [List.getD_eq_getElem?_getD, List.getElem?_eq_getElem (by rw [h'.l]; exact hi)]
    exact h'.nz _ (List.getElem_mem _)
  obtain ⟨b, hb⟩ := bit_of_ne hm
  exact ⟨b, i, hi, hn, hb⟩
theorem close_some {g : Gr} (ok : GrOk g) {F core m m' : List Nat} (hF : ∀ x ∈ F, x < 2 ^ 64) (h : StOk g core m) (h' : StOk g core m') (n : Nat) (hn : (closeM g F core m).getD n 0 ≠ 0) : (closeM g F core m').getD n 0 ≠ 0 := by
  obtain ⟨a, ha⟩ := bit_of_ne hn
  obtain ⟨b, hb⟩ := Cl.some (stB_some (m := m) h') (((close_spec ok hF h).2.2 n a).1 ha)
  exact ne_of_bit (((close_spec ok hF h').2.2 n b).2 hb)
theorem nx_same {g : Gr} (ok : GrOk g) {F core m m' : List Nat} (hF : ∀ x ∈ F, x < 2 ^ 64) (h : StOk g core m) (h' : StOk g core m') (sym : Nat) : nxCore g (closeM g F core m) sym = nxCore g (closeM g F core m') sym := by
  unfold nxCore nxSel
  congr 1
  refine List.filter_congr fun n _ => ?_
  rw [decide_eq_decide]
  exact ⟨fun ⟨a, b⟩ => ⟨close_some ok hF h h' n a, b⟩, fun ⟨a, b⟩ => ⟨close_some ok hF h' h n a, b⟩⟩
structure Way (g : Gr) (F : List Nat) (l : List StD) (k : Nat) : Prop where
  nd : ∀ i j, i < l.length → j < l.length → (stAt l i).core = (stAt l j).core → i = j
  p : 0 < l.length
  fst : (stAt l 0).core = [offS g g.ps.length]
  led : ∀ i, i < l.length → ∀ sym, sym < g.S.toNat → (stAt l i).led.getD sym (-1) = -1 ∨ ∃ m, m < l.length ∧ (stAt l i).led.getD sym (-1) = (m : Int) ∧ (stAt l m).core = nxCore g (closeM g F (stAt l i).core (stAt l i).mask) sym ∧ (stAt l m).core ≠ []
  by_ : ∀ m, 0 < m → m < k → ∃ i sym, i < m ∧ sym < g.S.toNat ∧ (stAt l i).led.getD sym (-1) = (m : Int)
theorem stAt_put {at_ sym n : Nat} {u : GrS} {m : List Nat} (hat : at_ < u.sts.length) (hn : n < u.sts.length) (j : Nat) :
    (stAt (growPut at_ sym u n m).sts j).core = (stAt u.sts j).core ∧ (stAt (growPut at_ sym u n m).sts j).led = (if j = at_ then (stAt u.sts at_).led.set sym (n : Int) else (stAt u.sts j).led) ∧
    (stAt (growPut at_ sym u n m).sts j).mask = if j = n then joinM (stAt u.sts n).mask m else (stAt u.sts j).mask := by
  unfold growPut setMask
  dsimp only
  rw [stAt_set (by rw [setTo_len]; exact hn)]
  have e1 : ∀ i, stAt (setTo u.sts at_ sym n) i = if i = at_ then { stAt u.sts at_ with led := (stAt u.sts at_).led.set sym (n : Int) } else stAt u.sts i := fun i => by unfold setTo; rw [stAt_set hat]
  by_cases h1 : j = n
  · rw [if_pos h1, if_pos h1]
    subst h1
    rw [e1]
    by_cases h2 : j = at_
    · subst h2; simp
    · simp [h2]
  · rw [if_neg h1, if_neg h1, e1]
    by_cases h2 : j = at_
    · subst h2; simp
    · simp [h2]
theorem led_set {l : List Int} {sym s' : Nat} {v : Int} (h : sym < l.length) : (l.set sym v).getD s' (-1) = if s' = sym then v else l.getD s' (-1) := by
  rw [List.getD_eq_getElem?_getD, List.getElem?_set]
  by_cases e : sym = s'
  · subst e; simp [h]
  · rw [if_neg e, if_neg (fun x => e x.symm), List.getD_eq_getElem?_getD]
theorem growPut_way {g : Gr} (ok : GrOk g) {F : List Nat} (hF : ∀ x ∈ F, x < 2 ^ 64) {at_ sym n k : Nat} {u : GrS} {m : List Nat} (h : GsOk g u) (w : Way g F u.sts k) (hat : at_ < u.sts.length) (hn : n < u.sts.length) (hs : sym < g.S.toNat)
    (hc : (stAt u.sts n).core = nxCore g (closeM g F (stAt u.sts at_).core (stAt u.sts at_).mask) sym) (hne : (stAt u.sts n).core ≠ []) (hl : m.length = (stAt u.sts n).mask.length) (hb : ∀ y ∈ m, y < 2 ^ 64) :
    Way g F (growPut at_ sym u n m).sts k ∧ (stAt (growPut at_ sym u n m).sts at_).led.getD sym (-1) = (n : Int) := by
  have len := growPut_sts at_ sym u n m
  have P := fun j => stAt_put (sym := sym) (m := m) hat hn j
  have ll : (stAt u.sts at_).led.length = g.S.toNat := (h.ok _ (stAt_mem hat)).2.2
  have L : ∀ j s', (stAt (growPut at_ sym u n m).sts j).led.getD s' (-1) = if j = at_ ∧ s' = sym then (n : Int) else (stAt u.sts j).led.getD s' (-1) := fun j s' => by
    rw [(P j).2.1]
    by_cases e : j = at_
    · subst e
      rw [if_pos rfl, led_set (by omega)]
      by_cases e2 : s' = sym
      · rw [if_pos e2, if_pos ⟨rfl, e2⟩]
      · rw [if_neg e2, if_neg (fun x => e2 x.2)]
    · rw [if_neg e, if_neg (fun x => e x.1)]
  have so : ∀ j, j < u.sts.length → StOk g (stAt u.sts j).core (stAt (growPut at_ sym u n m).sts j).mask := fun j hj => by
    rw [(P j).2.2]
    by_cases e : j = n
    · subst e; rw [if_pos rfl]; exact stOk_join (h.ok _ (stAt_mem hj)).1 hl hb
    · rw [if_neg e]; exact (h.ok _ (stAt_mem hj)).1
  have N : ∀ j, j < u.sts.length → ∀ s', nxCore g (closeM g F (stAt (growPut at_ sym u n m).sts j).core (stAt (growPut at_ sym u n m).sts j).mask) s' = nxCore g (closeM g F (stAt u.sts j).core (stAt u.sts j).mask) s' := fun j hj s' => by
    rw [(P j).1]
    exact nx_same ok hF (so j hj) (h.ok _ (stAt_mem hj)).1 s'
  refine ⟨⟨fun i j hi hj e => ?_, by rw [len]; exact w.p, by rw [(P 0).1]; exact w.fst, fun i hi s' hs' => ?_, fun q h0 hq => ?_⟩, by rw [L, if_pos ⟨rfl, rfl⟩]⟩
  · rw [len] at hi hj
    rw [(P i).1, (P j).1] at e
    exact w.nd i j hi hj e
  · rw [len] at hi ⊢
    rw [L, N i hi]
    by_cases e : i = at_ ∧ s' = sym
    · rw [if_pos e, e.1, e.2]
      exact .inr ⟨n, hn, rfl, by rw [(P n).1]; exact hc, by rw [(P n).1]; exact hne⟩
    · rw [if_neg e]
      rcases w.led i hi s' hs' with h1 | ⟨q, h1, h2, h3, h4⟩
      · exact .inl h1
      · exact .inr ⟨q, h1, h2, by rw [(P q).1]; exact h3, by rw [(P q).1]; exact h4⟩
  · obtain ⟨i, s', h1, h2, h3⟩ := w.by_ q h0 hq
    refine ⟨i, s', h1, h2, ?_⟩
    rw [L]
    by_cases e : i = at_ ∧ s' = sym
    · rw [if_pos e]
      obtain ⟨rfl, rfl⟩ := e
      rcases w.led i hat s' hs with h4 | ⟨q2, h4, h5, h6, _⟩
      · rw [h3] at h4; omega
      · rw [h3] at h5
        have : q = q2 := by omega
        subst this
        rw [w.nd n q hn h4 (by rw [h6, hc])]
    · rw [if_neg e]; exact h3
theorem stAt_app (l : List StD) (s : StD) (i : Nat) : stAt (l ++ [s]) i = if i < l.length then stAt l i else if i = l.length then s else ⟨[], [], []⟩ := by
  unfold stAt
  rw [List.getD_eq_getElem?_getD]
  by_cases h : i < l.length
  · rw [if_pos h, List.getElem?_append_left h, List.getD_eq_getElem?_getD]
  · rw [if_neg h]
    by_cases h2 : i = l.length
    · rw [if_pos h2, h2]; simp
    · rw [if_neg h2, List.getElem?_eq_none (by simp; omega)]; rfl
theorem way_app {g : Gr} {F : List Nat} {l : List StD} {k : Nat} {c m : List Nat} (w : Way g F l k) (hno : ∀ n, n < l.length → (stAt l n).core ≠ c) : Way g F (l ++ [⟨c, m, List.replicate g.S.toNat (-1)⟩]) k := by
  have A := fun i => stAt_app l ⟨c, m, List.replicate g.S.toNat (-1)⟩ i
  have len : (l ++ [(⟨c, m, List.replicate g.S.toNat (-1)⟩ : StD)]).length = l.length + 1 := by rw [List.length_append]; rfl
  refine ⟨fun i j hi hj e => ?_, by omega, by rw [A, if_pos w.p]; exact w.fst, fun i hi s' hs' => ?_, fun q h0 hq => ?_⟩
  · rw [len] at hi hj
    rw [A, A] at e
    by_cases h1 : i < l.length <;> by_cases h2 : j < l.length
    · rw [if_pos h1, if_pos h2] at e; exact w.nd i j h1 h2 e
    · rw [if_pos h1, if_neg h2, if_pos (by omega)] at e; exact absurd e (hno i h1)
    · rw [if_neg h1, if_pos (by omega), if_pos h2] at e; exact absurd e.symm (hno j h2)
    · omega
  · rw [len] at hi ⊢
    rw [A]
    by_cases h1 : i < l.length
    · rw [if_pos h1]
      rcases w.led i h1 s' hs' with h3 | ⟨q, h3, h4, h5, h6⟩
      · exact .inl h3
      · exact .inr ⟨q, by omega, h4, by rw [A, if_pos h3]; exact h5, by rw [A, if_pos h3]; exact h6⟩
    · rw [if_neg h1, if_pos (by omega)]
      left
      show (List.replicate g.S.toNat (-1 : Int)).getD s' (-1) = -1
      rw [List.getD_eq_getElem?_getD, List.getElem?_replicate]
      split <;> rfl
  · obtain ⟨i, s', h1, h2, h3⟩ := w.by_ q h0 hq
    refine ⟨i, s', h1, h2, ?_⟩
    rw [A]
    by_cases h4 : i < l.length
    · rw [if_pos h4]; exact h3
    · exfalso
      have : stAt l i = ⟨[], [], []⟩ := by unfold stAt; rw [List.getD_eq_getElem?_getD, List.getElem?_eq_none (by omega)]; rfl
      rw [this] at h3
      simp at h3
structure GrWy (g : Gr) (F : List Nat) (at_ : Nat) (c : List Nat) (u : GrS) : Prop where
  ok : GsOk g u
  w : Way g F u.sts u.sts.length
  hat : at_ < u.sts.length
  c : (stAt u.sts at_).core = c
theorem growSym_way {g : Gr} (ok : GrOk g) {F : List Nat} (hF : ∀ x ∈ F, x < 2 ^ 64) {at_ : Nat} {c m0 : List Nat} (h0 : StOk g c m0) {sym : Nat} (hs : sym < g.S.toNat) {u : GrS} (h : GrWy g F at_ c u) : GrWy g F at_ c (growSym g (closeM g F c m0) at_ u sym) := by
  have ho := (close_spec ok hF h0).2.1
  obtain ⟨G, _, Gl⟩ := growSym_ok sym ho h.ok h.hat
  have nx := nx_ok (g := g) ho sym
  have same : ∀ m1, StOk g c m1 → nxCore g (closeM g F c m0) sym = nxCore g (closeM g F c m1) sym := fun m1 h1 => nx_same ok hF h0 h1 sym
  suffices key : Way g F (growSym g (closeM g F c m0) at_ u sym).sts (growSym g (closeM g F c m0) at_ u sym).sts.length ∧ (stAt (growSym g (closeM g F c m0) at_ u sym).sts at_).core = c from ⟨G, key.1, Nat.lt_of_lt_of_le h.hat Gl, key.2⟩
  clear G Gl
  refine growSym_cases (fun v => Way g F v.sts v.sts.length ∧ (stAt v.sts at_).core = c) ⟨h.w, h.c⟩ (fun _ => ⟨h.w, h.c⟩) (fun n _ hne hn hc => ?_) (fun _ hne hno h5 => ?_)
  · have hm : (nxMask g (closeM g F c m0) sym).length = (stAt u.sts n).mask.length := by rw [(h.ok.ok _ (stAt_mem hn)).1.l, hc, nx_len]
    have sa := (h.ok.ok _ (stAt_mem h.hat)).1
    rw [h.c] at sa
    have := growPut_way ok hF (sym := sym) h.ok h.w h.hat hn hs (by rw [hc, h.c]; exact same _ sa) (by rw [hc]; exact hne) hm nx.b
    rw [growPut_sts]
    exact ⟨this.1, by rw [(stAt_put h.hat hn at_).1]; exact h.c⟩
  · obtain ⟨u2, hu2⟩ : ∃ u2 : GrS, u2 = ⟨u.sts ++ [⟨nxCore g (closeM g F c m0) sym, nxMask g (closeM g F c m0) sym, List.replicate g.S.toNat (-1)⟩], u.fresh ++ [u.sts.length], false⟩ := ⟨_, rfl⟩
    have len : u2.sts.length = u.sts.length + 1 := by rw [hu2]; simp
    have A : ∀ i, stAt u2.sts i = if i < u.sts.length then stAt u.sts i else if i = u.sts.length then ⟨nxCore g (closeM g F c m0) sym, nxMask g (closeM g F c m0) sym, List.replicate g.S.toNat (-1)⟩ else ⟨[], [], []⟩ := fun i => by rw [hu2]; exact stAt_app _ _ i
    have w2 : Way g F u2.sts u.sts.length := by rw [hu2]; exact way_app h.w hno
    have ok2 : GsOk g u2 := by
      refine ⟨fun s hs => ?_, ?_, fun k hk => ?_⟩
      · rw [hu2] at hs
        rcases List.mem_append.1 hs with hs | hs
        · exact h.ok.ok s hs
        · rw [List.mem_singleton.1 hs]
          exact ⟨nx, List.length_pos_iff.2 hne, List.length_replicate⟩
      · have := h.ok.l
        omega
      · rw [len]
        rw [hu2] at hk
        rcases List.mem_append.1 hk with hk | hk
        · have := h.ok.f k hk; omega
        · rw [List.mem_singleton.1 hk]; omega
    have hat2 : at_ < u2.sts.length := by have := h.hat; omega
    have hn2 : u.sts.length < u2.sts.length := by omega
    have ca : stAt u2.sts at_ = stAt u.sts at_ := by rw [A, if_pos h.hat]
    have cn : stAt u2.sts u.sts.length = ⟨nxCore g (closeM g F c m0) sym, nxMask g (closeM g F c m0) sym, List.replicate g.S.toNat (-1)⟩ := by rw [A, if_neg (Nat.lt_irrefl _), if_pos rfl]
    have sa := (h.ok.ok _ (stAt_mem h.hat)).1
    rw [h.c] at sa
    have W2 := growPut_way ok hF (at_ := at_) (sym := sym) (n := u.sts.length) (m := nxMask g (closeM g F c m0) sym) ok2 w2 hat2 hn2 hs (by rw [cn, ca, h.c]; exact same _ sa) (by rw [cn]; exact hne) (by rw [cn]) nx.b
    rw [← hu2]
    refine ⟨⟨W2.1.nd, W2.1.p, W2.1.fst, W2.1.led, fun q q0 hq => ?_⟩, by rw [(stAt_put hat2 hn2 at_).1, ca]; exact h.c⟩
    rw [growPut_sts, len] at hq
    by_cases e : q < u.sts.length
    · exact W2.1.by_ q q0 e
    · have : q = u.sts.length := by omega
      subst this
      exact ⟨at_, sym, h.hat, hs, W2.2⟩
theorem ofStep_way {g : Gr} (ok : GrOk g) {F : List Nat} (hF : ∀ x ∈ F, x < 2 ^ 64) {u : OfS} (h : OfOk g u) (w : Way g F u.sts u.sts.length) (hne : u.todo ≠ []) : Way g F (ofStep g F u).sts (ofStep g F u).sts.length := by
  obtain ⟨sts, todo, full⟩ := u
  cases todo with
  | nil => exact absurd rfl hne
  | cons a rest =>
    have hat : a < sts.length := h.t a List.mem_cons_self
    have h0 : GsOk g ⟨sts, [], false⟩ := ⟨h.ok, h.l, fun n hn => absurd hn (by simp)⟩
    have sa := (h.ok _ (stAt_mem (l := sts) hat)).1
    have key : ∀ k, k ≤ g.S.toNat → GrWy g F a (stAt sts a).core (growTo g F a sts k) := by
      intro k
      induction k with
      | zero => intro _; exact ⟨h0, w, hat, rfl⟩
      | succ k ih =>
        intro hk
        rw [growTo_succ]
        exact growSym_way ok hF sa (by omega) (ih (by omega))
    exact (key g.S.toNat (Nat.le_refl _)).w
theorem start0_way {g : Gr} (F : List Nat) : Way g F (start0 g).sts (start0 g).sts.length := by
  have len : (start0 g).sts.length = 1 := rfl
  refine ⟨fun i j hi hj _ => by omega, by omega, rfl, fun i hi s' _ => ?_, fun q h0 hq => by omega⟩
  have : i = 0 := by omega
  subst this
  left
  show (List.replicate g.S.toNat (-1 : Int)).getD s' (-1) = -1
  rw [List.getD_eq_getElem?_getD, List.getElem?_replicate]
  split <;> rfl
theorem states_way {g : Gr} (h : GrFit g) : Way g (firstEnd g) (statesM g).sts (statesM g).sts.length := by
  have fs := first_spec h
  exact (ofRun_ind h.ok fs.2.1 (fun u => Way g (firstEnd g) u.sts u.sts.length) (fun u hu hw _ hne => ofStep_way h.ok fs.2.1 hu hw hne) (ofMu g (start0 g)) (start0 g) (Nat.le_refl _) (start0_ok h.ok) (start0_way _)).2.1
end Go.Proofs.YtaooejidkeojjaaDoor.H
namespace Go.Proofs.YtaooejidkeojjaaDoor.H
set_option linter.unusedVariables false
set_option linter.unusedSimpArgs false
def EndM (g : Gr) (core mask : List Nat) : Prop := ∀ n a, StB core mask n a → offS g g.ps.length ≤ n → a = g.T.toNat
def EndL (g : Gr) (l : List StD) : Prop := ∀ j, j < l.length → EndM g (stAt l j).core (stAt l j).mask
theorem close_end {g : Gr} (ok : GrOk g) {F core mask : List Nat} (hF : ∀ x ∈ F, x < 2 ^ 64) (h : StOk g core mask) (he : EndM g core mask) (n a : Nat) (hb : ((closeM g F core mask).getD n 0).testBit a = true) (hn : offS g g.ps.length ≤ n) : a = g.T.toNat := by
  have h1 := ((close_spec ok hF h).2.2 n a).1 hb
  cases h1 with
  | base hb => exact he n a hb hn
  | @step n a p b h1 hp hh hb =>
    have := offS_lt (g := g) hp
    omega
theorem nx_end {g : Gr} {out : List Nat} (h : ∀ n a, (out.getD n 0).testBit a = true → offS g g.ps.length ≤ n → a = g.T.toNat) (sym : Nat) : EndM g (nxCore g out sym) (nxMask g out sym) := by
  rintro m a ⟨i, hi, hm, hb⟩ hle
  unfold nxCore at hi hm
  unfold nxMask at hb
  rw [List.length_map] at hi
  have hs : (nxSel g out sym (nSp g))[i] ∈ nxSel g out sym (nSp g) := List.getElem_mem hi
  obtain ⟨n, hn⟩ : ∃ n, n = (nxSel g out sym (nSp g))[i] := ⟨_, rfl⟩
  have e1 : m = n + 1 := by
    rw [List.getD_eq_getElem?_getD, List.getElem?_map, List.getElem?_eq_getElem hi] at hm
    rw [hn, ← hm]; rfl
  have e2 : (out.getD n 0).testBit a = true := by
    rw [List.getD_eq_getElem?_getD, List.getElem?_map, List.getElem?_eq_getElem hi] at hb
    rw [hn]; exact hb
  rw [← hn] at hs
  unfold nxSel at hs
  obtain ⟨h1, h2⟩ := List.mem_filter.1 hs
  have h3 := of_decide_eq_true h2
  refine h n a e2 (Classical.byContradiction fun hc => ?_)
  rcases nextS_cases (List.mem_range.1 h1) with ⟨p, _, _, h8⟩ | ⟨p, d, h8, h9, h10, _⟩
  · omega
  · have := off_inj (g := g) (p := p) (d := d + 1) (q := g.ps.length) (e := 0) h9 (Nat.zero_le _) (by omega)
    omega
theorem joinTo_get (a b : List Nat) : ∀ k, k ≤ a.length → ∀ i, (joinTo a b k).getD i 0 = if i < k then a.getD i 0 ||| b.getD i 0 else a.getD i 0 := by
  intro k
  induction k with
  | zero => intro _ i; rw [if_neg (Nat.not_lt_zero _)]; rfl
  | succ k ih =>
    intro hk i
    rw [joinTo_succ, getD_set (by rw [joinTo_len]; omega), joinTo_later a b k k (Nat.le_refl _), ih (by omega)]
    by_cases e : i = k
    · subst e; rw [if_pos rfl, if_pos (Nat.lt_succ_self _)]
    · rw [if_neg e]
      by_cases e2 : i < k
      · rw [if_pos e2, if_pos (by omega)]
      · rw [if_neg e2, if_neg (by omega)]
theorem join_end {g : Gr} {core a b : List Nat} (hl : b.length ≤ a.length) (ha : EndM g core a) (hb : EndM g core b) : EndM g core (joinM a b) := by
  rintro n c ⟨i, hi, hn, h⟩ hle
  unfold joinM at h
  rw [joinTo_get a b _ hl] at h
  split at h
  · rw [Nat.testBit_or, Bool.or_eq_true] at h
    rcases h with h | h
    · exact ha n c ⟨i, hi, hn, h⟩ hle
    · exact hb n c ⟨i, hi, hn, h⟩ hle
  · exact ha n c ⟨i, hi, hn, h⟩ hle
theorem growPut_end {g : Gr} {at_ sym n : Nat} {u : GrS} {m : List Nat} (h : EndL g u.sts) (hat : at_ < u.sts.length) (hn : n < u.sts.length) (hm : EndM g (stAt u.sts n).core m) (hl : m.length ≤ (stAt u.sts n).mask.length) : EndL g (growPut at_ sym u n m).sts := by
  intro j hj
  rw [growPut_sts] at hj
  obtain ⟨p1, _, p3⟩ := stAt_put (sym := sym) (m := m) hat hn j
  rw [p1, p3]
  by_cases e : j = n
  · subst e; rw [if_pos rfl]; exact join_end hl (h j hj) hm
  · rw [if_neg e]; exact h j hj
theorem growSym_end {g : Gr} {out : List Nat} {at_ : Nat} (sym : Nat) {u : GrS} (ho : ∀ n a, (out.getD n 0).testBit a = true → offS g g.ps.length ≤ n → a = g.T.toNat) (h : GsOk g u) (hb : EndL g u.sts) (hat : at_ < u.sts.length) : EndL g (growSym g out at_ u sym).sts := by
  have nx := nx_end (g := g) ho sym
  refine growSym_cases (fun v => EndL g v.sts) hb (fun _ => hb) (fun n _ hne hn hc => ?_) (fun _ hne hno h5 => ?_)
  · exact growPut_end hb hat hn (by rw [hc]; exact nx) (by rw [(h.ok _ (stAt_mem hn)).1.l, hc, nx_len]; exact Nat.le_refl _)
  · have A := fun i => stAt_app u.sts ⟨nxCore g out sym, nxMask g out sym, List.replicate g.S.toNat (-1)⟩ i
    refine growPut_end (fun j hj => ?_) (by show at_ < (u.sts ++ [_]).length; rw [List.length_append]; omega) (by show _ < (u.sts ++ [_]).length; simp) ?_ ?_
    · have hj : j < u.sts.length + 1 := by simpa using hj
      show EndM g (stAt (u.sts ++ [_]) j).core (stAt (u.sts ++ [_]) j).mask
      rw [A]
      by_cases e : j < u.sts.length
      · rw [if_pos e]; exact hb j e
      · rw [if_neg e, if_pos (by omega)]; exact nx
    · show EndM g (stAt (u.sts ++ [_]) u.sts.length).core _
      rw [A, if_neg (Nat.lt_irrefl _), if_pos rfl]; exact nx
    · show _ ≤ (stAt (u.sts ++ [_]) u.sts.length).mask.length
      rw [A, if_neg (Nat.lt_irrefl _), if_pos rfl]; exact Nat.le_refl _
theorem ofStep_end {g : Gr} {F : List Nat} (ok : GrOk g) (hF : ∀ x ∈ F, x < 2 ^ 64) {u : OfS} (h : OfOk g u) (hb : EndL g u.sts) (hne : u.todo ≠ []) : EndL g (ofStep g F u).sts := by
  obtain ⟨sts, todo, full⟩ := u
  cases todo with
  | nil => exact absurd rfl hne
  | cons a rest =>
    have hat : a < sts.length := h.t a List.mem_cons_self
    have h0 : GsOk g ⟨sts, [], false⟩ := ⟨h.ok, h.l, fun n hn => absurd hn (by simp)⟩
    have sa := (h.ok _ (stAt_mem (l := sts) hat)).1
    have key : ∀ k, EndL g (growTo g F a sts k).sts := by
      intro k
      induction k with
      | zero => exact hb
      | succ k ih =>
        rw [growTo_succ]
        obtain ⟨a1, _, a3⟩ := growTo_ok ok hF h0 hat k
        exact growSym_end k (fun n b => close_end ok hF sa (hb a hat) n b) a1 ih (by omega)
    exact key _
theorem start0_end (g : Gr) : EndL g (start0 g).sts := by
  intro j hj n a ⟨i, hi, hn, hb⟩ _
  have : j = 0 := by have : j < 1 := hj; omega
  subst this
  have : i = 0 := by have : i < 1 := hi; omega
  subst this
  have hb : (2 ^ g.T.toNat).testBit a = true := hb
  rw [Nat.testBit_two_pow] at hb
  exact (of_decide_eq_true hb).symm
theorem states_end {g : Gr} (h : GrFit g) : EndL g (statesM g).sts := by
  have fs := first_spec h
  exact (ofRun_ind h.ok fs.2.1 (fun u => EndL g u.sts) (fun u hu hw _ hne => ofStep_end h.ok fs.2.1 hu hw hne) (ofMu g (start0 g)) (start0 g) (Nat.le_refl _) (start0_ok h.ok) (start0_end g)).2.1
theorem acts_len (g : Gr) (F : List Nat) (s : StD) : (actsM g F s).length = g.T.toNat + 1 := by simp [actsM]
theorem acts_at (g : Gr) (F : List Nat) (s : StD) {a : Nat} (h : a ≤ g.T.toNat) : (actsM g F s)[a]? = some (rowP g s (closeM g F s.core s.mask) (g.ps.length + 1) a) := by
  unfold actsM
  rw [List.getElem?_map, List.getElem?_range (by omega)]; rfl
theorem filt_sorted (f : Nat → Bool) (n : Nat) : ((List.range n).filter f).Pairwise (· < ·) := (List.pairwise_lt_range (n := n)).filter f
theorem rd_ok (g : Gr) (s : StD) (out : List Nat) (a i : Nat) (hi : i < (rowP g s out (g.ps.length + 1) a).rd.length) :
    0 ≤ (rowP g s out (g.ps.length + 1) a).rd.getD i 0 ∧ (rowP g s out (g.ps.length + 1) a).rd.getD i 0 < g.ps.length ∧ (0 < i → (rowP g s out (g.ps.length + 1) a).rd.getD (i - 1) 0 < (rowP g s out (g.ps.length + 1) a).rd.getD i 0) := by
  have e : (rowP g s out (g.ps.length + 1) a).rd = ((List.range g.ps.length).filter fun p => bitE g out p a).map Int.ofNat := by
    unfold rowP
    rw [show min (g.ps.length + 1) g.ps.length = g.ps.length from by omega]
  rw [e] at hi ⊢
  have S := filt_sorted (fun p => bitE g out p a) g.ps.length
  obtain ⟨l, hl⟩ : ∃ l, l = (List.range g.ps.length).filter fun p => bitE g out p a := ⟨_, rfl⟩
  have M : ∀ x ∈ l, x < g.ps.length := fun x hx => by rw [hl] at hx; exact List.mem_range.1 (List.mem_filter.1 hx).1
  rw [← hl] at hi S ⊢
  rw [List.length_map] at hi
  have G : ∀ j, (hj : j < l.length) → (l.map Int.ofNat).getD j 0 = (l[j] : Int) := fun j hj => by
    rw [List.getD_eq_getElem?_getD, List.getElem?_map, List.getElem?_eq_getElem hj]; rfl
  rw [G i hi]
  have := M _ (List.getElem_mem hi)
  refine ⟨by omega, by omega, fun h0 => ?_⟩
  rw [G (i - 1) (by omega)]
  have := List.pairwise_iff_getElem.1 S (i - 1) i (by omega) hi (by omega)
  omega
theorem ac_end {g : Gr} (ok : GrOk g) {F : List Nat} (hF : ∀ x ∈ F, x < 2 ^ 64) {s : StD} (h : StOk g s.core s.mask) (he : EndM g s.core s.mask) {a : Nat} (ha : (rowP g s (closeM g F s.core s.mask) (g.ps.length + 1) a).ac = true) : a = g.T.toNat := by
  unfold rowP at ha
  dsimp only at ha
  rw [Bool.and_eq_true] at ha
  refine close_end ok hF h he _ a ha.2 ?_
  unfold endS
  omega
end Go.Proofs.YtaooejidkeojjaaDoor.H
namespace Go.Proofs.YtaooejidkeojjaaDoor.H
set_option linter.unusedVariables false
set_option linter.unusedSimpArgs false
theorem growSym_cases2 {g : Gr} {out : List Nat} {at_ sym : Nat} {u : GrS} (P : GrS → Prop) (h0 : u.full = true ∨ nxCore g out sym = [] → P u) (hf : P { u with full := true })
    (hc : ∀ n, u.full = false → nxCore g out sym ≠ [] → n < u.sts.length → (stAt u.sts n).core = nxCore g out sym → P (growPut at_ sym u n (nxMask g out sym)))
    (hd : u.full = false → nxCore g out sym ≠ [] → (∀ n, n < u.sts.length → (stAt u.sts n).core ≠ nxCore g out sym) → u.sts.length ≠ 512 →
      P (growPut at_ sym ⟨u.sts ++ [⟨nxCore g out sym, nxMask g out sym, List.replicate g.S.toNat (-1)⟩], u.fresh ++ [u.sts.length], false⟩ u.sts.length (nxMask g out sym))) : P (growSym g out at_ u sym) := by
  by_cases h1 : u.full = true
  · have : growSym g out at_ u sym = u := by unfold growSym; rw [if_pos h1]
    rw [this]; exact h0 (.inl h1)
  by_cases h2 : nxCore g out sym = []
  · have : growSym g out at_ u sym = u := by unfold growSym; rw [if_neg h1, if_pos h2]
    rw [this]; exact h0 (.inr h2)
  have h1 : u.full = false := by simpa using h1
  unfold growSym
  rw [if_neg (by rw [h1]; exact Bool.false_ne_true), if_neg h2]
  cases e : findS u.sts (nxCore g out sym) with
  | some n =>
    have e2 : growFind g u (nxCore g out sym) (nxMask g out sym) = (u, n) := by unfold growFind; rw [e]
    rw [e2]
    obtain ⟨a, b⟩ := findS_some e
    rw [if_neg (by rw [h1]; exact Bool.false_ne_true)]
    exact hc n h1 h2 a b
  | none =>
    by_cases h3 : u.sts.length = 512
    · have e2 : growFind g u (nxCore g out sym) (nxMask g out sym) = ({ u with full := true }, 0) := by unfold growFind; rw [e]; simp only [h3, if_true]
      rw [e2, if_pos rfl]
      exact hf
    · have e2 : growFind g u (nxCore g out sym) (nxMask g out sym) = (⟨u.sts ++ [⟨nxCore g out sym, nxMask g out sym, List.replicate g.S.toNat (-1)⟩], u.fresh ++ [u.sts.length], false⟩, u.sts.length) := by unfold growFind; rw [e]; simp only [h3, if_false]
      rw [e2, if_neg (by exact Bool.false_ne_true)]
      exact hd h1 h2 (findS_none e) h3
def StSub (c m m' : List Nat) : Prop := ∀ n a, StB c m n a → StB c m' n a
theorem StSub.refl (c m : List Nat) : StSub c m m := fun _ _ h => h
theorem join_left {c a b : List Nat} (hl : b.length ≤ a.length) : StSub c a (joinM a b) := by
  rintro n x ⟨i, hi, hn, hb⟩
  refine ⟨i, hi, hn, ?_⟩
  unfold joinM
  rw [joinTo_get a b _ hl]
  split
  · rw [Nat.testBit_or, hb, Bool.true_or]
  · exact hb
theorem join_right {c a b : List Nat} (hl : b.length ≤ a.length) : StSub c b (joinM a b) := by
  rintro n x ⟨i, hi, hn, hb⟩
  refine ⟨i, hi, hn, ?_⟩
  unfold joinM
  rw [joinTo_get a b _ hl]
  split
  · rw [Nat.testBit_or, hb, Bool.or_true]
  · rename_i h
    rw [List.getD_eq_getElem?_getD, List.getElem?_eq_none (by omega)] at hb
    simp at hb
theorem join_same {a b : List Nat} (hl : b.length ≤ a.length) (h : joinB a b b.length = false) : joinM a b = a := by
  have h1 : ∀ i, i < b.length → a.getD i 0 ||| b.getD i 0 = a.getD i 0 := fun i hi => by
    apply Classical.byContradiction
    intro hc
    unfold joinB at h
    have := List.any_eq_false.1 h i (List.mem_range.2 hi)
    exact this (decide_eq_true hc)
  have hlen : (joinTo a b b.length).length = a.length := joinTo_len a b b.length
  unfold joinM
  refine List.ext_getElem hlen fun i h2 h3 => ?_
  have e := joinTo_get a b b.length hl i
  have e1 : (joinTo a b b.length).getD i 0 = (joinTo a b b.length)[i] := by rw [List.getD_eq_getElem?_getD, List.getElem?_eq_getElem h2]; rfl
  have e2 : a.getD i 0 = a[i] := by rw [List.getD_eq_getElem?_getD, List.getElem?_eq_getElem h3]; rfl
  rw [← e1, ← e2, e]
  split
  · rename_i h4; exact h1 i h4
  · rfl
def DoneY (g : Gr) (l : List StD) (i : Nat) (out : List Nat) (sym : Nat) : Prop :=
  nxCore g out sym ≠ [] → ∃ m, m < l.length ∧ (stAt l i).led.getD sym (-1) = (m : Int) ∧ (stAt l m).core = nxCore g out sym ∧ ∀ n a, StB (nxCore g out sym) (nxMask g out sym) n a → StB (stAt l m).core (stAt l m).mask n a
def DoneI (g : Gr) (F : List Nat) (l : List StD) (i : Nat) : Prop := ∀ sym, sym < g.S.toNat → DoneY g l i (closeM g F (stAt l i).core (stAt l i).mask) sym
theorem DoneY.up {g : Gr} {l l' : List StD} {i : Nat} {out : List Nat} {sym : Nat} (h : DoneY g l i out sym) (hlen : l.length ≤ l'.length) (hl : (stAt l' i).led.getD sym (-1) = (stAt l i).led.getD sym (-1)) (hc : ∀ j, j < l.length → (stAt l' j).core = (stAt l j).core)
    (hm : ∀ j, j < l.length → StSub (stAt l j).core (stAt l j).mask (stAt l' j).mask) : DoneY g l' i out sym := by
  intro hne
  obtain ⟨m, h1, h2, h3, h4⟩ := h hne
  refine ⟨m, by omega, by rw [hl]; exact h2, by rw [hc m h1]; exact h3, fun n a hb => ?_⟩
  rw [hc m h1]
  exact hm m h1 n a (h4 n a hb)
structure GrDn (g : Gr) (F : List Nat) (at_ : Nat) (c m0 : List Nat) (rest : List Nat) (k : Nat) (u : GrS) : Prop where
  a : ∀ i, i < u.sts.length → i ≠ at_ → i ∈ rest ∨ i ∈ u.fresh ∨ DoneI g F u.sts i
  b : at_ ∈ u.fresh ∨ (stAt u.sts at_).mask = m0 ∧ ∀ sym, sym < k → DoneY g u.sts at_ (closeM g F c m0) sym
  c : (stAt u.sts at_).core = c
theorem growPut_dn {g : Gr} {F : List Nat} {at_ k n : Nat} {c m0 rest m : List Nat} {u : GrS} (h : GsOk g u) (d : GrDn g F at_ c m0 rest k u) (hat : at_ < u.sts.length) (hn : n < u.sts.length) (hk : k < g.S.toNat)
    (hc : (stAt u.sts n).core = nxCore g (closeM g F c m0) k) (hm : m = nxMask g (closeM g F c m0) k) (hl : m.length = (stAt u.sts n).mask.length) : GrDn g F at_ c m0 rest (k + 1) (growPut at_ k u n m) := by
  have P := fun j => stAt_put (sym := k) (m := m) hat hn j
  have len := growPut_sts at_ k u n m
  have ll : (stAt u.sts at_).led.length = g.S.toNat := (h.ok _ (stAt_mem hat)).2.2
  have hmm : ∀ j, j < u.sts.length → StSub (stAt u.sts j).core (stAt u.sts j).mask (stAt (growPut at_ k u n m).sts j).mask := fun j hj => by
    rw [(P j).2.2]
    by_cases e : j = n
    · rw [if_pos e, e]; exact join_left (by omega)
    · rw [if_neg e]; exact .refl _ _
  have hfr : ∀ j, j ∈ u.fresh → j ∈ (growPut at_ k u n m).fresh := fun j hj => by
    unfold growPut
    dsimp only
    split
    · exact List.mem_append_left _ hj
    · exact hj
  have hsame : ∀ j, j ∈ (growPut at_ k u n m).fresh ∨ (stAt (growPut at_ k u n m).sts j).mask = (stAt u.sts j).mask := fun j => by
    by_cases e : j = n
    · cases hb : joinB (stAt u.sts n).mask m m.length with
      | true =>
        left
        unfold growPut
        dsimp only
        rw [if_pos hb, e]
        exact List.mem_append_right _ (List.mem_singleton.2 rfl)
      | false =>
        right
        rw [(P j).2.2, if_pos e, e]
        exact join_same (by omega) hb
    · right; rw [(P j).2.2, if_neg e]
  refine ⟨fun i hi hne => ?_, ?_, by rw [(P at_).1]; exact d.c⟩
  · rw [len] at hi
    rcases d.a i hi hne with h1 | h1 | h1
    · exact .inl h1
    · exact .inr (.inl (hfr i h1))
    · rcases hsame i with h2 | h2
      · exact .inr (.inl h2)
      · right; right
        intro sym hs
        rw [(P i).1, h2]
        exact (h1 sym hs).up (by omega) (by rw [(P i).2.1, if_neg hne]) (fun j _ => (P j).1) hmm
  · rcases d.b with h1 | ⟨h1, h2⟩
    · exact .inl (hfr _ h1)
    · rcases hsame at_ with h3 | h3
      · exact .inl h3
      · right
        refine ⟨by rw [h3]; exact h1, fun sym hs => ?_⟩
        by_cases e : sym = k
        · subst e
          intro hne
          refine ⟨n, by omega, ?_, by rw [(P n).1]; exact hc, fun x a hb => ?_⟩
          · rw [(P at_).2.1, if_pos rfl, led_set (by omega), if_pos rfl]
          · rw [(P n).1, (P n).2.2, if_pos rfl, hc]
            rw [← hm] at hb
            exact join_right (by omega) x a hb
        · exact (h2 sym (by omega)).up (by omega) (by rw [(P at_).2.1, if_pos rfl, led_set (by omega), if_neg e]) (fun j _ => (P j).1) hmm
theorem growSym_dn {g : Gr} (ok : GrOk g) {F : List Nat} (hF : ∀ x ∈ F, x < 2 ^ 64) {at_ k : Nat} {c m0 rest : List Nat} {u : GrS} (h0 : StOk g c m0) (h : GsOk g u) (d : u.full = true ∨ GrDn g F at_ c m0 rest k u) (hat : at_ < u.sts.length) (hk : k < g.S.toNat) :
    (growSym g (closeM g F c m0) at_ u k).full = true ∨ GrDn g F at_ c m0 rest (k + 1) (growSym g (closeM g F c m0) at_ u k) := by
  have ho := (close_spec ok hF h0).2.1
  have nx := nx_ok (g := g) ho k
  by_cases hfull : u.full = true
  · have : growSym g (closeM g F c m0) at_ u k = u := by unfold growSym; rw [if_pos hfull]
    rw [this]; exact .inl hfull
  have d : GrDn g F at_ c m0 rest k u := by
    rcases d with d | d
    · exact absurd d hfull
    · exact d
  refine growSym_cases2 (fun v => v.full = true ∨ GrDn g F at_ c m0 rest (k + 1) v) (fun hh => ?_) (.inl rfl) (fun n _ hne hn hc => ?_) (fun _ hne hno h5 => ?_)
  · rcases hh with hh | hh
    · exact .inl hh
    · right
      refine ⟨d.a, ?_, d.c⟩
      rcases d.b with h1 | ⟨h1, h2⟩
      · exact .inl h1
      · refine .inr ⟨h1, fun sym hs => ?_⟩
        by_cases e : sym = k
        · subst e; intro hne; exact absurd hh hne
        · exact h2 sym (by omega)
  · exact .inr (growPut_dn h d hat hn hk hc rfl (by rw [(h.ok _ (stAt_mem hn)).1.l, hc, nx_len]))
  · right
    obtain ⟨u2, hu2⟩ : ∃ u2 : GrS, u2 = ⟨u.sts ++ [⟨nxCore g (closeM g F c m0) k, nxMask g (closeM g F c m0) k, List.replicate g.S.toNat (-1)⟩], u.fresh ++ [u.sts.length], false⟩ := ⟨_, rfl⟩
    have len : u2.sts.length = u.sts.length + 1 := by rw [hu2]; simp
    have A : ∀ i, stAt u2.sts i = if i < u.sts.length then stAt u.sts i else if i = u.sts.length then ⟨nxCore g (closeM g F c m0) k, nxMask g (closeM g F c m0) k, List.replicate g.S.toNat (-1)⟩ else ⟨[], [], []⟩ := fun i => by rw [hu2]; exact stAt_app _ _ _
    have ok2 : GsOk g u2 := by
      refine ⟨fun s hs => ?_, ?_, fun k hk => ?_⟩
      · rw [hu2] at hs
        rcases List.mem_append.1 hs with hs | hs
        · exact h.ok s hs
        · rw [List.mem_singleton.1 hs]
          exact ⟨nx, List.length_pos_iff.2 hne, List.length_replicate⟩
      · have := h.l
        omega
      · rw [len]
        rw [hu2] at hk
        rcases List.mem_append.1 hk with hk | hk
        · have := h.f k hk; omega
        · rw [List.mem_singleton.1 hk]; omega
    have d2 : GrDn g F at_ c m0 rest k u2 := by
      have same : ∀ j, j < u.sts.length → stAt u2.sts j = stAt u.sts j := fun j hj => by rw [A, if_pos hj]
      refine ⟨fun i hi hne => ?_, ?_, by rw [same _ hat]; exact d.c⟩
      · by_cases e : i < u.sts.length
        · rcases d.a i e hne with h1 | h1 | h1
          · exact .inl h1
          · refine .inr (.inl ?_); rw [hu2]; exact List.mem_append_left _ h1
          · right; right
            intro sym hs
            rw [same i e]
            exact (h1 sym hs).up (by omega) (by rw [same i e]) (fun j hj => by rw [same j hj]) (fun j hj => by rw [same j hj]; exact .refl _ _)
        · refine .inr (.inl ?_)
          have : i = u.sts.length := by omega
          rw [hu2, this]
          exact List.mem_append_right _ (List.mem_singleton.2 rfl)
      · rcases d.b with h1 | ⟨h1, h2⟩
        · left; rw [hu2]; exact List.mem_append_left _ h1
        · right
          rw [same _ hat]
          exact ⟨h1, fun sym hs => (h2 sym hs).up (by omega) (by rw [same _ hat]) (fun j hj => by rw [same j hj]) (fun j hj => by rw [same j hj]; exact .refl _ _)⟩
    have cn : stAt u2.sts u.sts.length = ⟨nxCore g (closeM g F c m0) k, nxMask g (closeM g F c m0) k, List.replicate g.S.toNat (-1)⟩ := by rw [A, if_neg (Nat.lt_irrefl _), if_pos rfl]
    rw [← hu2]
    exact growPut_dn ok2 d2 (by omega) (by omega) hk (by rw [cn]) rfl (by rw [cn])
def DoneA (g : Gr) (F : List Nat) (u : OfS) : Prop := u.full = true ∨ ∀ i, i < u.sts.length → i ∈ u.todo ∨ DoneI g F u.sts i
theorem ofStep_dn {g : Gr} {F : List Nat} (ok : GrOk g) (hF : ∀ x ∈ F, x < 2 ^ 64) {u : OfS} (h : OfOk g u) (hb : ∀ i, i < u.sts.length → i ∈ u.todo ∨ DoneI g F u.sts i) (hne : u.todo ≠ []) : DoneA g F (ofStep g F u) := by
  obtain ⟨sts, todo, full⟩ := u
  cases todo with
  | nil => exact absurd rfl hne
  | cons a rest =>
    have hat : a < sts.length := h.t a List.mem_cons_self
    have h0 : GsOk g ⟨sts, [], false⟩ := ⟨h.ok, h.l, fun n hn => absurd hn (by simp)⟩
    have sa := (h.ok _ (stAt_mem (l := sts) hat)).1
    have key : ∀ k, k ≤ g.S.toNat → (growTo g F a sts k).full = true ∨ GrDn g F a (stAt sts a).core (stAt sts a).mask rest k (growTo g F a sts k) := by
      intro k
      induction k with
      | zero =>
        intro _
        right
        refine ⟨fun i hi hne => ?_, .inr ⟨rfl, fun sym hs => absurd hs (Nat.not_lt_zero _)⟩, rfl⟩
        rcases hb i hi with h1 | h1
        · rcases List.mem_cons.1 h1 with h1 | h1
          · exact absurd h1 hne
          · exact .inl h1
        · exact .inr (.inr h1)
      | succ k ih =>
        intro hk
        rw [growTo_succ]
        obtain ⟨a1, _, a3⟩ := growTo_ok ok hF h0 hat k
        exact growSym_dn ok hF sa a1 (ih (by omega)) (by omega) (by omega)
    rcases key g.S.toNat (Nat.le_refl _) with h1 | h1
    · exact .inl h1
    · right
      intro i hi
      have hi : i < (growM g F a sts).sts.length := hi
      show i ∈ rest ++ (growM g F a sts).fresh ∨ DoneI g F (growM g F a sts).sts i
      by_cases e : i = a
      · subst e
        rcases h1.b with h2 | ⟨h2, h3⟩
        · exact .inl (List.mem_append_right _ h2)
        · right
          intro sym hs
          have e1 : (stAt (growM g F i sts).sts i).core = (stAt sts i).core := h1.c
          have e2 : (stAt (growM g F i sts).sts i).mask = (stAt sts i).mask := h2
          rw [e1, e2]
          exact h3 sym hs
      · rcases h1.a i hi e with h2 | h2 | h2
        · exact .inl (List.mem_append_left _ h2)
        · exact .inl (List.mem_append_right _ h2)
        · exact .inr h2
theorem states_done {g : Gr} (h : GrFit g) (hf : ¬ (statesM g).full = true) : ∀ i, i < (statesM g).sts.length → DoneI g (firstEnd g) (statesM g).sts i := by
  have fs := first_spec h
  obtain ⟨_, h1, h2⟩ := ofRun_ind h.ok fs.2.1 (fun u => DoneA g (firstEnd g) u) (fun u hu hw hfu hne => by
    rcases hw with hw | hw
    · rw [hfu] at hw; cases hw
    · exact ofStep_dn h.ok fs.2.1 hu hw hne) (ofMu g (start0 g)) (start0 g) (Nat.le_refl _) (start0_ok h.ok) (.inr fun i hi => by
      have : i < 1 := hi
      have : i = 0 := by omega
      subst this
      exact .inl (List.mem_singleton.2 rfl))
  rcases h1 with h1 | h1
  · exact absurd h1 hf
  · intro i hi
    rcases h2 with h2 | h2
    · exact absurd h2 hf
    · rcases h1 i hi with h3 | h3
      · have h2' : (ofRun g (firstEnd g) (ofMu g (start0 g)) (start0 g)).todo = [] := h2
        rw [h2'] at h3
        exact absurd h3 (by simp)
      · exact h3
theorem done_bit {g : Gr} (ok : GrOk g) {F : List Nat} (hF : ∀ x ∈ F, x < 2 ^ 64) {l : List StD} {i : Nat} (hs : StOk g (stAt l i).core (stAt l i).mask) (h : DoneI g F l i) {n a sym : Nat} (hb : Cl g F (StB (stAt l i).core (stAt l i).mask) n a) (hn : nextS g n = (sym : Int)) (hsym : sym < g.S.toNat) :
    ∃ m, m < l.length ∧ (stAt l i).led.getD sym (-1) = (m : Int) ∧ StB (stAt l m).core (stAt l m).mask (n + 1) a := by
  obtain ⟨c1, c2, c3⟩ := close_spec ok hF hs
  have hbit := (c3 n a).2 hb
  have hne : (closeM g F (stAt l i).core (stAt l i).mask).getD n 0 ≠ 0 := ne_of_bit hbit
  have hlt : n < nSp g := by
    apply Classical.byContradiction
    intro hc
    apply hne
    rw [List.getD_eq_getElem?_getD, List.getElem?_eq_none (by omega)]
    rfl
  have hsel : n ∈ nxSel g (closeM g F (stAt l i).core (stAt l i).mask) sym (nSp g) := List.mem_filter.2 ⟨List.mem_range.2 hlt, decide_eq_true ⟨hne, hn⟩⟩
  obtain ⟨j, hj, ej⟩ := List.getElem_of_mem hsel
  have hst : StB (nxCore g (closeM g F (stAt l i).core (stAt l i).mask) sym) (nxMask g (closeM g F (stAt l i).core (stAt l i).mask) sym) (n + 1) a := by
    refine ⟨j, by unfold nxCore; rw [List.length_map]; exact hj, ?_, ?_⟩
    · unfold nxCore
      rw [List.getD_eq_getElem?_getD, List.getElem?_map, List.getElem?_eq_getElem hj, ej]; rfl
    · unfold nxMask
      rw [List.getD_eq_getElem?_getD, List.getElem?_map, List.getElem?_eq_getElem hj, ej]; exact hbit
  have hcore : nxCore g (closeM g F (stAt l i).core (stAt l i).mask) sym ≠ [] := by
    unfold nxCore
    intro e
    rw [List.map_eq_nil_iff.1 e] at hsel
    cases hsel
  obtain ⟨m, h1, h2, _, h4⟩ := h sym hsym hcore
  exact ⟨m, h1, h2, h4 _ _ hst⟩
end Go.Proofs.YtaooejidkeojjaaDoor.H
namespace Go.Proofs.YtaooejidkeojjaaDoor.H
set_option linter.unusedVariables false
set_option linter.unusedSimpArgs false
theorem bodyX_lt {g : Gr} {p : Nat} (hp : p < g.ps.length) : bodyX g p = g.ps[p].body := by
  unfold bodyX
  rw [if_neg (by omega)]
  unfold bodyAt
  rw [List.getD_eq_getElem?_getD, List.getElem?_eq_getElem hp]; rfl
end Go.Proofs.YtaooejidkeojjaaDoor.H
namespace Go.Proofs.YtaooejidkeojjaaDoor.PFw
open Go.RowKit Go.Proofs.YtaooejidkeojjaaDoorW.PrintWords Go.Proofs.YtaooejidkeojjaaDoor.H
set_option linter.unusedVariables false
set_option linter.unusedSimpArgs false
abbrev Tr := S52
mutual
def sz : Tr → Nat
  | ⟨_, _, l⟩ => 1 + szs l
def szs : List Tr → Nat
  | [] => 0
  | t :: l => sz t + szs l
end
theorem sz_pos (t : Tr) : 1 ≤ sz t := by cases t; unfold sz; omega
theorem szs_get (l : List Tr) (i : Nat) (h : i < l.length) : szs (l.take (i + 1)) = szs (l.take i) + sz l[i] := by
  induction l generalizing i with
  | nil => simp at h
  | cons t l ih =>
    cases i with
    | zero => simp [szs]
    | succ i =>
      simp only [List.take_succ_cons, szs, List.getElem_cons_succ]
      rw [ih i (by simpa using h)]
      omega
theorem szs_take_le (l : List Tr) (i : Nat) : szs (l.take i) ≤ szs l := by
  induction l generalizing i with
  | nil => simp
  | cons t l ih =>
    cases i with
    | zero => simp [szs]
    | succ i =>
      have := ih i
      simp only [List.take_succ_cons, szs]
      omega
theorem szs_len (l : List Tr) : l.length ≤ szs l := by
  induction l with
  | nil => simp
  | cons t l ih => have := sz_pos t; simp only [List.length_cons, szs]; omega
theorem sz_mem {l : List Tr} {t : Tr} (h : t ∈ l) : sz t ≤ szs l := by
  induction l with
  | nil => cases h
  | cons x l ih =>
    simp only [szs]
    rcases List.mem_cons.1 h with rfl | h
    · omega
    · have := ih h; omega
theorem rd_tr (l : List Tr) (i : Nat) (h : i < l.length) : rd_T52 l (i : Int) = l[i] := by simp [rd_T52, List.getD_eq_getElem?_getD, h]
theorem rd_pr (l : List S49) (i : Nat) (h : i < l.length) : rd_T49 l (i : Int) = l[i] := by simp [rd_T49, List.getD_eq_getElem?_getD, h]
theorem nodes_any : ∀ (N : Nat) (t : Tr), sz t ≤ N → ∀ m : Nat, m ≤ 1000000 → ∃ r : Nat, Ev (fun k => rootstocklaw14_Nodes.f k t.f0 t.f1 t.f2 (m : Int)) (r : Int) ∧ 1 ≤ r ∧ r ≤ m + 1 ∧ (r ≤ m → r = sz t) := by
  intro N
  induction N with
  | zero => intro t h; have := sz_pos t; omega
  | succ N ih =>
    intro t hN m hm
    obtain ⟨s, p, l⟩ := t
    have hsz : szs l ≤ N := by unfold sz at hN; omega
    have loop : ∀ (d i n : Nat), l.length - i ≤ d → i ≤ l.length → i + 1 ≤ n → n ≤ m + 1 → (n ≤ m → n = 1 + szs (l.take i)) →
        ∃ r : Nat, Ev (fun k => rootstocklaw14_Nodes.l0 k (m : Int) (n : Int) (i : Int) s p l) (r : Int) ∧ 1 ≤ r ∧ r ≤ m + 1 ∧ (r ≤ m → r = 1 + szs l) := by
      intro d
      induction d with
      | zero =>
        intro i n hd hi h1 h2 h3
        obtain rfl : i = l.length := by omega
        refine ⟨n, ⟨1, fun k hk => ?_⟩, by omega, h2, fun h => by rw [h3 h, List.take_length]⟩
        obtain ⟨k, rfl⟩ : ∃ m, k = m + 1 := ⟨k - 1, by omega⟩
        show rootstocklaw14_Nodes.l0 (k + 1) (m : Int) (n : Int) _ s p l = some _
        rw [rootstocklaw14_Nodes.l0, if_neg (by omega)]
      | succ d ihd =>
        intro i n hd hi h1 h2 h3
        by_cases hlt : i < l.length
        · by_cases hn : n ≤ m
          · have ht : l[i] ∈ l := List.getElem_mem hlt
            obtain ⟨r', ⟨K1, hK1⟩, q1, q2, q3⟩ := ih l[i] (Nat.le_trans (sz_mem ht) hsz) (m - n) (by omega)
            have hg := szs_get l i hlt
            obtain ⟨r, ⟨K2, hK2⟩, p1, p2, p3⟩ := ihd (i + 1) (n + r') (by omega) (by omega) (by omega) (by omega) (fun h => by
              have e1 := q3 (by omega)
              have e2 := h3 hn
              omega)
            refine ⟨r, ⟨K1 + K2 + 1, fun k hk => ?_⟩, p1, p2, p3⟩
            obtain ⟨k, rfl⟩ : ∃ m, k = m + 1 := ⟨k - 1, by omega⟩
            have e1 : Keep (wrap64 ((m : Int) - (n : Int)) = ((m - n : Nat) : Int)) := ⟨by rw [wrap_nat _ (by omega) (by omega)]; omega⟩
            have e2 : Keep (wrap64 ((n : Int) + (r' : Int)) = ((n + r' : Nat) : Int)) := ⟨by rw [wrap_nat _ (by omega) (by omega)]; omega⟩
            have e3 : Keep (wrap64 ((i : Int) + 1) = ((i + 1 : Nat) : Int)) := ⟨by rw [wrap_nat _ (by omega) (by omega)]; omega⟩
            show rootstocklaw14_Nodes.l0 (k + 1) (m : Int) (n : Int) (i : Int) s p l = some _
            have a1 := hK1 k (by omega)
            have a2 := hK2 k (by omega)
            dsimp only at a1 a2
            rw [rootstocklaw14_Nodes.l0, if_pos (by omega), if_pos (by omega), if_pos (by omega), rd_tr l i hlt, e1.out, a1, Option.bind_some, e2.out, e3.out]
            exact a2
          · refine ⟨n, ⟨1, fun k hk => ?_⟩, by omega, h2, fun h => absurd h hn⟩
            obtain ⟨k, rfl⟩ : ∃ m, k = m + 1 := ⟨k - 1, by omega⟩
            show rootstocklaw14_Nodes.l0 (k + 1) (m : Int) (n : Int) _ s p l = some _
            rw [rootstocklaw14_Nodes.l0, if_pos (by omega), if_neg (by omega)]
        · obtain rfl : i = l.length := by omega
          refine ⟨n, ⟨1, fun k hk => ?_⟩, by omega, h2, fun h => by rw [h3 h, List.take_length]⟩
          obtain ⟨k, rfl⟩ : ∃ m, k = m + 1 := ⟨k - 1, by omega⟩
          show rootstocklaw14_Nodes.l0 (k + 1) (m : Int) (n : Int) _ s p l = some _
          rw [rootstocklaw14_Nodes.l0, if_neg (by omega)]
    obtain ⟨r, ⟨K, hK⟩, h1, h2, h3⟩ := loop l.length 0 1 (by omega) (Nat.zero_le _) (by omega) (by omega) (fun _ => by simp [szs])
    refine ⟨r, ⟨K + 1, fun k hk => ?_⟩, h1, h2, fun h => by unfold sz; exact h3 h⟩
    obtain ⟨k, rfl⟩ : ∃ m, k = m + 1 := ⟨k - 1, by omega⟩
    show rootstocklaw14_Nodes.f (k + 1) s p l (m : Int) = some _
    rw [rootstocklaw14_Nodes.f]
    exact hK k (by omega)
mutual
/-- Whether a tree is one of the grammar's: the error's number. -/
def fitI (g : H.Gr) : Tr → Int
  | ⟨s, p, l⟩ => if s < 0 ∨ g.S ≤ s then 2 else if s < g.T then (if p = -1 ∧ l.length = 0 then 0 else 200) else if p < 0 ∨ g.ps.length ≤ p then 2
      else if headAt g p.toNat ≠ s ∨ (bodyAt g p.toNat).length ≠ l.length then 200 else if l.map (fun x => x.f0) = bodyAt g p.toNat then fitIs g l else 200
def fitIs (g : H.Gr) : List Tr → Int
  | [] => 0
  | t :: l => if fitI g t = 0 then fitIs g l else fitI g t
end
theorem fits_l1 {a b c : Int} {l : List S49} (kids : List Tr) (hk : kids.length ≤ 1000000) (ih : ∀ t ∈ kids, Ev (fun k => derive_fits.f k a b c l t.f0 t.f1 t.f2) (fitI (toGr a b c l) t)) : ∀ (n i : Nat), kids.length - i ≤ n → i ≤ kids.length →
    Ev (fun k => derive_fits.l1 k kids (kids.length : Int) (i : Int) a b c l) (fitIs (toGr a b c l) (kids.drop i)) := by
  intro n
  induction n with
  | zero =>
    intro i hn hi
    obtain rfl : i = kids.length := by omega
    refine ⟨1, fun k hk => ?_⟩
    obtain ⟨k, rfl⟩ : ∃ m, k = m + 1 := ⟨k - 1, by omega⟩
    show derive_fits.l1 (k + 1) kids _ _ a b c l = some _
    rw [derive_fits.l1, if_neg (by omega), List.drop_length]
    rfl
  | succ n ihn =>
    intro i hn hi
    by_cases hlt : i < kids.length
    · obtain ⟨K1, h1⟩ := ih kids[i] (List.getElem_mem hlt)
      obtain ⟨K2, h2⟩ := ihn (i + 1) (by omega) (by omega)
      refine ⟨K1 + K2 + 1, fun k hk => ?_⟩
      obtain ⟨k, rfl⟩ : ∃ m, k = m + 1 := ⟨k - 1, by omega⟩
      have e3 : Keep (wrap64 ((i : Int) + 1) = ((i + 1 : Nat) : Int)) := ⟨by rw [wrap_nat _ (by omega) (by omega)]; omega⟩
      have a1 := h1 k (by omega)
      have a2 := h2 k (by omega)
      dsimp only at a1 a2
      show derive_fits.l1 (k + 1) kids _ _ a b c l = some _
      rw [derive_fits.l1, if_pos (by omega), if_pos (by omega), if_pos (by omega), rd_tr kids i hlt, a1, Option.bind_some, List.drop_eq_getElem_cons hlt, fitIs, e3.out]
      by_cases hz : fitI (toGr a b c l) kids[i] = 0
      · rw [if_pos hz, if_pos hz]; exact a2
      · rw [if_neg hz, if_neg hz]
    · obtain rfl : i = kids.length := by omega
      refine ⟨1, fun k hk => ?_⟩
      obtain ⟨k, rfl⟩ : ∃ m, k = m + 1 := ⟨k - 1, by omega⟩
      show derive_fits.l1 (k + 1) kids _ _ a b c l = some _
      rw [derive_fits.l1, if_neg (by omega), List.drop_length]
      rfl
theorem fits_l0 {a b c s p : Int} {l : List S49} {x0 : Int} {x2 : Bool} (kids : List Tr) (body : List Int) (hk : kids.length ≤ 1000000) (hb : body.length = kids.length) (ih : ∀ t ∈ kids, Ev (fun k => derive_fits.f k a b c l t.f0 t.f1 t.f2) (fitI (toGr a b c l) t)) : ∀ (n i : Nat), kids.length - i ≤ n → i ≤ kids.length →
    Ev (fun k => derive_fits.l0 k kids (kids.length : Int) (i : Int) a b c l s p kids x0 body x2) (if (kids.drop i).map (fun x => x.f0) = body.drop i then fitIs (toGr a b c l) kids else 200) := by
  obtain ⟨K0, h0⟩ := fits_l1 kids hk ih kids.length 0 (by omega) (Nat.zero_le _)
  intro n
  induction n with
  | zero =>
    intro i hn hi
    obtain rfl : i = kids.length := by omega
    refine ⟨K0 + 1, fun k hk => ?_⟩
    obtain ⟨k, rfl⟩ : ∃ m, k = m + 1 := ⟨k - 1, by omega⟩
    show derive_fits.l0 (k + 1) kids _ _ a b c l s p kids x0 body x2 = some _
    rw [derive_fits.l0, if_neg (by omega), List.drop_length, List.drop_eq_nil_of_le (show body.length ≤ kids.length by omega), List.map_nil, if_pos rfl]
    exact h0 k (by omega)
  | succ n ihn =>
    intro i hn hi
    by_cases hlt : i < kids.length
    · obtain ⟨K2, h2⟩ := ihn (i + 1) (by omega) (by omega)
      refine ⟨K2 + 1, fun k hk => ?_⟩
      obtain ⟨k, rfl⟩ : ∃ m, k = m + 1 := ⟨k - 1, by omega⟩
      have e3 : Keep (wrap64 ((i : Int) + 1) = ((i + 1 : Nat) : Int)) := ⟨by rw [wrap_nat _ (by omega) (by omega)]; omega⟩
      have a2 := h2 k (by omega)
      dsimp only at a2
      show derive_fits.l0 (k + 1) kids _ _ a b c l s p kids x0 body x2 = some _
      rw [derive_fits.l0, if_pos (by omega), if_pos (by omega), if_pos (by omega), if_pos (by omega), rd_tr kids i hlt, rd_get body i (by omega), e3.out, a2]
      have hd1 : ((kids.drop i).map (fun x => x.f0) = body.drop i) = (kids[i].f0 = body[i] ∧ (kids.drop (i + 1)).map (fun x => x.f0) = body.drop (i + 1)) := by
        rw [List.drop_eq_getElem_cons hlt, List.drop_eq_getElem_cons (show i < body.length by omega), List.map_cons, List.cons.injEq]
      by_cases hz : kids[i].f0 = body[i]
      · rw [if_pos hz]
        simp only [hd1, hz, true_and]
      · rw [if_neg hz]
        simp only [hd1, hz, false_and, if_false]
    · obtain rfl : i = kids.length := by omega
      refine ⟨K0 + 1, fun k hk => ?_⟩
      obtain ⟨k, rfl⟩ : ∃ m, k = m + 1 := ⟨k - 1, by omega⟩
      show derive_fits.l0 (k + 1) kids _ _ a b c l s p kids x0 body x2 = some _
      rw [derive_fits.l0, if_neg (by omega), List.drop_length, List.drop_eq_nil_of_le (show body.length ≤ kids.length by omega), List.map_nil, if_pos rfl]
      exact h0 k (by omega)
theorem fits_any {a b c : Int} {l : List S49} : ∀ (N : Nat) (t : Tr), sz t ≤ N → N ≤ 1000000 → Ev (fun k => derive_fits.f k a b c l t.f0 t.f1 t.f2) (fitI (toGr a b c l) t) := by
  intro N
  induction N with
  | zero => intro t h; have := sz_pos t; omega
  | succ N ih =>
    intro t hN hM
    obtain ⟨s, p, kids⟩ := t
    have hsz : szs kids ≤ N := by unfold sz at hN; omega
    have hkl := szs_len kids
    have ihk : ∀ t ∈ kids, Ev (fun k => derive_fits.f k a b c l t.f0 t.f1 t.f2) (fitI (toGr a b c l) t) := fun t ht => ih t (Nat.le_trans (sz_mem ht) hsz) (by omega)
    by_cases h1 : s < 0 ∨ b ≤ s
    · refine ⟨2, fun k hk => ?_⟩
      obtain ⟨k, rfl⟩ : ∃ m, k = m + 1 + 1 := ⟨k - 2, by omega⟩
      show derive_fits.f (k + 1 + 1) a b c l s p kids = some _
      rw [fitI, if_pos (show s < 0 ∨ (toGr a b c l).S ≤ s from h1), derive_fits.f]
      by_cases h : s < 0
      · rw [if_pos h, derive_fits.j0, if_pos rfl]
      · rw [if_neg h, decide_eq_true (show s ≥ b by omega), derive_fits.j0, if_pos rfl]
    have h1' : ¬ (s < 0 ∨ (toGr a b c l).S ≤ s) := h1
    have hs0 : ¬ s < 0 := fun h => h1 (.inl h)
    have hsS : ¬ s ≥ b := fun h => h1 (.inr h)
    by_cases h2 : s < a
    · have h2' : s < (toGr a b c l).T := h2
      refine ⟨2, fun k hk => ?_⟩
      obtain ⟨k, rfl⟩ : ∃ m, k = m + 1 + 1 := ⟨k - 2, by omega⟩
      show derive_fits.f (k + 1 + 1) a b c l s p kids = some _
      rw [fitI, if_neg h1', if_pos h2', derive_fits.f, if_neg hs0, decide_eq_false hsS, derive_fits.j0, if_neg (by decide), if_pos h2]
      by_cases h3 : p = -1
      · rw [if_pos h3]
        by_cases h4 : (kids.length : Int) > 0
        · rw [if_pos h4, if_neg (by omega)]
        · rw [if_neg h4, if_pos (by omega)]
      · rw [if_neg h3, if_neg (by omega)]
    have h2' : ¬ s < (toGr a b c l).T := h2
    have hpl : (toGr a b c l).ps.length = l.length := by simp [toGr]
    by_cases h3 : p < 0 ∨ (l.length : Int) ≤ p
    · have h3' : p < 0 ∨ ((toGr a b c l).ps.length : Int) ≤ p := by rw [hpl]; exact h3
      refine ⟨3, fun k hk => ?_⟩
      obtain ⟨k, rfl⟩ : ∃ m, k = m + 1 + 1 + 1 := ⟨k - 3, by omega⟩
      show derive_fits.f (k + 1 + 1 + 1) a b c l s p kids = some _
      rw [fitI, if_neg h1', if_neg h2', if_pos h3', derive_fits.f, if_neg hs0, decide_eq_false hsS, derive_fits.j0, if_neg (by decide), if_neg h2]
      by_cases h : p < 0
      · rw [if_pos h, derive_fits.j1, if_pos rfl]
      · rw [if_neg h, decide_eq_true (show p ≥ (l.length : Int) by omega), derive_fits.j1, if_pos rfl]
    have h3' : ¬ (p < 0 ∨ ((toGr a b c l).ps.length : Int) ≤ p) := by rw [hpl]; exact h3
    have hp0 : ¬ p < 0 := fun h => h3 (.inl h)
    have hpP : ¬ p ≥ (l.length : Int) := fun h => h3 (.inr h)
    obtain ⟨q, rfl⟩ : ∃ q : Nat, p = q := ⟨p.toNat, by omega⟩
    have hq : q < l.length := by omega
    have hx := rd_pr l q hq
    have hh : headAt (toGr a b c l) q = l[q].f0 := by simp [headAt, toGr, toPr, hq]
    have hbd : bodyAt (toGr a b c l) q = l[q].f1 := by simp [bodyAt, toGr, toPr, hq]
    have hqn : ((q : Int)).toNat = q := Int.toNat_natCast q
    by_cases h4 : l[q].f0 ≠ s ∨ l[q].f1.length ≠ kids.length
    · refine ⟨4, fun k hk => ?_⟩
      obtain ⟨k, rfl⟩ : ∃ m, k = m + 1 + 1 + 1 + 1 := ⟨k - 4, by omega⟩
      show derive_fits.f (k + 1 + 1 + 1 + 1) a b c l s (q : Int) kids = some _
      rw [fitI, if_neg h1', if_neg h2', if_neg h3', hqn, hh, hbd, if_pos h4, derive_fits.f, if_neg hs0, decide_eq_false hsS, derive_fits.j0, if_neg (by decide), if_neg h2, if_neg hp0, decide_eq_false hpP, derive_fits.j1, if_neg (by decide), if_pos (by omega), if_pos (by omega), hx]
      by_cases h : l[q].f0 = s
      · have h5 : l[q].f1.length ≠ kids.length := h4.resolve_left (fun h' => h' h)
        rw [if_pos h, bne_iff_ne.2 (show (l[q].f1.length : Int) ≠ (kids.length : Int) by omega), derive_fits.j2, if_pos rfl]
      · rw [if_neg h, derive_fits.j2, if_pos rfl]
    · have h5 : l[q].f0 = s := Classical.byContradiction fun h => h4 (.inl h)
      have h6 : l[q].f1.length = kids.length := Classical.byContradiction fun h => h4 (.inr h)
      obtain ⟨K, hK⟩ := fits_l0 (a := a) (b := b) (c := c) (l := l) (s := s) (p := (q : Int)) (x0 := l[q].f0) (x2 := l[q].f2) kids l[q].f1 (by omega) h6 ihk kids.length 0 (by omega) (Nat.zero_le _)
      refine ⟨K + 4, fun k hk => ?_⟩
      obtain ⟨k, rfl⟩ : ∃ m, k = m + 1 + 1 + 1 + 1 := ⟨k - 4, by omega⟩
      have a2 := hK k (by omega)
      simp only [List.drop_zero] at a2
      show derive_fits.f (k + 1 + 1 + 1 + 1) a b c l s (q : Int) kids = some _
      rw [fitI, if_neg h1', if_neg h2', if_neg h3', hqn, hh, hbd, if_neg h4, derive_fits.f, if_neg hs0, decide_eq_false hsS, derive_fits.j0, if_neg (by decide), if_neg h2, if_neg hp0, decide_eq_false hpP, derive_fits.j1, if_neg (by decide), if_pos (by omega), if_pos (by omega), hx, if_pos h5, h6,
        show ((kids.length : Int) != (kids.length : Int)) = false from by simp, derive_fits.j2, if_neg (by decide)]
      exact a2
mutual
theorem yl_sz : ∀ t : Tr, (yl t).length ≤ sz t
  | ⟨s, p, l⟩ => by
    have := yls_szs l
    unfold yl sz
    cases l with
    | nil => simp [yls]
    | cons x xs => simp only [List.isEmpty_cons]; simpa using Nat.le_trans this (by omega)
theorem yls_szs : ∀ l : List Tr, (yls l).length ≤ szs l
  | [] => by simp [yls]
  | t :: l => by
    have := yl_sz t
    have := yls_szs l
    simp only [yls, szs, List.length_append]
    omega
end
end Go.Proofs.YtaooejidkeojjaaDoor.PFw
namespace Go.Proofs.YtaooejidkeojjaaDoor.PFw
open Go.RowKit Go.Proofs.YtaooejidkeojjaaDoorW.PrintWords Go.Proofs.YtaooejidkeojjaaDoor.H
set_option linter.unusedVariables false
set_option linter.unusedSimpArgs false
def ahd (g : Gr) (row : List Int) (n : Nat) : Int := if n < row.length then row.getD n 0 else g.T
abbrev stN (g : Gr) (q : Nat) : StD := stAt (statesM g).sts q
def actN (g : Gr) (q : Nat) (a : Int) : Ac := rowP g (stN g q) (closeM g (firstEnd g) (stN g q).core (stN g q).mask) (g.ps.length + 1) a.toNat
mutual
/-- A tree is built: from a state, at a place of the row, tq a state. -/
inductive Bok (g : Gr) (row : List Int) : Tr → Nat → Nat → Nat → Prop where
  | leaf {s p : Int} {q n tq : Nat} (hp : p < 0) (ha : ahd g row n = s) (hn : n < row.length) (hq : q < (statesM g).sts.length) (ht : tq < (statesM g).sts.length) (h : (actN g q s).sh = (tq : Int)) : Bok g row ⟨s, p, []⟩ q n tq
  | node {s p : Int} {l : List Tr} {q n qe tq : Nat} (hp : 0 ≤ p) (hne : l ≠ []) (hk : Boks g row l q n qe) (hq : q < (statesM g).sts.length) (he : qe < (statesM g).sts.length) (ht : tq < (statesM g).sts.length)
      (hr : p ∈ (actN g qe (ahd g row (n + (yls l).length))).rd) (h0 : 0 ≤ s) (h1 : s < g.S) (hg : (stN g q).led.getD s.toNat (-1) = (tq : Int)) : Bok g row ⟨s, p, l⟩ q n tq
inductive Boks (g : Gr) (row : List Int) : List Tr → Nat → Nat → Nat → Prop where
  | nil {q n : Nat} : Boks g row [] q n q
  | cons {t : Tr} {l : List Tr} {q n q1 qe : Nat} (h : Bok g row t q n q1) (hl : Boks g row l q1 (n + (yl t).length) qe) : Boks g row (t :: l) q n qe
end
def At (row : List Int) (n : Nat) (xs : List Int) : Prop := ∀ i, i < xs.length → row[n + i]? = xs[i]?
theorem At.left {row : List Int} {n : Nat} {xs ys : List Int} (h : At row n (xs ++ ys)) : At row n xs := fun i hi => by
  rw [h i (by rw [List.length_append]; omega), List.getElem?_append_left hi]
theorem At.right {row : List Int} {n : Nat} {xs ys : List Int} (h : At row n (xs ++ ys)) : At row (n + xs.length) ys := fun i hi => by
  have := h (xs.length + i) (by rw [List.length_append]; omega)
  rw [List.getElem?_append_right (by omega), Nat.add_sub_cancel_left, ← Nat.add_assoc] at this
  exact this
abbrev ClN (g : Gr) (q n a : Nat) : Prop := Cl g (firstEnd g) (StB (stN g q).core (stN g q).mask) n a
def ThenN (g : Gr) (q n c : Nat) : Prop := if 0 ≤ nextS g (n + 1) then (gn (firstEnd g) (nextS g (n + 1))).testBit c = true else ClN g q n c
theorem fit_parts {g : Gr} {s p : Int} {l : List Tr} (h : fitI g ⟨s, p, l⟩ = 0) : 0 ≤ s ∧ s < g.S ∧ ((s < g.T ∧ p = -1 ∧ l = []) ∨ (g.T ≤ s ∧ 0 ≤ p ∧ p < g.ps.length ∧ headAt g p.toNat = s ∧ l.map (fun x => x.f0) = bodyAt g p.toNat ∧ fitIs g l = 0)) := by
  unfold fitI at h
  split at h
  · omega
  rename_i h1
  split at h
  · rename_i h2
    split at h
    · rename_i h3
      exact ⟨by omega, by omega, .inl ⟨h2, h3.1, List.eq_nil_of_length_eq_zero h3.2⟩⟩
    · omega
  · split at h
    · omega
    · split at h
      · omega
      · rename_i h2 h3 h4
        split at h
        · rename_i h5
          exact ⟨by omega, by omega, .inr ⟨by omega, by omega, by omega, Classical.byContradiction fun hc => h4 (.inl hc), h5, h⟩⟩
        · omega
theorem fits_cons {g : Gr} {t : Tr} {l : List Tr} (h : fitIs g (t :: l) = 0) : fitI g t = 0 ∧ fitIs g l = 0 := by
  unfold fitIs at h
  split at h
  · rename_i h1; exact ⟨h1, h⟩
  · rename_i h1; exact absurd h h1
theorem fit_beg {g : Gr} (h0 : checkI g = 0) : ∀ (N : Nat) (t : Tr), sz t ≤ N → fitI g t = 0 → ∃ a : Nat, (yl t)[0]? = some (a : Int) ∧ Beg g.T.toNat g.ps t.f0 a := by
  have fit := GrFit.of h0
  have ok := fit.ok
  have hT := ok.t0
  intro N
  induction N with
  | zero => intro t h; have := sz_pos t; omega
  | succ N ih =>
    intro t hN hf
    obtain ⟨s, p, l⟩ := t
    obtain ⟨b1, b2, h1 | ⟨h1, h2, h3, h4, h5, h6⟩⟩ := fit_parts hf
    · obtain ⟨h1, rfl, rfl⟩ := h1
      obtain ⟨n, rfl⟩ := Int.eq_ofNat_of_zero_le b1
      exact ⟨n, by simp [yl, yls], .term (by omega)⟩
    · obtain ⟨q, rfl⟩ := Int.eq_ofNat_of_zero_le h2
      have hq : q < g.ps.length := by omega
      have hne := fit.ne _ (List.getElem_mem hq)
      have eb : bodyAt g q = g.ps[q].body := by unfold bodyAt; rw [List.getD_eq_getElem?_getD, List.getElem?_eq_getElem hq]; rfl
      rw [Int.toNat_natCast] at h4 h5
      rw [eb] at h5
      cases l with
      | nil => simp only [List.map_nil] at h5; rw [← h5] at hne; simp at hne
      | cons k l =>
        obtain ⟨f1, _⟩ := fits_cons h6
        have hk : sz k ≤ N := by unfold sz szs at hN; omega
        obtain ⟨a, ha, hb⟩ := ih k hk f1
        refine ⟨a, ?_, ?_⟩
        · have e : yl (⟨s, q, k :: l⟩ : Tr) = yl k ++ yls l := by simp [yl, yls]
          rw [e]
          have hl : 0 < (yl k).length := by
            rcases Nat.eq_zero_or_pos (yl k).length with h | h
            · rw [List.eq_nil_of_length_eq_zero h] at ha; cases ha
            · exact h
          rw [List.getElem?_append_left hl]; exact ha
        · have hh : g.ps[q].head = s := by rw [← headAt_get hq]; exact h4
          show Beg g.T.toNat g.ps s a
          rw [← hh]
          refine .head (List.getElem_mem hq) (y := k.f0) ?_ hb
          rw [← h5]; rfl
theorem follow_tree {g : Gr} (h0 : checkI g = 0) (hfu : ¬ (statesM g).full = true) {row : List Int} : ∀ (N : Nat) (t : Tr), sz t ≤ N → fitI g t = 0 → ∀ (q n k a0 c : Nat), q < (statesM g).sts.length → nextS g k = t.f0 → ClN g q k a0 → ThenN g q k c → c ≤ g.T.toNat → At row n (yl t) → ahd g row (n + (yl t).length) = (c : Int) →
    ∃ tq, tq < (statesM g).sts.length ∧ (stN g q).led.getD t.f0.toNat (-1) = (tq : Int) ∧ Bok g row t q n tq ∧ ∀ a, ClN g q k a → StB (stN g tq).core (stN g tq).mask (k + 1) a := by
  have fit := GrFit.of h0
  have ok := fit.ok
  have hT := ok.t0
  have hS := ok.s0
  obtain ⟨O, _⟩ := statesM_ok fit
  have F := (first_spec fit).2.1
  intro N
  induction N with
  | zero => intro t h; have := sz_pos t; omega
  | succ N ih =>
    intro t hN hf q n k a0 c hq hx hc hth hcT hat hah
    obtain ⟨s, p, l⟩ := t
    obtain ⟨b1, b2, hcase⟩ := fit_parts hf
    obtain ⟨so, _, _⟩ := O.ok _ (stAt_mem hq)
    have dn := states_done fit hfu q hq
    obtain ⟨sn, rfl⟩ := Int.eq_ofNat_of_zero_le b1
    have hx : nextS g k = (sn : Int) := hx
    have hsn : sn < g.S.toNat := by omega
    obtain ⟨tq, t1, t2, t3⟩ := done_bit ok F so dn hc hx hsn
    have hall : ∀ a, ClN g q k a → StB (stN g tq).core (stN g tq).mask (k + 1) a := fun a ha => by
      obtain ⟨to2, u1, u2, u3⟩ := done_bit ok F so dn ha hx hsn
      have : to2 = tq := by omega
      subst this; exact u3
    refine ⟨tq, t1, by rw [Int.toNat_natCast]; exact t2, ?_, hall⟩
    rcases hcase with ⟨h1, rfl, rfl⟩ | ⟨h1, h2, h3, h4, h5, h6⟩
    · have hr : row[n]? = some (sn : Int) := by
        have := hat 0 (by simp [yl])
        simpa [yl, yls] using this
      have hn : n < row.length := by
        obtain ⟨h, _⟩ := List.getElem?_eq_some_iff.1 hr; exact h
      refine .leaf (by decide) ?_ hn hq t1 ?_
      · unfold ahd; rw [if_pos hn, List.getD_eq_getElem?_getD, hr]; rfl
      · show shA g (stN g q) (sn : Int).toNat = _
        unfold shA
        rw [Int.toNat_natCast, if_pos (by omega)]
        exact t2
    · obtain ⟨pn, rfl⟩ := Int.eq_ofNat_of_zero_le h2
      have hp : pn < g.ps.length := by omega
      rw [Int.toNat_natCast] at h4 h5
      have eb : bodyAt g pn = bodyX g pn := by rw [bodyX_lt hp]; unfold bodyAt; rw [List.getD_eq_getElem?_getD, List.getElem?_eq_getElem hp]; rfl
      rw [eb] at h5
      have hne : 0 < (bodyX g pn).length := by rw [bodyX_lt hp]; exact fit.ne _ (List.getElem_mem hp)
      have hl0 : l.length = (bodyX g pn).length := by rw [← h5, List.length_map]
      have ey : yl (⟨sn, pn, l⟩ : Tr) = yls l := by
        have : l ≠ [] := by intro e; rw [e] at hl0; simp at hl0; omega
        cases l with
        | nil => exact absurd rfl this
        | cons x l => simp [yl]
      rw [ey] at hat hah
      have hh : headAt g pn = nextS g k := by rw [hx]; exact h4
      have hst : ClN g q (offS g pn) c := by
        unfold ThenN at hth
        by_cases e : 0 ≤ nextS g (k + 1)
        · rw [if_pos e] at hth; exact .step hc hp hh (by rw [if_pos e]; exact hth)
        · rw [if_neg e] at hth; exact .step hth hp hh (by rw [if_neg e])
      have seq : ∀ (ks : List Tr) (d q' n' : Nat), l.drop d = ks → d ≤ l.length → q' < (statesM g).sts.length → ClN g q' (offS g pn + d) c → fitIs g ks = 0 → szs ks ≤ N → At row n' (yls ks) → ahd g row (n' + (yls ks).length) = (c : Int) →
          ∃ qe, qe < (statesM g).sts.length ∧ Boks g row ks q' n' qe ∧ ClN g qe (offS g pn + (bodyX g pn).length) c := by
        intro ks
        induction ks with
        | nil =>
          intro d q' n' hd hdl hq' hcl _ _ _ _
          have : d = (bodyX g pn).length := by
            have := List.drop_eq_nil_iff.1 hd
            omega
          rw [this] at hcl
          exact ⟨q', hq', .nil, hcl⟩
        | cons t ks ihk =>
          intro d q' n' hd hdl hq' hcl hfs hsz hat' hah'
          obtain ⟨f1, f2⟩ := fits_cons hfs
          have hdlt : d < l.length := by
            apply Classical.byContradiction
            intro hc
            rw [List.drop_eq_nil_of_le (by omega)] at hd
            cases hd
          have hcons := List.drop_eq_getElem_cons hdlt
          rw [hd] at hcons
          obtain ⟨ht, hks⟩ : t = l[d] ∧ ks = l.drop (d + 1) := by injection hcons with a b; exact ⟨a, b⟩
          have hxt : ∀ j (hj : j < l.length), nextS g (offS g pn + j) = (l[j]).f0 := fun j hj => by
            rw [nextS_at (by omega) (by omega)]
            have : (l.map (fun x => x.f0))[j]? = some (l[j]).f0 := by rw [List.getElem?_map, List.getElem?_eq_getElem hj]; rfl
            rw [h5] at this
            rw [List.getD_eq_getElem?_getD, this]; rfl
          simp only [yls] at hat' hah'
          rw [List.length_append, ← Nat.add_assoc] at hah'
          have szt : sz t ≤ N := by simp only [szs] at hsz; omega
          have szk : szs ks ≤ N := by simp only [szs] at hsz; omega
          have key : ∃ c', c' ≤ g.T.toNat ∧ ThenN g q' (offS g pn + d) c' ∧ ahd g row (n' + (yl t).length) = (c' : Int) := by
            cases ks with
            | nil =>
              refine ⟨c, hcT, ?_, by simpa [yls] using hah'⟩
              have hl1 : l.length = d + 1 := by
                have := List.drop_eq_nil_iff.1 hks.symm
                omega
              unfold ThenN
              rw [show offS g pn + d + 1 = offS g pn + (bodyX g pn).length by omega, nextS_end (by omega), if_neg (by decide)]
              exact hcl
            | cons t2 ks2 =>
              have hd1 : d + 1 < l.length := by
                apply Classical.byContradiction
                intro hc
                rw [List.drop_eq_nil_of_le (by omega)] at hks
                cases hks
              have ht2 : t2 = l[d + 1] := by
                rw [List.drop_eq_getElem_cons hd1] at hks
                injection hks
              obtain ⟨g1, _⟩ := fits_cons f2
              obtain ⟨a, ha, hb⟩ := fit_beg h0 _ t2 (Nat.le_refl _) g1
              have hax : nextS g (offS g pn + d + 1) = t2.f0 := by rw [Nat.add_assoc, hxt (d + 1) hd1, ht2]
              obtain ⟨e1, e2, _⟩ := fit_parts (g := g) (s := t2.f0) (p := t2.f1) (l := t2.f2) (by cases t2; exact g1)
              refine ⟨a, by have := hb.lt; omega, ?_, ?_⟩
              · unfold ThenN
                rw [hax, if_pos e1]
                exact ((first_spec fit).2.2 _ e1 e2 a).2 hb
              · have hr := hat'.right 0 (by
                  simp only [yls, List.length_append]
                  obtain ⟨h, _⟩ := List.getElem?_eq_some_iff.1 ha
                  omega)
                rw [Nat.add_zero] at hr
                have : (yls (t2 :: ks2))[0]? = some (a : Int) := by
                  simp only [yls]
                  obtain ⟨h, _⟩ := List.getElem?_eq_some_iff.1 ha
                  rw [List.getElem?_append_left h]; exact ha
                rw [this] at hr
                obtain ⟨h, _⟩ := List.getElem?_eq_some_iff.1 hr
                unfold ahd
                rw [if_pos h, List.getD_eq_getElem?_getD, hr]; rfl
          obtain ⟨c', k1, k2, k3⟩ := key
          obtain ⟨tq', w1, w2, w3, w4⟩ := ih t szt f1 q' n' (offS g pn + d) c c' hq' (by rw [hxt d hdlt, ht]) hcl k2 k1 hat'.left k3
          obtain ⟨qe, v1, v2, v3⟩ := ihk (d + 1) tq' (n' + (yl t).length) hks.symm (by omega) w1 (.base (w4 c hcl)) f2 szk hat'.right hah'
          exact ⟨qe, v1, .cons w3 v2, v3⟩
      have hszl : szs l ≤ N := by unfold sz at hN; omega
      obtain ⟨qe, v1, v2, v3⟩ := seq l 0 q n List.drop_zero (Nat.zero_le _) hq (by rw [Nat.add_zero]; exact hst) h6 hszl hat hah
      obtain ⟨soe, _, _⟩ := O.ok _ (stAt_mem v1)
      refine .node (by omega) (by intro e; rw [e] at hl0; simp at hl0; omega) v2 hq v1 t1 ?_ (by omega) b2 (by rw [Int.toNat_natCast]; exact t2)
      rw [hah]
      unfold actN rowP
      dsimp only
      rw [Int.toNat_natCast]
      refine List.mem_map.2 ⟨pn, List.mem_filter.2 ⟨List.mem_range.2 (by omega), ?_⟩, rfl⟩
      unfold bitE endS
      exact ((close_spec ok F soe).2.2 _ c).2 v3
theorem follow_all {g : Gr} (h0 : checkI g = 0) (hfu : ¬ (statesM g).full = true) (t : Tr) (hf : fitI g t = 0) (hs : t.f0 = g.st) : ∃ tq, Bok g (yl t) t 0 0 tq ∧ tq < (statesM g).sts.length ∧ (actN g tq g.T).ac = true := by
  have fit := GrFit.of h0
  have ok := fit.ok
  have hT := ok.t0
  obtain ⟨O, _⟩ := statesM_ok fit
  have F := (first_spec fit).2.1
  have W := states_way fit
  have E := states_end fit
  have hq := W.p
  obtain ⟨so, hc0, _⟩ := O.ok _ (stAt_mem hq)
  have hm0 : 0 < (stN g 0).mask.length := by rw [so.l]; exact hc0
  obtain ⟨a, ha⟩ := bit_of_ne (so.nz _ (List.getElem_mem hm0))
  have hst : StB (stN g 0).core (stN g 0).mask (offS g g.ps.length) a := ⟨0, hc0, by rw [W.fst]; rfl, by rw [List.getD_eq_getElem?_getD, List.getElem?_eq_getElem hm0]; exact ha⟩
  have ea : a = g.T.toNat := E 0 hq _ _ hst (Nat.le_refl _)
  subst ea
  have hb : bodyX g g.ps.length = [g.st] := by unfold bodyX; rw [if_pos rfl]
  have n0 : nextS g (offS g g.ps.length) = g.st := by rw [nextS_start (Nat.le_refl _) (by rw [hb]; exact Nat.one_pos), hb]; rfl
  have n1 : nextS g (offS g g.ps.length + 1) = -1 := by have := nextS_end (g := g) (p := g.ps.length) (Nat.le_refl _); rw [hb] at this; exact this
  obtain ⟨tq, t1, t2, t3, t4⟩ := follow_tree h0 hfu (row := yl t) _ t (Nat.le_refl _) hf 0 0 (offS g g.ps.length) g.T.toNat g.T.toNat hq (by rw [n0, hs]) (.base hst) (by unfold ThenN; rw [n1, if_neg (by decide)]; exact .base hst) (Nat.le_refl _) (fun i _ => by rw [Nat.zero_add]) (by unfold ahd; rw [Nat.zero_add, if_neg (Nat.lt_irrefl _)]; omega)
  refine ⟨tq, t3, t1, ?_⟩
  have hs2 := t4 _ (.base hst)
  obtain ⟨soe, _, _⟩ := O.ok _ (stAt_mem t1)
  unfold actN rowP
  dsimp only
  rw [Bool.and_eq_true]
  refine ⟨decide_eq_true (Nat.lt_succ_self _), ?_⟩
  unfold bitE endS
  rw [hb]
  exact ((close_spec ok F soe).2.2 _ _).2 (.base hs2)
end Go.Proofs.YtaooejidkeojjaaDoor.PFw
namespace Go.Proofs.YtaooejidkeojjaaDoor.PFw
open Go.RowKit Go.Proofs.YtaooejidkeojjaaDoorW.PrintWords Go.Proofs.YtaooejidkeojjaaDoorW.PrintLast Go.Proofs.YtaooejidkeojjaaDoorW.PrintMore
set_option linter.unusedVariables false
set_option linter.unusedSimpArgs false
set_option maxRecDepth 100000
structure WkC where
  T : Int
  S : Int
  st : Int
  P : Option Addr
  np : Nat
  cp : Nat
  A : Option Addr
  na : Nat
  ca : Nat
  G : Option Addr
  ng : Nat
  cg : Nat
  R : Option Addr
  cr : Nat
def WkC.cells (x : WkC) (row : List Int) (vS : Value) (n : Nat) : Array Value := #[.int .i64 x.T, .int .i64 x.S, .int .i64 x.st, .slice x.P x.np x.cp, .slice x.A x.na x.ca, .slice x.G x.ng x.cg, .slice x.R row.length x.cr, vS, .int .i64 (n : Int)]
structure Wk (x : WkC) (w0 W : World) (gw : Nat) (row : List Int) (vS : Value) (ss : List Int) (n : Nat) : Prop where
  lo : Below w0.heap.size w0 W
  hb : w0.heap.size ≤ gw
  b : H.Blk W gw 58 (x.cells row vS n)
  o : H.OwnI W w0.heap.size vS ss
  r : H.Rd H.eI 1 W W.heap.size x.R row
  rb : ∀ ad, x.R = some ad → ad.block ≠ gw ∧ some ad.block ≠ vS.ownBlock ∧ ad.block < W.heap.size
section
variable {x : WkC} {w0 W W' : World} {gw : Nat} {row : List Int} {vS : Value} {ss : List Int} {n : Nat}
theorem Wk.below (h : Wk x w0 W gw row vS ss n) (hb : Below W.heap.size W W') : Wk x w0 W' gw row vS ss n :=
  ⟨H.below_step h.lo hb h.lo.size, h.hb, h.b.below hb h.b.lt, h.o.below hb, (h.r.below hb).mono hb.size, fun ad e => ⟨(h.rb ad e).1, (h.rb ad e).2.1, Nat.lt_of_lt_of_le (h.rb ad e).2.2 hb.size⟩⟩
theorem Wk.drewN (h : Wk x w0 W gw row vS ss n) (k : Nat) : Wk x w0 (W.drewN k) gw row vS ss n := h.below (H.below_drewN (Below.refl _ _) k)
end
set_option maxHeartbeats 4000000 in
theorem top_any {x : WkC} {w0 W : World} {gw : Nat} {row : List Int} {vS : Value} {ss : List Int} {n : Nat} (h : Wk x w0 W gw row vS ss n) (q : Int) (hq : ss.getLast? = some q) :
    Calls Tryd.prog 23 #[.pointer (some ⟨gw, 0, none⟩)] W fun e W' => e = .returned (.int .i64 q) ∧ ∃ k, W' = W.drewN k := by
  obtain ⟨A, c, rfl, h1, h2, h3, h4, h5⟩ := h.o.open_
  have b7 := h.b.cell 7
  simp [WkC.cells] at b7
  obtain ⟨m, hm⟩ : ∃ m, ss.length = m + 1 := by
    cases ss with
    | nil => simp at hq
    | cons a l => exact ⟨l.length, rfl⟩
  have hml : m < ss.length := by omega
  obtain ⟨ad, rfl, hb1, hc1⟩ := h3.int m hml
  have eq : ss[m] = q := by
    rw [List.getLast?_eq_getElem?, hm, Nat.add_sub_cancel, List.getElem?_eq_getElem hml] at hq
    exact Option.some.inj hq
  rw [eq] at hc1
  simp only [maxLen] at h2
  have i0 : IntKind.i64.wrap ((ss.length : Int) - 1) = (m : Int) := by rw [IntKind.wrap_i64]; omega
  have i1 : (0:Int) ≤ m := by omega
  have i2 : (m : Int) < ss.length := by omega
  clear h h3 h4 h5 hq eq hm hml
  go_enter Tryd.func23, Tryd.ntmps23
  go_wp2
  go_quiet (fail)
  go_wp2
  go_ret
  exact ⟨rfl, _, rfl⟩
set_option maxHeartbeats 4000000 in
theorem ahead_any {x : WkC} {w0 W : World} {gw : Nat} {row : List Int} {vS : Value} {ss : List Int} {n : Nat} (h : Wk x w0 W gw row vS ss n) :
    Calls Tryd.prog 40 #[.pointer (some ⟨gw, 0, none⟩)] W fun e W' => e = .returned (.int .i64 (if n < row.length then row.getD n 0 else x.T)) ∧ ∃ k, W' = W.drewN k := by
  have b0 := h.b.cell 0
  have b6 := h.b.cell 6
  have b8 := h.b.cell 8
  simp [WkC.cells] at b0 b6 b8
  by_cases hlt : n < row.length
  · obtain ⟨ad, e, hb1, hc1⟩ := h.r.int n hlt
    rw [e] at b6
    have eq : row.getD n 0 = row[n] := by rw [List.getD_eq_getElem?_getD, List.getElem?_eq_getElem hlt]; rfl
    rw [if_pos hlt, eq]
    generalize row[n] = v at *
    have i1 : (0:Int) ≤ n := by omega
    have i2 : (n : Int) < row.length := by omega
    clear h eq e
    go_enter Tryd.func40, Tryd.ntmps40
    go_wp2
    go_quiet (fail)
    go_wp2
    go_quiet (fail)
    go_wp2
    go_ret
    exact ⟨rfl, _, World.drewN_drewN ..⟩
  · rw [if_neg hlt]
    have i2 : ¬ (n : Int) < row.length := by omega
    clear h
    go_enter Tryd.func40, Tryd.ntmps40
    go_wp2
    go_quiet (fail)
    go_wp2
    go_ret
    exact ⟨rfl, _, rfl⟩
end Go.Proofs.YtaooejidkeojjaaDoor.PFw
namespace Go.Proofs.YtaooejidkeojjaaDoor.PFw
open Go.RowKit Go.Proofs.YtaooejidkeojjaaDoorW.PrintWords Go.Proofs.YtaooejidkeojjaaDoorW.PrintLast Go.Proofs.YtaooejidkeojjaaDoorW.PrintMore
set_option linter.unusedVariables false
set_option linter.unusedSimpArgs false
set_option maxRecDepth 100000
theorem cell_same {W W' : World} {a : Addr} (h : W'.heap[a.block]? = W.heap[a.block]?) : W'.cell? a = W.cell? a := by
  unfold World.cell?
  rw [h]
theorem rd_same {W W' : World} {A : Option Addr} {xs : List Int} (h : H.Rd H.eI 1 W W.heap.size A xs) (hs : W.heap.size ≤ W'.heap.size) (hk : ∀ ad, A = some ad → W'.heap[ad.block]? = W.heap[ad.block]?) : H.Rd H.eI 1 W' W'.heap.size A xs := by
  intro i hi
  obtain ⟨ad, e, hb, hc⟩ := h i hi
  refine ⟨ad, e, by omega, fun j u hu => ?_⟩
  rw [cell_same]
  · exact hc j u hu
  · rw [H.add_block, H.add_block]; exact hk ad e
def Kp (W W' : World) : Prop := ∀ b t cs, H.Blk W b t cs → t ≠ 3 → t ≠ 58 → H.Blk W' b t cs
theorem Kp.trans {a b c : World} (h : Kp a b) (k : Kp b c) : Kp a c := fun g t cs hb h1 h2 => k g t cs (h g t cs hb h1 h2) h1 h2
theorem Kp.below {W W' : World} (hb : Below W.heap.size W W') : Kp W W' := fun g t cs h _ _ => h.below hb h.lt
section
variable {x : WkC} {w0 W W' : World} {gw : Nat} {row : List Int} {vS : Value} {ss : List Int} {n : Nat}
theorem Wk.own_ne (h : Wk x w0 W gw row vS ss n) : some gw ≠ vS.ownBlock := h.o.blk_ne h.b (by decide)
theorem Wk.next (h : Wk x w0 W gw row vS ss n) : Wk x w0 (W.setCell ⟨gw, 8, none⟩ (.int .i64 ((n : Int) + 1))) gw row vS ss (n + 1) ∧ Kp W (W.setCell ⟨gw, 8, none⟩ (.int .i64 ((n : Int) + 1))) := by
  have hh : ∀ b, b ≠ gw → (W.setCell ⟨gw, 8, none⟩ (.int .i64 ((n : Int) + 1))).heap[b]? = W.heap[b]? := fun b hb => Below.heap_setCell W ⟨gw, 8, none⟩ _ b hb
  have hs : W.heap.size ≤ (W.setCell ⟨gw, 8, none⟩ (.int .i64 ((n : Int) + 1))).heap.size := by simp
  refine ⟨⟨h.lo.setCell h.hb _, h.hb, ?_, H.ownI_far h.o h.b (by decide) 8 _, rd_same h.r hs (fun ad e => hh _ (h.rb ad e).1), fun ad e => ⟨(h.rb ad e).1, (h.rb ad e).2.1, Nat.lt_of_lt_of_le (h.rb ad e).2.2 hs⟩⟩, fun g t cs hb h1 h2 => hb.far (p := ⟨gw, 8, none⟩) (fun e => ?_) _⟩
  · have := h.b.set_ 8 (.int .i64 ((n : Int) + 1))
    have e : (x.cells row vS n).setIfInBounds 8 (.int .i64 ((n : Int) + 1)) = x.cells row vS (n + 1) := by simp [WkC.cells]
    rw [e] at this
    exact this
  · have e : g = gw := e
    subst e
    exact hb.ne_of_type h.b h2 rfl
theorem Wk.push (h : Wk x w0 W gw row vS ss n) {y : Int} {v' : Value} (ho : W'.ownsRow w0.heap.size 3 1 v' (ss.length + 1) (ss.map (Value.int .i64) ++ [.int .i64 y])) (hg : W.grownBy W' vS.ownBlock) (ha : v'.ownBlock = vS.ownBlock ∨ v'.ownBlock = some W.heap.size) :
    H.Blk W' gw 58 (x.cells row vS n) ∧ Wk x w0 (W'.setCell ⟨gw, 7, none⟩ v') gw row v' (ss ++ [y]) n ∧ Kp W (W'.setCell ⟨gw, 7, none⟩ v') := by
  have hsz : W.heap.size ≤ W'.heap.size := hg.size
  have b1 : H.Blk W' gw 58 (x.cells row vS n) := h.b.grown hg h.own_ne
  have oI : H.OwnI W' w0.heap.size v' (ss ++ [y]) := by
    unfold H.OwnI
    rw [List.length_append, List.map_append]
    exact ho
  have hh : ∀ b, b ≠ gw → (W'.setCell ⟨gw, 7, none⟩ v').heap[b]? = W'.heap[b]? := fun b hb => Below.heap_setCell W' ⟨gw, 7, none⟩ _ b hb
  have hs : W.heap.size ≤ (W'.setCell ⟨gw, 7, none⟩ v').heap.size := by simp; exact hsz
  have lo1 : Below w0.heap.size w0 W' := h.lo.grown hg h.lo.size (fun b hb => (World.ownsRow.lt h.o b hb).1)
  refine ⟨b1, ⟨lo1.setCell h.hb _, h.hb, ?_, H.ownI_far oI b1 (by decide) 7 _, rd_same h.r hs (fun ad e => ?_), fun ad e => ⟨(h.rb ad e).1, ?_, Nat.lt_of_lt_of_le (h.rb ad e).2.2 hs⟩⟩, fun g t cs hb h1 h2 => ?_⟩
  · have := b1.set_ 7 v'
    have e : (x.cells row vS n).setIfInBounds 7 v' = x.cells row v' n := by simp [WkC.cells]
    rw [e] at this
    exact this
  · rw [hh _ (h.rb ad e).1]
    exact hg.block _ (h.rb ad e).2.2 (h.rb ad e).2.1
  · rcases ha with e2 | e2
    · rw [e2]; exact (h.rb ad e).2.1
    · rw [e2]
      intro e3
      have := (h.rb ad e).2.2
      injection e3 with e3
      omega
  · have c1 : H.Blk W' g t cs := hb.grown hg (h.o.blk_ne hb h1)
    exact c1.far (p := ⟨gw, 7, none⟩) (fun e => by
      have e : g = gw := e
      subst e
      exact hb.ne_of_type h.b h2 rfl) _
theorem Wk.cut {A : Option Addr} {k c m : Nat} (h : Wk x w0 W gw row (.slice A k c) ss n) (hm : m ≤ ss.length) : Wk x w0 (W.setCell ⟨gw, 7, none⟩ (.slice A m c)) gw row (.slice A m c) (ss.take m) n ∧ Kp W (W.setCell ⟨gw, 7, none⟩ (.slice A m c)) := by
  have hob : (Value.slice A m c).ownBlock = (Value.slice A k c).ownBlock := by cases A <;> rfl
  have oI : H.OwnI W w0.heap.size (.slice A m c) (ss.take m) := by
    obtain ⟨h1, h2⟩ := h.o
    have hlen : (ss.take m).length = m := by rw [List.length_take]; omega
    refine ⟨by simp, ?_⟩
    rcases h2 with ⟨e, h0⟩ | ⟨g, cap, cur, e, hB, hh, hn, hc, hs, ht⟩
    · left
      injection e with e1 e2 e3
      rw [hlen]
      refine ⟨?_, by omega⟩
      rw [e1, e3, show m = 0 by omega]
    · right
      injection e with e1 e2 e3
      refine ⟨g, cap, cur, ?_, hB, hh, by rw [hlen]; omega, hc, hs, ?_⟩
      · rw [e1, e3, hlen]
      · rw [hlen, List.map_take, ← ht, List.take_take]
        congr 1
        omega
  have hh : ∀ b, b ≠ gw → (W.setCell ⟨gw, 7, none⟩ (.slice A m c)).heap[b]? = W.heap[b]? := fun b hb => Below.heap_setCell W ⟨gw, 7, none⟩ _ b hb
  have hs : W.heap.size ≤ (W.setCell ⟨gw, 7, none⟩ (.slice A m c)).heap.size := by simp
  refine ⟨⟨h.lo.setCell h.hb _, h.hb, ?_, H.ownI_far oI h.b (by decide) 7 _, rd_same h.r hs (fun ad e => hh _ (h.rb ad e).1), fun ad e => ⟨(h.rb ad e).1, by rw [hob]; exact (h.rb ad e).2.1, Nat.lt_of_lt_of_le (h.rb ad e).2.2 hs⟩⟩, fun g t cs hb h1 h2 => hb.far (p := ⟨gw, 7, none⟩) (fun e => ?_) _⟩
  · have := h.b.set_ 7 (.slice A m c)
    have e : (x.cells row (.slice A k c) n).setIfInBounds 7 (.slice A m c) = x.cells row (.slice A m c) n := by simp [WkC.cells]
    rw [e] at this
    exact this
  · have e : g = gw := e
    subst e
    exact hb.ne_of_type h.b h2 rfl
end
end Go.Proofs.YtaooejidkeojjaaDoor.PFw
namespace Go.Proofs.YtaooejidkeojjaaDoor.PFw
open Go.RowKit Go.Proofs.YtaooejidkeojjaaDoorW.PrintWords Go.Proofs.YtaooejidkeojjaaDoorW.PrintLast Go.Proofs.YtaooejidkeojjaaDoorW.PrintMore
attribute [local go_sem] max2_int max_two
set_option linter.unusedVariables false
set_option linter.unusedSimpArgs false
set_option maxRecDepth 100000
structure StT (g : H.Gr) (x : WkC) (w0 : World) (al : List (List H.Ac)) (gl : List (List Int)) : Prop where
  ti : H.TabIn w0 x.A x.G al gl
  na : x.na = al.length
  ng : x.ng = gl.length
  T : x.T = g.T
  t0 : 0 ≤ g.T
  t1 : g.T ≤ 1000
  s1 : g.S ≤ 1000
  sz : al.length = (H.statesM g).sts.length
  gz : gl.length = (H.statesM g).sts.length
  sl : (H.statesM g).sts.length ≤ 1000
  fa : ∀ q (hq : q < al.length) a (ha : a < al[q].length), al[q][a] = actN g q a
  la : ∀ q (hq : q < al.length), (al[q].length : Int) = g.T + 1
  fg : ∀ q (hq : q < gl.length) y (hy : y < gl[q].length), gl[q][y] = (stN g q).led.getD y (-1)
  lg : ∀ q (hq : q < gl.length), (gl[q].length : Int) = g.S
  rl : ∀ q (hq : q < al.length) a (ha : a < al[q].length), al[q][a].rd.length ≤ 1000
theorem StT.act {g : H.Gr} {x : WkC} {w0 : World} {al : List (List H.Ac)} {gl : List (List Int)} (h : StT g x w0 al gl) {q a : Nat} (hq : q < (H.statesM g).sts.length) (ha : (a : Int) ≤ g.T) : ∃ (ad ar : Addr) (Ai : Option Addr) (m cr ci : Nat), x.A = some ad ∧ ad.block < w0.heap.size ∧ w0.cell? (ad.add q) = some (.slice (some ar) m cr) ∧ a < m ∧ ar.block < w0.heap.size ∧
    w0.cell? (ar.add (a * 3)) = some (.int .i64 (actN g q a).sh) ∧ w0.cell? ⟨(ar.add (a * 3)).block, (ar.add (a * 3)).off + 1, none⟩ = some (.slice Ai (actN g q a).rd.length ci) ∧ (actN g q a).rd.length ≤ 1000 ∧ H.Rd H.eI 1 w0 w0.heap.size Ai (actN g q a).rd ∧ w0.cell? ⟨(ar.add (a * 3)).block, (ar.add (a * 3)).off + 2, none⟩ = some (.bool (actN g q a).ac) := by
  have hq' : q < al.length := by rw [h.sz]; exact hq
  have hl := h.la q hq'
  have ha' : a < al[q].length := by omega
  obtain ⟨ad, Ar, cr, e, h1, h2, _, h4⟩ := h.ti.a q hq'
  obtain ⟨ar, Ai, ci, rfl, h5, h6, h7, h8, h9, h10⟩ := h4 a ha'
  have ea := h.fa q hq' a ha'
  have hrl := h.rl q hq' a ha'
  rw [ea] at h6 h7 h8 h10 hrl
  exact ⟨ad, ar, Ai, _, cr, ci, e, h1, h2, ha', h5, h6, h7, hrl, h10, h8⟩
theorem StT.led {g : H.Gr} {x : WkC} {w0 : World} {al : List (List H.Ac)} {gl : List (List Int)} (h : StT g x w0 al gl) {q y : Nat} (hq : q < (H.statesM g).sts.length) (hy : (y : Int) < g.S) : ∃ (ad ar : Addr) (m cr : Nat), x.G = some ad ∧ ad.block < w0.heap.size ∧ w0.cell? (ad.add q) = some (.slice (some ar) m cr) ∧ y < m ∧ ar.block < w0.heap.size ∧
    w0.cell? (ar.add y) = some (.int .i64 ((stN g q).led.getD y (-1))) := by
  have hq' : q < gl.length := by rw [h.gz]; exact hq
  have hl := h.lg q hq'
  have hy' : y < gl[q].length := by omega
  obtain ⟨ad, Ar, cr, e, h1, h2, _, h4⟩ := h.ti.g q hq'
  obtain ⟨ar, rfl, h5, h6⟩ := h4.int y hy'
  rw [h.fg q hq' y hy'] at h6
  exact ⟨ad, ar, _, cr, e, h1, h2, hy', h5, h6⟩
def BuildsP (x : WkC) (w0 W : World) (gw : Nat) (row : List Int) (ss : List Int) (n : Nat) (e : Ending) (W' : World) : Prop :=
  e = .returned (.bool true) ∧ ∃ vS', Wk x w0 W' gw row vS' ss n ∧ Kp W W'
set_option maxHeartbeats 8000000 in
theorem leaf_any {g : H.Gr} {x : WkC} {w0 : World} {al : List (List H.Ac)} {gl : List (List Int)} (st : StT g x w0 al gl) {gw : Nat} {row : List Int} (hrow : ∀ v ∈ row, 0 ≤ v ∧ v < g.T) {s p : Int} {q n tq : Nat} (hp : p < 0) (ha : ahd g row n = s) (hn : n < row.length) (hq : q < (H.statesM g).sts.length) (hsh : (actN g q s).sh = (tq : Int))
    (W : World) (vS : Value) (ss : List Int) (hW : Wk x w0 W gw row vS ss n) (hl : ss.getLast? = some (q : Int)) (hss : ss.length < 100000) (hr : row.length < 100000) (A : Option Addr) (c : Nat) :
    Calls Tryd.prog 22 #[.pointer (some ⟨gw, 0, none⟩), .agg #[.int .i64 s, .int .i64 p, .slice A 0 c]] W (BuildsP x w0 W gw row (ss ++ [(tq : Int)]) (n + 1)) := by
  have hs : row.getD n 0 = s := by rw [← ha]; unfold ahd; rw [if_pos hn]
  have hs2 := hrow (row.getD n 0) (by rw [List.getD_eq_getElem?_getD, List.getElem?_eq_getElem hn]; exact List.getElem_mem hn)
  rw [hs] at hs2
  obtain ⟨sn, rfl⟩ := Int.eq_ofNat_of_zero_le hs2.1
  obtain ⟨ad, ar, Ai, m, cr, ci, eA, q1, q2, q3, q4, q5, _, _, _⟩ := st.act (q := q) (a := sn) hq (by omega)
  have esh : (actN g q (sn : Nat)).sh = (tq : Int) := hsh
  rw [esh] at q5
  have hN := st.na
  have hsz := st.sz
  have hsl := st.sl
  obtain ⟨W1, hW1⟩ : ∃ W1 : World, W1 = W.alloc (.cells #[.int .i64 sn, .int .i64 p, .slice A 0 c] 52) := ⟨_, rfl⟩
  have k0 : Below W.heap.size W W1 := by rw [hW1]; exact (Below.refl _ _).alloc (Nat.le_refl _) _
  have K1 := H.Keep.mk (hW.below k0)
  have P1 := H.Keep.mk (Kp.below k0)
  have BT := H.Keep.mk (show H.Blk W1 W.heap.size 52 #[.int .i64 sn, .int .i64 p, .slice A 0 c] by rw [hW1]; exact H.Blk.new _ _ _)
  have HW1 := H.Keep.mk hW1
  clear k0 hW
  go_enter Tryd.func22, Tryd.ntmps22
  go_upto_region 1 with fail
  rw [← HW1.out]
  generalize W.heap.size = gt at BT ⊢
  clear HW1 hW1
  have z0 := BT.out.cell 0
  have z1 := BT.out.cell 1
  simp at z0 z1
  have b4 := K1.out.b.cell 4
  simp [WkC.cells] at b4
  rw [eA] at b4
  have d1 := H.cell_below q2 K1.out.lo (by rw [H.add_block]; exact q1)
  have d2 := H.cell_below q5 K1.out.lo (by rw [H.add_block]; exact q4)
  have i0 : (0:Int) ≤ q := by omega
  have i1 : (q : Int) < x.na := by omega
  have i2 : (0:Int) ≤ sn := by omega
  have i3 : (sn : Int) < m := by omega
  have i4 : decide (p < 0) = true := decide_eq_true hp
  have i5 : ((sn : Int) != sn) = false := by simp
  have i6 : decide ((tq : Int) < 0) = false := decide_eq_false (by omega)
  have KT := H.Keep.mk fun k => top_any (K1.out.drewN k) q hl
  have KA := H.Keep.mk fun k => ahead_any (K1.out.drewN k)
  rw [if_pos hn, hs] at KA
  go_wp2
  go_quiet (first | (go_at_call 23; exact Calls.quiet_of (KT.out _)) | (go_at_call 40; exact Calls.quiet_of (KA.out _)))
  have K2 := H.Keep.mk (K1.out.drewN nq)
  have P2 := H.Keep.mk (P1.out.trans (Kp.below (H.below_drewN (Below.refl _ _) nq)))
  have BT2 := H.Keep.mk (BT.out.drewN nq)
  clear K1 P1 BT z0 z1 b4 d1 d2 KT KA
  generalize W1.drewN nq = W2 at K2 P2 BT2 ⊢
  have z0 := BT2.out.cell 0
  simp at z0
  have KA := H.Keep.mk fun k => ahead_any (K2.out.drewN k)
  rw [if_pos hn, hs] at KA
  go_wp2
  go_quiet (first | (go_at_call 40; exact Calls.quiet_of (KA.out _)))
  have K3 := H.Keep.mk (K2.out.drewN nq)
  have P3 := H.Keep.mk (P2.out.trans (Kp.below (H.below_drewN (Below.refl _ _) nq)))
  clear K2 P2 BT2 z0 KA
  generalize W2.drewN nq = W3 at K3 P3 ⊢
  have b8 := K3.out.b.cell 8
  have f8 := K3.out.b.frozen 8
  simp [WkC.cells] at b8
  have hn5 : n < 100000 := by omega
  go_upto_region 6 with fail
  obtain ⟨K4, Q4⟩ := K3.out.next
  have K5 := H.Keep.mk K4
  have P5 := H.Keep.mk (P3.out.trans Q4)
  clear K4 Q4 K3 P3 b8 f8
  generalize W3.setCell ⟨gw, 8, none⟩ (.int .i64 ((n : Int) + 1)) = W4 at K5 P5 ⊢
  have b7 := K5.out.b.cell 7
  simp [WkC.cells] at b7
  obtain ⟨wq, hwq⟩ : ∃ W : World, W = W4.alloc (.cells #[.int .i64 (tq : Nat)] 3) := ⟨_, rfl⟩
  have hbq : Below W4.heap.size W4 wq := by rw [hwq]; exact (Below.refl _ _).alloc (Nat.le_refl _) _
  have KQ := H.Keep.mk (K5.out.below hbq)
  have PQ := H.Keep.mk (P5.out.trans (Kp.below hbq))
  have CQ := H.Keep.mk (show wq.cell? ⟨W4.heap.size, 0, none⟩ = some (.int .i64 (tq : Nat)) by rw [hwq]; simp [World.cell?_alloc_at])
  have hsq : wq.heap.size = W4.heap.size + 1 := by rw [hwq]; exact World.size_alloc _ _
  clear hbq K5 P5
  go_wp2_with (at_builtin; rw [← hwq]; refine H.wpl_append_intB rfl (.tmp 49) (.tmp 51) rfl vS ss rfl KQ.out.o W4.heap.size (tq : Nat) rfl CQ.out hss KQ.out.lo.size ?_)
  intro v8 w8 ho8 hg8 ha8 hv8
  obtain ⟨A8, m8, c8, e8⟩ := hv8.out
  subst e8
  rw [← hwq] at hg8
  have ha9 : (Value.slice A8 m8 c8).ownBlock = vS.ownBlock ∨ (Value.slice A8 m8 c8).ownBlock = some wq.heap.size := by rw [hsq]; simpa using ha8
  obtain ⟨b9, K9, Q9⟩ := KQ.out.push ho8 hg8 ha9
  have KK := H.Keep.mk K9
  have PP := H.Keep.mk (PQ.out.trans Q9)
  have c7 := b9.cell 7
  have f7 := b9.frozen 7
  simp [WkC.cells] at c7
  clear b9 K9 Q9 ho8 hg8 ha8 ha9 hv8 KQ PQ CQ hwq hsq b7
  go_wp2
  go_ret
  exact ⟨rfl, _, KK.out, PP.out⟩
end Go.Proofs.YtaooejidkeojjaaDoor.PFw
namespace Go.Proofs.YtaooejidkeojjaaDoor.PFw
open Go.RowKit Go.Proofs.YtaooejidkeojjaaDoorW.PrintWords Go.Proofs.YtaooejidkeojjaaDoorW.PrintLast Go.Proofs.YtaooejidkeojjaaDoorW.PrintMore
attribute [local go_sem] max2_int max_two
set_option linter.unusedVariables false
set_option linter.unusedSimpArgs false
set_option maxRecDepth 100000
theorem boks_cons {g : H.Gr} {row : List Int} {t : Tr} {l : List Tr} {q n qe : Nat} (h : Boks g row (t :: l) q n qe) : ∃ q1, Bok g row t q n q1 ∧ Boks g row l q1 (n + (yl t).length) qe := by
  cases h with
  | cons h1 h2 => exact ⟨_, h1, h2⟩
theorem boks_nil {g : H.Gr} {row : List Int} {q n qe : Nat} (h : Boks g row [] q n qe) : q = qe := by
  cases h; rfl
theorem yls_drop (l : List Tr) (i : Nat) (h : i < l.length) : yls (l.drop i) = yl l[i] ++ yls (l.drop (i + 1)) := by
  rw [List.drop_eq_getElem_cons h]; rfl
def fndB (l : List Int) (p : Int) (i : Nat) : Bool := (l.take i).any (fun v => v == p)
theorem fnd_succ (l : List Int) (p : Int) (i : Nat) (h : i < l.length) : fndB l p (i + 1) = (fndB l p i || (l[i] == p)) := by
  unfold fndB
  rw [List.take_succ_eq_append_getElem h, List.any_append]; simp
theorem fnd_all {l : List Int} {p : Int} (h : p ∈ l) : fndB l p l.length = true := by
  unfold fndB
  rw [List.take_length, List.any_eq_true]
  exact ⟨p, h, beq_self_eq_true p⟩
set_option maxHeartbeats 16000000 in
theorem node_any {g : H.Gr} {x : WkC} {w0 : World} {al : List (List H.Ac)} {gl : List (List Int)} (st : StT g x w0 al gl) {gw : Nat} {row : List Int} (hrow : ∀ v ∈ row, 0 ≤ v ∧ v < g.T) (hr : row.length < 100000) {s p : Int} {l : List Tr} {q n qe tq : Nat}
    (hp : 0 ≤ p) (hne : l ≠ []) (hk : Boks g row l q n qe) (hq : q < (H.statesM g).sts.length) (he : qe < (H.statesM g).sts.length) (ht : tq < (H.statesM g).sts.length) (hrd : p ∈ (actN g qe (ahd g row (n + (yls l).length))).rd) (h0 : 0 ≤ s) (h1 : s < g.S) (hgo : (stN g q).led.getD s.toNat (-1) = (tq : Int))
    (N : Nat) (hN : szs l ≤ N)
    (ih : ∀ t ∈ l, ∀ q n tq, Bok g row t q n tq → ∀ (W : World) (vS : Value) (ss : List Int), Wk x w0 W gw row vS ss n → ss.getLast? = some (q : Int) → ss.length + sz t < 100000 → ∀ (A : Option Addr) (c : Nat), Kd.C k52 w0 A t.f2.length t.f2 → t.f2.length ≤ c →
      Calls Tryd.prog 22 #[.pointer (some ⟨gw, 0, none⟩), .agg #[.int .i64 t.f0, .int .i64 t.f1, .slice A t.f2.length c]] W (BuildsP x w0 W gw row (ss ++ [(tq : Int)]) (n + (yl t).length)))
    (W : World) (vS : Value) (ss : List Int) (hW : Wk x w0 W gw row vS ss n) (hl : ss.getLast? = some (q : Int)) (hss : ss.length + szs l < 100000) (A : Option Addr) (c : Nat) (hC : Kd.C k52 w0 A l.length l) (hc : l.length ≤ c) :
    Calls Tryd.prog 22 #[.pointer (some ⟨gw, 0, none⟩), .agg #[.int .i64 s, .int .i64 p, .slice A l.length c]] W (BuildsP x w0 W gw row (ss ++ [(tq : Int)]) (n + (yls l).length)) := by
  obtain ⟨W1, hW1⟩ : ∃ W1 : World, W1 = W.alloc (.cells #[.int .i64 s, .int .i64 p, .slice A l.length c] 52) := ⟨_, rfl⟩
  have k0 : Below W.heap.size W W1 := by rw [hW1]; exact (Below.refl _ _).alloc (Nat.le_refl _) _
  have K1 := H.Keep.mk (hW.below k0)
  have P1 := H.Keep.mk (Kp.below k0)
  have BT := H.Keep.mk (show H.Blk W1 W.heap.size 52 #[.int .i64 s, .int .i64 p, .slice A l.length c] by rw [hW1]; exact H.Blk.new _ _ _)
  have HW1 := H.Keep.mk hW1
  have IH := H.Keep.mk ih
  have HK := H.Keep.mk hk
  have HC := H.Keep.mk hC
  have HL := H.Keep.mk hl
  have HRD := H.Keep.mk hrd
  have ST := H.Keep.mk st
  have HGO := H.Keep.mk hgo
  have szl := szs_len l
  have HSS := H.Keep.mk hss
  clear k0 hW ih hk hC hl hrd st hgo
  go_enter Tryd.func22, Tryd.ntmps22
  go_upto_region 1 with fail
  rw [← HW1.out]
  clear HW1 hW1
  obtain ⟨gt, hgt⟩ : ∃ n, n = W.heap.size := ⟨_, rfl⟩
  rw [← hgt] at BT ⊢
  clear hgt
  have z1 := BT.out.cell 1
  simp at z1
  have i4 : decide (p < 0) = false := decide_eq_false (by omega)
  have hl5 : l.length < 100000 := by omega
  go_wp2
  clear z1 i4
  go_loopg [6] l.length (fun gg s6 wr => ∃ (i qi ni : Nat) (qs : List Int) (vS : Value), i ≤ l.length ∧ l.length - i ≤ gg ∧ s6 = .int .i64 i ∧ H.Keep (qs.length = i) ∧ H.Keep (Boks g row (l.drop i) qi ni qe) ∧ H.Keep (ni + (yls (l.drop i)).length = n + (yls l).length) ∧ H.Keep ((ss ++ qs).getLast? = some (qi : Int)) ∧
    H.Keep (Wk x w0 wr gw row vS (ss ++ qs) ni) ∧ H.Keep (H.Blk wr gt 52 #[.int .i64 s, .int .i64 p, .slice A l.length c]) ∧ H.Keep (Kp W wr))
  case atStart => exact ⟨0, q, n, [], vS, Nat.zero_le _, by omega, rfl, ⟨rfl⟩, ⟨by rw [List.drop_zero]; exact HK.out⟩, ⟨by rw [List.drop_zero]⟩, ⟨by rw [List.append_nil]; exact HL.out⟩, ⟨by rw [List.append_nil]; exact K1.out⟩, BT, P1⟩
  case round =>
  clear K1 BT P1 HK
  obtain ⟨i, qi, ni, qs, vS1, hi, hg, rfl, LQ, HK, HNI, HL1, K1, BT, P1⟩ := hrel
  have z2 := BT.out.cell 2
  simp at z2
  by_cases hlt : i < l.length
  · have hdr := List.drop_eq_getElem_cons hlt
    have hk1 := HK.out
    rw [hdr] at hk1
    obtain ⟨q1, hb1, hbs⟩ := boks_cons hk1
    have hsz : sz l[i] ≤ szs l := sz_mem (List.getElem_mem hlt)
    have hlen : (ss ++ qs).length + sz l[i] < 100000 := by
      have h1 := LQ.out
      have h2 := szs_get l i hlt
      have h3 := szs_take_le l (i + 1)
      have h4 := szs_len (l.take i)
      rw [List.length_take] at h4
      rw [List.length_append]
      have := HSS.out
      omega
    obtain ⟨ad, A2, c2, rfl, m0, m1, m2, lc2, hC2⟩ := at_T52 HC.out (i : Int) (by omega) (by omega)
    rw [rd_tr l i hlt] at m0 m1 m2 lc2 hC2
    simp only [Int.toNat_natCast] at m0 m1 m2
    have n1 := H.cell_lt m0
    rw [H.add_block] at n1
    replace m0 := H.cell_below m0 K1.out.lo (by rw [H.add_block]; exact n1)
    replace m1 := H.cell_below m1 K1.out.lo (by show (ad.add _).block < _; rw [H.add_block]; exact n1)
    replace m2 := H.cell_below m2 K1.out.lo (by show (ad.add _).block < _; rw [H.add_block]; exact n1)
    have KB := H.Keep.mk (IH.out l[i] (List.getElem_mem hlt) qi ni q1 hb1 _ vS1 (ss ++ qs) K1.out HL1.out hlen A2 c2 hC2 lc2)
    have NX := H.Keep.mk hbs
    have NY := H.Keep.mk (show ni + (yl l[i]).length + (yls (l.drop (i + 1))).length = n + (yls l).length by
      have := HNI.out
      rw [yls_drop l i hlt, List.length_append] at this
      omega)
    generalize l[i] = t at *
    clear hk1 hb1 hbs hdr hC2 lc2 hlen hsz
    have f0 : (0:Int) ≤ i := by omega
    have f1 : (i : Int) < l.length := by omega
    go_wp2_with fail
    refine KB.out.mono ?_
    rintro e w9 ⟨rfl, vS2, K2, P2⟩
    have KK := H.Keep.mk K2
    have PP := H.Keep.mk (P1.out.trans P2)
    have BB := H.Keep.mk (P2 _ _ _ BT.out (by decide) (by decide))
    clear K2 P2 KB K1 P1 BT z2 m0 m1 m2
    dsimp only
    go_wp2
    go_roundg (l.length - (i + 1))
    case measure => omega
    case rel => exact ⟨i + 1, q1, ni + (yl t).length, qs ++ [(q1 : Int)], vS2, by omega, by omega, by go_num, ⟨by rw [List.length_append, LQ.out]; rfl⟩, NX, NY, ⟨by rw [← List.append_assoc, List.getLast?_append]; simp⟩, ⟨by rw [← List.append_assoc]; exact KK.out⟩, BB, PP⟩
  have ei : i = l.length := by omega
  subst ei
  have eq1 : qi = qe := boks_nil (by have := HK.out; rw [List.drop_length] at this; exact this)
  subst eq1
  have en : ni = n + (yls l).length := by have := HNI.out; rw [List.drop_length] at this; simpa [yls] using this
  have hrd2 := HRD.out
  rw [← en] at hrd2
  have EN := H.Keep.mk en
  have HRD2 := H.Keep.mk hrd2
  clear en HNI HK HRD hrd2 hi hg
  have hxT := ST.out.T
  obtain ⟨an, han, hanT⟩ : ∃ an : Nat, ahd g row ni = (an : Int) ∧ (an : Int) ≤ g.T := by
    unfold ahd
    by_cases h : ni < row.length
    · rw [if_pos h]
      have := hrow (row.getD ni 0) (by rw [List.getD_eq_getElem?_getD, List.getElem?_eq_getElem h]; exact List.getElem_mem h)
      exact ⟨(row.getD ni 0).toNat, by omega, by omega⟩
    · rw [if_neg h]
      have := ST.out.t0
      exact ⟨g.T.toNat, by omega, by omega⟩
  have hah : (if ni < row.length then row.getD ni 0 else x.T) = (an : Int) := by rw [hxT, ← han]; rfl
  obtain ⟨ad, ar, Ai, m, cr, ci, eA, q1, q2, q3, q4, _, q6, q7, q8, _⟩ := ST.out.act (q := qi) (a := an) he hanT
  rw [han] at HRD2
  generalize (actN g qi (an : Nat)).rd = rd at q6 q7 q8 HRD2
  have hN2 := ST.out.na
  have hsz := ST.out.sz
  have hsl := ST.out.sl
  have i1 : (qi : Int) < x.na := by omega
  obtain ⟨xs, hxs⟩ : ∃ xs, xs = ss ++ qs := ⟨_, rfl⟩
  have lx : xs.length = ss.length + l.length := by rw [hxs, List.length_append, LQ.out]
  have TK := H.Keep.mk (show xs.take ss.length = ss by rw [hxs, List.take_left'] ; rfl)
  have lss := HSS.out
  rw [← hxs] at K1 HL1
  obtain ⟨AS, cS, eS, o2, o3, o4, o5, o6⟩ := K1.out.o.open_
  subst eS
  have LX := H.Keep.mk lx
  clear hxs LQ o4 hsz hN2
  have b4 := K1.out.b.cell 4
  simp [WkC.cells] at b4
  rw [eA] at b4
  have d1 := H.cell_below q2 K1.out.lo (by rw [H.add_block]; exact q1)
  have d2 := H.cell_below q6 K1.out.lo (by show (ar.add _).block < _; rw [H.add_block]; exact q4)
  have i0 : (0:Int) ≤ qi := by omega
  have i2 : (0:Int) ≤ an := by omega
  have i3 : (an : Int) < m := by omega
  have hx5 : xs.length < 100000 := by omega
  have KT := H.Keep.mk fun k => top_any (K1.out.drewN k) qi HL1.out
  have KA := H.Keep.mk fun k => ahead_any (K1.out.drewN k)
  rw [hah] at KA
  have RQ := H.Keep.mk q8
  have lxx := lx
  clear han q8 eA lx lxx o3 o2
  go_upto_region 13 with fail
  go_quiet (first | (go_at_call 23; exact Calls.quiet_of (KT.out _)) | (go_at_call 40; exact Calls.quiet_of (KA.out _)))
  have K2 := H.Keep.mk (K1.out.drewN nq)
  have P2 := H.Keep.mk (P1.out.trans (Kp.below (H.below_drewN (Below.refl _ _) nq)))
  have BT2 := H.Keep.mk (BT.out.drewN nq)
  clear K1 P1 BT z2 b4 d1 d2 KT KA
  generalize wr.drewN nq = W2 at K2 P2 BT2 ⊢
  have FE := H.Keep.mk (fnd_all HRD2.out)
  go_wp2
  go_loopg [8, 9] rd.length (fun gg s8 s9 wr => ∃ i : Nat, i ≤ rd.length ∧ rd.length - i ≤ gg ∧ s8 = .bool (fndB rd p i) ∧ s9 = .int .i64 i ∧ H.Keep (Wk x w0 wr gw row (.slice AS xs.length cS) xs ni) ∧ H.Keep (H.Blk wr gt 52 #[.int .i64 s, .int .i64 p, .slice A l.length c]) ∧ H.Keep (Kp W wr))
  case atStart => exact ⟨0, Nat.zero_le _, by omega, rfl, rfl, K2, BT2, P2⟩
  case round =>
  clear K2 BT2 P2
  obtain ⟨i, hi, hg, rfl, rfl, K1, BT, P1⟩ := hrel
  by_cases hlt2 : i < rd.length
  · have FS := H.Keep.mk (fnd_succ rd p i hlt2)
    generalize fndB rd p i = f0 at *
    obtain ⟨a3, e3, b7, c7⟩ := RQ.out.int i hlt2
    replace c7 := H.cell_below c7 K1.out.lo (by rw [H.add_block]; exact b7)
    subst e3
    have z1 := BT.out.cell 1
    simp at z1
    generalize rd[i] = v at *
    have j0 : (0:Int) ≤ i := by omega
    have j1 : (i : Int) < rd.length := by omega
    cases f0 with
    | true =>
      go_wp2
      go_quiet (fail)
      have K2 := H.Keep.mk (K1.out.drewN nq)
      have P2 := H.Keep.mk (P1.out.trans (Kp.below (H.below_drewN (Below.refl _ _) nq)))
      have BT2 := H.Keep.mk (BT.out.drewN nq)
      clear K1 P1 BT z1 c7
      go_wp2
      go_roundg (rd.length - (i + 1))
      case measure => omega
      case rel => exact ⟨i + 1, by omega, by omega, by rw [FS.out]; rfl, by go_num, K2, BT2, P2⟩
    | false =>
      go_wp2
      go_quiet (fail)
      have K2 := H.Keep.mk (K1.out.drewN nq)
      have P2 := H.Keep.mk (P1.out.trans (Kp.below (H.below_drewN (Below.refl _ _) nq)))
      have BT2 := H.Keep.mk (BT.out.drewN nq)
      clear K1 P1 BT z1 c7
      go_wp2
      go_roundg (rd.length - (i + 1))
      case measure => omega
      case rel => exact ⟨i + 1, by omega, by omega, by rw [FS.out]; rfl, by go_num, K2, BT2, P2⟩
  have ei : i = rd.length := by omega
  subst ei
  rw [FE.out]
  have z0 := BT.out.cell 0
  have z2 := BT.out.cell 2
  simp at z0 z2
  have b7 := K1.out.b.cell 7
  have f7 := K1.out.b.frozen 7
  simp [WkC.cells] at b7
  go_upto_region 19 with fail
  have hwS : IntKind.i64.wrap ((xs.length : Int) - (l.length : Int)) = (ss.length : Int) := by have := LX.out; rw [IntKind.wrap_i64]; omega
  have sl0 : 0 < ss.length := by
    have := HL.out
    cases ss with
    | nil => simp at this
    | cons a l => simp
  obtain ⟨adS, rfl⟩ : ∃ ad, AS = some ad := by
    cases AS with
    | none => have h1 := o6 rfl; have h2 := LX.out; rw [h1] at h2; simp at h2; omega
    | some ad => exact ⟨ad, rfl⟩
  obtain ⟨oS1, oS2, oS3⟩ := o5 adS rfl
  have hcS : xs.length ≤ cS := by
    obtain ⟨A', c', e', h, _⟩ := K1.out.o.open_
    injection e' with _ _ e3
    omega
  have i7 : (ss.length : Int) ≤ cS := by have := LX.out; omega
  have i8 : (0 : Int) ≤ ss.length := by omega
  have KD := H.Keep.mk (K1.out.drewN 1)
  have PD := H.Keep.mk (P1.out.trans (Kp.below (H.below_drewN (Below.refl _ _) 1)))
  have BD := H.Keep.mk (BT.out.drewN 1)
  have dd : wr.drewN 1 = wr.drew := rfl
  rw [dd] at KD PD BD
  have e7 : wr.drew.cell? ⟨gw, 7, none⟩ = some (.slice (some adS) xs.length cS) := b7
  have y7 : wr.drew.frozen? ⟨gw, 7, none⟩ = false := f7
  have y2 : wr.drew.cell? ⟨gt, 2, none⟩ = some (.slice A l.length c) := z2
  obtain ⟨K3, Q3⟩ := KD.out.cut (m := ss.length) (by have := LX.out; omega)
  rw [TK.out] at K3
  have KK := H.Keep.mk K3
  have PP := H.Keep.mk (PD.out.trans Q3)
  have BB := H.Keep.mk (Q3 _ _ _ BD.out (by decide) (by decide))
  have LXK := H.Keep.mk LX.out
  clear K3 Q3 KD PD BD dd K1 P1 BT o5 o6
  go_cut [113] (fun _ wx => H.Keep (Wk x w0 wx gw row (.slice (some adS) ss.length cS) ss ni) ∧ H.Keep (H.Blk wx gt 52 #[.int .i64 s, .int .i64 p, .slice A l.length c]) ∧ H.Keep (Kp W wx))
  case first =>
    go_region
    all_goals (go_wp2_with fail; go_meet)
    all_goals exact ⟨KK, BB, PP⟩
  case rest =>
  obtain ⟨K1, BT, P1⟩ := hcut
  clear KK BB PP e7 y7 y2 b7 f7 z0 z2 hwS
  generalize Value.slice (some adS) ss.length cS = vS3 at K1
  obtain ⟨y, hy⟩ := Int.eq_ofNat_of_zero_le h0
  subst hy
  rw [Int.toNat_natCast] at HGO
  obtain ⟨ag, ah, mg, cg, eG, t1, t2, t3, t4, t5⟩ := ST.out.led (q := q) (y := y) hq (by omega)
  rw [HGO.out] at t5
  have hN3 := ST.out.ng
  have hgz := ST.out.gz
  have k1 : (q : Int) < x.ng := by omega
  have b5 := K1.out.b.cell 5
  simp [WkC.cells] at b5
  rw [eG] at b5
  have d1 := H.cell_below t2 K1.out.lo (by rw [H.add_block]; exact t1)
  have d2 := H.cell_below t5 K1.out.lo (by rw [H.add_block]; exact t4)
  have z0 := BT.out.cell 0
  simp at z0
  have k0 : (0:Int) ≤ q := by omega
  have k2 : (0:Int) ≤ y := by omega
  have k3 : (y : Int) < mg := by omega
  have KT := H.Keep.mk fun k => top_any (K1.out.drewN k) q HL.out
  clear eG hN3 hgz t2 t5
  go_upto_region 20 with fail
  go_quiet (first | (go_at_call 23; exact Calls.quiet_of (KT.out _)))
  have K2 := H.Keep.mk (K1.out.drewN nq)
  have P2 := H.Keep.mk (P1.out.trans (Kp.below (H.below_drewN (Below.refl _ _) nq)))
  clear K1 P1 BT z0 b5 d1 d2 KT
  generalize wc.drewN nq = W3 at K2 P2 ⊢
  have b7 := K2.out.b.cell 7
  simp [WkC.cells] at b7
  have mx : (if (tq : Int) < 0 then (0 : Int) else (tq : Int)) = (tq : Int) := if_neg (by omega)
  have mx2 : decide ((tq : Int) < 0) = false := decide_eq_false (by omega)
  go_upto_region 21 with fail
  obtain ⟨wq, hwq⟩ : ∃ W : World, W = W3.alloc (.cells #[.int .i64 (tq : Nat)] 3) := ⟨_, rfl⟩
  have hbq : Below W3.heap.size W3 wq := by rw [hwq]; exact (Below.refl _ _).alloc (Nat.le_refl _) _
  have KQ := H.Keep.mk (K2.out.below hbq)
  have PQ := H.Keep.mk (P2.out.trans (Kp.below hbq))
  have CQ := H.Keep.mk (show wq.cell? ⟨W3.heap.size, 0, none⟩ = some (.int .i64 (tq : Nat)) by rw [hwq]; simp [World.cell?_alloc_at])
  have hsq : wq.heap.size = W3.heap.size + 1 := by rw [hwq]; exact World.size_alloc _ _
  have hss5 : ss.length < 100000 := by omega
  clear hbq K2 P2
  go_wp2_with (at_builtin; rw [← hwq]; refine H.wpl_append_intB rfl (.tmp 134) (.tmp 137) rfl vS3 ss rfl KQ.out.o W3.heap.size (tq : Nat) rfl CQ.out hss5 KQ.out.lo.size ?_)
  intro v8 w8 ho8 hg8 ha8 hv8
  obtain ⟨A8, m8, c8, e8⟩ := hv8.out
  subst e8
  rw [← hwq] at hg8
  have ha9 : (Value.slice A8 m8 c8).ownBlock = vS3.ownBlock ∨ (Value.slice A8 m8 c8).ownBlock = some wq.heap.size := by rw [hsq]; simpa using ha8
  obtain ⟨b9, K9, Q9⟩ := KQ.out.push ho8 hg8 ha9
  have KK := H.Keep.mk K9
  have PP := H.Keep.mk (PQ.out.trans Q9)
  have c7 := b9.cell 7
  have f7 := b9.frozen 7
  simp [WkC.cells] at c7
  clear b9 K9 Q9 ho8 hg8 ha8 ha9 hv8 KQ PQ CQ hwq hsq b7
  go_wp2
  go_ret
  exact ⟨rfl, _, by rw [← EN.out]; exact KK.out, PP.out⟩
theorem builds_any {g : H.Gr} {x : WkC} {w0 : World} {al : List (List H.Ac)} {gl : List (List Int)} (st : StT g x w0 al gl) {gw : Nat} {row : List Int} (hrow : ∀ v ∈ row, 0 ≤ v ∧ v < g.T) (hr : row.length < 100000) : ∀ (N : Nat) (t : Tr), sz t ≤ N → ∀ q n tq, Bok g row t q n tq → ∀ (W : World) (vS : Value) (ss : List Int), Wk x w0 W gw row vS ss n → ss.getLast? = some (q : Int) → ss.length + sz t < 100000 → ∀ (A : Option Addr) (c : Nat), Kd.C k52 w0 A t.f2.length t.f2 → t.f2.length ≤ c →
      Calls Tryd.prog 22 #[.pointer (some ⟨gw, 0, none⟩), .agg #[.int .i64 t.f0, .int .i64 t.f1, .slice A t.f2.length c]] W (BuildsP x w0 W gw row (ss ++ [(tq : Int)]) (n + (yl t).length)) := by
  intro N
  induction N with
  | zero => intro t h; have := sz_pos t; omega
  | succ N ih =>
    intro t hN q n tq hb W vS ss hW hl hss A c hC hc
    cases hb with
    | @leaf s p q n tq hp ha hn hq ht hsh =>
      have e : (yl (⟨s, p, []⟩ : Tr)).length = 1 := by simp [yl, yls]
      rw [e]
      exact leaf_any st hrow hp ha hn hq hsh W vS ss hW hl (by omega) hr A c
    | @node s p l q n qe tq hp hne hk hq he ht hrd h0 h1 hg =>
      have e : (yl (⟨s, p, l⟩ : Tr)).length = (yls l).length := by
        cases l with
        | nil => exact absurd rfl hne
        | cons k l => simp [yl]
      have hsz : szs l ≤ N := by unfold sz at hN; omega
      rw [e]
      refine node_any st hrow hr hp hne hk hq he ht hrd h0 h1 hg N hsz (fun t ht q n tq hb W vS ss hW hl hs A c hC hc => ih t (Nat.le_trans (sz_mem ht) hsz) q n tq hb W vS ss hW hl hs A c hC hc) W vS ss hW hl ?_ A c hC hc
      unfold sz at hss
      omega
end Go.Proofs.YtaooejidkeojjaaDoor.PFw
namespace Go.Proofs.YtaooejidkeojjaaDoor.PFw
open Go.RowKit Go.Proofs.YtaooejidkeojjaaDoorW.PrintWords Go.Proofs.YtaooejidkeojjaaDoor.H
set_option linter.unusedVariables false
set_option linter.unusedSimpArgs false
theorem wn (j : Nat) (h : j < 9223372036854775807) : wrap64 ((j : Int) + 1) = ((j + 1 : Nat) : Int) := by rw [wrap_nat _ (by omega) (by omega)]; rfl
theorem great_l0 (a b c : Int) (l : List S49) (hl : l.length ≤ 200) : ∀ (n j : Nat) (x : Int), 0 ≤ x → x ≤ 2000 → l.length - j ≤ n → j ≤ l.length → ∃ r, Ev (fun k => rootstocklaw14_Great.l0 k x (j : Int) a b c l) r ∧ (r = false → ∀ p ∈ l.drop j, p.f1.length ≤ 2000) := by
  intro n
  induction n with
  | zero =>
    intro j x hx0 hx hn hj
    refine ⟨false, ⟨1, fun k hk => ?_⟩, fun _ p hp => by rw [List.drop_eq_nil_of_le (by omega)] at hp; cases hp⟩
    obtain ⟨k, rfl⟩ : ∃ m, k = m + 1 := ⟨k - 1, by omega⟩
    show rootstocklaw14_Great.l0 (k + 1) x (j : Int) a b c l = some false
    rw [rootstocklaw14_Great.l0, if_neg (by omega)]
  | succ n ih =>
    intro j x hx0 hx hn hj
    have hw := wn j (by omega)
    by_cases hlt : j < l.length
    · have hsub : Keep (wrap64 (2000 - x) = 2000 - x) := ⟨wrap_nat _ (by omega) (by omega)⟩
      have hr := rd_pr l j hlt
      by_cases hb : ((l[j].f1).length : Int) > 2000 - x
      · refine ⟨true, ⟨1, fun k hk => ?_⟩, fun h => by cases h⟩
        obtain ⟨k, rfl⟩ : ∃ m, k = m + 1 := ⟨k - 1, by omega⟩
        show rootstocklaw14_Great.l0 (k + 1) x (j : Int) a b c l = some true
        rw [rootstocklaw14_Great.l0, if_pos (by omega), if_pos (by omega), hr, hsub.out, if_pos hb]
      · have hadd : Keep (wrap64 (x + ((l[j].f1).length : Int)) = x + ((l[j].f1).length : Int)) := ⟨wrap_nat _ (by omega) (by omega)⟩
        obtain ⟨r, ⟨K, hK⟩, hd⟩ := ih (j + 1) (x + ((l[j].f1).length : Int)) (by omega) (by omega) (by omega) (by omega)
        refine ⟨r, ⟨K + 1, fun k hk => ?_⟩, fun h p hp => ?_⟩
        · obtain ⟨k, rfl⟩ : ∃ m, k = m + 1 := ⟨k - 1, by omega⟩
          show rootstocklaw14_Great.l0 (k + 1) x (j : Int) a b c l = some r
          rw [rootstocklaw14_Great.l0, if_pos (by omega), if_pos (by omega), hr, hsub.out, if_neg hb, hw, hadd.out]
          exact hK k (by omega)
        · rw [List.drop_eq_getElem_cons hlt] at hp
          rcases List.mem_cons.1 hp with rfl | hp
          · omega
          · exact hd h p hp
    · refine ⟨false, ⟨1, fun k hk => ?_⟩, fun _ p hp => by rw [List.drop_eq_nil_of_le (by omega)] at hp; cases hp⟩
      obtain ⟨k, rfl⟩ : ∃ m, k = m + 1 := ⟨k - 1, by omega⟩
      show rootstocklaw14_Great.l0 (k + 1) x (j : Int) a b c l = some false
      rw [rootstocklaw14_Great.l0, if_neg (by omega)]
theorem great_any (a b c : Int) (l : List S49) : ∃ r, Ev (fun k => rootstocklaw14_Great.f k a b c l) r ∧ (r = false → l.length ≤ 200 ∧ ∀ p ∈ l, p.f1.length ≤ 2000) := by
  by_cases hl : (l.length : Int) > 200
  · refine ⟨true, ⟨0, fun k _ => ?_⟩, fun h => by cases h⟩
    show rootstocklaw14_Great.f k a b c l = some true
    rw [rootstocklaw14_Great.f, if_pos hl]
  · obtain ⟨r, ⟨K, hK⟩, hd⟩ := great_l0 a b c l (by omega) l.length 0 0 (by omega) (by omega) (by omega) (Nat.zero_le _)
    refine ⟨r, ⟨K, fun k hk => ?_⟩, fun h => ⟨by omega, fun p hp => hd h p (by simpa using hp)⟩⟩
    show rootstocklaw14_Great.f k a b c l = some r
    rw [rootstocklaw14_Great.f, if_neg hl]
    exact hK k hk
theorem small_any (a b c : Int) (l : List S49) : ∃ r, Ev (fun k => rootstocklaw17_small.f k a b c l) r := by
  obtain ⟨r, ⟨K, hK⟩, _⟩ := great_any a b c l
  cases r with
  | true => exact ⟨false, ⟨K, fun k hk => by show rootstocklaw17_small.f k a b c l = _; have := hK k hk; dsimp only at this; rw [rootstocklaw17_small.f, this]; rfl⟩⟩
  | false => exact ⟨decide ((l.length : Int) ≤ 14), ⟨K, fun k hk => by show rootstocklaw17_small.f k a b c l = _; have := hK k hk; dsimp only at this; rw [rootstocklaw17_small.f, this]; rfl⟩⟩
theorem un_to (l : List S49) : (l.map toPr).map unPr = l := by
  rw [List.map_map]
  have : (unPr ∘ toPr) = id := by funext p; cases p; rfl
  rw [this, List.map_id]
def tabA (g : Gr) : List (List S46) := (statesM g).sts.map (fun s => (actsM g (firstEnd g) s).map unAc)
def tabG (g : Gr) : List (List Int) := (statesM g).sts.map StD.led
theorem get_coll {α : Type} {xs ys : List α} {i : Nat} (h : i < xs.length) (e : xs = ys) : xs[i] = ys[i]'(by rw [← e]; exact h) := by subst e; rfl
theorem led_at {l : List Int} {y : Nat} (h : y < l.length) : l[y] = l.getD y (-1) := by
  rw [List.getD_eq_getElem?_getD, List.getElem?_eq_getElem h]; rfl
theorem rd_len (g : Gr) (s : StD) (out : List Nat) (a : Nat) : (rowP g s out (g.ps.length + 1) a).rd.length ≤ g.ps.length := by
  unfold rowP
  dsimp only
  rw [List.length_map]
  refine Nat.le_trans (List.length_filter_le _ _) ?_
  rw [List.length_range]
  omega
theorem tabAc {g : Gr} : (tabA g).map (List.map toAc) = (statesM g).sts.map (actsM g (firstEnd g)) := by
  unfold tabA
  rw [List.map_map]
  refine List.map_congr_left fun s _ => ?_
  show ((actsM g (firstEnd g) s).map unAc).map toAc = _
  rw [List.map_map]
  have : (toAc ∘ unAc) = id := by funext x; cases x; rfl
  rw [this, List.map_id]
theorem acts_get {g : Gr} {s : StD} {a : Nat} (h : a < (actsM g (firstEnd g) s).length) : (actsM g (firstEnd g) s)[a] = rowP g s (closeM g (firstEnd g) s.core s.mask) (g.ps.length + 1) a := by
  rw [acts_len] at h
  exact Option.some.inj ((List.getElem?_eq_getElem (by rw [acts_len]; exact h)).symm.trans (acts_at g (firstEnd g) s (by omega)))
theorem st_get {g : Gr} {s : Nat} (hs : s < (statesM g).sts.length) : (statesM g).sts[s] = stAt (statesM g).sts s := by
  unfold stAt
  rw [List.getD_eq_getElem?_getD, List.getElem?_eq_getElem hs]; rfl
theorem tab_whole {g : Gr} (h0 : checkI g = 0) : WholeH g.T g.S g.ps.length ((tabA g).map (List.map toAc)) (tabG g) := by
  have fit := GrFit.of h0
  have ok := fit.ok
  obtain ⟨O, _⟩ := statesM_ok fit
  have W := states_way fit
  have E := states_end fit
  have F := (first_spec fit).2.1
  have t0 := ok.t0
  have t1 := ok.t1
  have s0 := ok.s0
  have s1 := ok.s1
  have n1 := ok.n1
  rw [tabAc]
  have lA : ((statesM g).sts.map (actsM g (firstEnd g))).length = (statesM g).sts.length := by rw [List.length_map]
  have lG : (tabG g).length = (statesM g).sts.length := by unfold tabG; rw [List.length_map]
  have L := O.l
  have P := W.p
  have led : ∀ s, s < (statesM g).sts.length → ((stAt (statesM g).sts s).led.length : Int) = g.S := fun s hs => by
    have := (O.ok _ (stAt_mem hs)).2.2
    omega
  have eA : ∀ s (hs : s < ((statesM g).sts.map (actsM g (firstEnd g))).length), ((statesM g).sts.map (actsM g (firstEnd g)))[s] = actsM g (firstEnd g) (stAt (statesM g).sts s) := fun s hs => by
    rw [List.getElem_map, st_get]
  have eG : ∀ s (hs : s < (tabG g).length), (tabG g)[s] = (stAt (statesM g).sts s).led := fun s hs => by
    have hs' : s < (statesM g).sts.length := by omega
    have h1 : (tabG g)[s]? = some ((stAt (statesM g).sts s).led) := by
      unfold tabG
      rw [List.getElem?_map, List.getElem?_eq_getElem hs', st_get hs']; rfl
    exact Option.some.inj ((List.getElem?_eq_getElem hs).symm.trans h1)
  refine ⟨by omega, by omega, by omega, by omega, by omega, by omega, by omega, by omega, fun s hs => ?_, fun s hs => ?_, fun s hs y hy => ?_, by omega, fun s hs a ha hac => ?_, fun s hs a ha hg hy hat => ?_, fun s hs a ha hat => ?_, fun s hs a ha => ?_, fun s hs a ha i hi => ?_⟩
  · rw [eA s hs, acts_len]
    omega
  · rw [eG s hs]; exact led s (by omega)
  · have hs' : s < (statesM g).sts.length := by omega
    have hy' : y < (stAt (statesM g).sts s).led.length := by rw [← eG s hs]; exact hy
    have e : (tabG g)[s][y] = (stAt (statesM g).sts s).led.getD y (-1) := by
      rw [← led_at hy']
      exact get_coll hy (eG s hs)
    rw [e, lA]
    rcases W.led s hs' y (by have := led s hs'; omega) with e | ⟨m, h1, h2, _⟩
    · omega
    · omega
  · have hs' : s < (statesM g).sts.length := by omega
    have e := (get_coll ha (eA s hs)).trans (acts_get _)
    rw [e] at hac
    rw [eA s hs, acts_len] at ha
    have := ac_end ok F (O.ok _ (stAt_mem hs')).1 (E s hs') hac
    omega
  · have hs' : s < (statesM g).sts.length := by omega
    have hy' : a < (stAt (statesM g).sts s).led.length := by rw [← eG s hg]; exact hy
    have e := (get_coll ha (eA s hs)).trans (acts_get _)
    have e2 : (tabG g)[s][a] = (stAt (statesM g).sts s).led.getD a (-1) := by
      rw [← led_at hy']
      exact get_coll hy (eG s hg)
    rw [e, e2]
    show shA g _ a = _
    unfold shA
    rw [if_pos hat]
  · have e := (get_coll ha (eA s hs)).trans (acts_get _)
    rw [e]
    show shA g _ a = _
    unfold shA
    rw [if_neg (by omega)]
  · have e := (get_coll ha (eA s hs)).trans (acts_get _)
    rw [e]
    exact Nat.le_trans (rd_len _ _ _ _) (by omega)
  · have e := (get_coll ha (eA s hs)).trans (acts_get _)
    obtain ⟨x, hx⟩ : ∃ x, x = (List.map (actsM g (firstEnd g)) (statesM g).sts)[s][a] := ⟨_, rfl⟩
    have hi' : i < x.rd.length := by rw [hx]; exact hi
    have key := rd_ok g (stAt (statesM g).sts s) (closeM g (firstEnd g) (stAt (statesM g).sts s).core (stAt (statesM g).sts s).mask) a i (by rw [← e]; exact hi)
    rw [← e, ← hx] at key
    have e3 : x.rd.getD i 0 = x.rd[i] := by rw [List.getD_eq_getElem?_getD, List.getElem?_eq_getElem hi']; rfl
    rw [e3] at key
    have e4 : ∀ (y : Ac) (h : i < y.rd.length), y = x → y.rd[i] = x.rd[i] := fun y h e => by subst e; rfl
    rw [e4 _ hi hx.symm, ← hx]
    exact key
theorem tab_of {g : Gr} (h1 : checkI g = 0) (h2 : ¬ (statesM g).full = true) : tabP g = (g.T, g.S, g.st, g.ps.map unPr, tabA g, tabG g, 0) := by
  unfold tabP
  rw [if_neg (fun e => e h1), if_neg h2]; rfl
theorem fit_row {g : Gr} (h0 : checkI g = 0) : ∀ (N : Nat) (t : Tr), sz t ≤ N → fitI g t = 0 → ∀ v ∈ yl t, 0 ≤ v ∧ v < g.T := by
  intro N
  induction N with
  | zero => intro t h; have := sz_pos t; omega
  | succ N ih =>
    intro t hN hf v hv
    obtain ⟨s, p, l⟩ := t
    obtain ⟨b1, b2, h1 | ⟨h1, h2, h3, h4, h5, h6⟩⟩ := fit_parts hf
    · obtain ⟨h1, rfl, rfl⟩ := h1
      have : v = s := by simpa [yl, yls] using hv
      subst this
      exact ⟨b1, h1⟩
    · have key : ∀ l : List Tr, fitIs g l = 0 → szs l ≤ N → ∀ v ∈ yls l, 0 ≤ v ∧ v < g.T := by
        intro l
        induction l with
        | nil => intro _ _ v hv; simp [yls] at hv
        | cons k l ihl =>
          intro hf hs v hv
          obtain ⟨f1, f2⟩ := fits_cons hf
          simp only [szs] at hs
          simp only [yls] at hv
          rcases List.mem_append.1 hv with hv | hv
          · exact ih k (by omega) f1 v hv
          · exact ihl f2 (by omega) v hv
      have hszl : szs l ≤ N := by unfold sz at hN; omega
      cases l with
      | nil =>
        exfalso
        obtain ⟨q, rfl⟩ := Int.eq_ofNat_of_zero_le h2
        have hq : q < g.ps.length := by omega
        have hne := (GrFit.of h0).ne _ (List.getElem_mem hq)
        have eb : bodyAt g q = g.ps[q].body := by unfold bodyAt; rw [List.getD_eq_getElem?_getD, List.getElem?_eq_getElem hq]; rfl
        rw [Int.toNat_natCast, eb] at h5
        rw [← h5] at hne
        simp at hne
      | cons k l =>
        have : v ∈ yls (k :: l) := by simpa [yl] using hv
        exact key _ h6 hszl v this
end Go.Proofs.YtaooejidkeojjaaDoor.PFw
namespace Go.Proofs.YtaooejidkeojjaaDoor.PFw
open Go.RowKit Go.Proofs.YtaooejidkeojjaaDoorW.PrintWords Go.Proofs.YtaooejidkeojjaaDoorW.PrintLast Go.Proofs.YtaooejidkeojjaaDoorW.PrintMore
set_option linter.unusedVariables false
set_option linter.unusedSimpArgs false
set_option maxRecDepth 100000
theorem Fits_any {a b c : Int} {l : List S49} (t : Tr) (hN : sz t ≤ 1000000) : Ev (fun k => derive_Fits.f k a b c l t.f0 t.f1 t.f2) (if H.checkI (toGr a b c l) = 0 then fitI (toGr a b c l) t else H.checkI (toGr a b c l)) := by
  by_cases h : H.checkI (toGr a b c l) = 0
  · rw [if_pos h]
    obtain ⟨K, hK⟩ := fits_any (a := a) (b := b) (c := c) (l := l) (sz t) t (Nat.le_refl _) hN
    refine ⟨K, fun k hk => ?_⟩
    have := hK k hk
    dsimp only at this ⊢
    rw [derive_Fits.f, grams_Check.f, Option.bind_some, h]
    simpa using this
  · rw [if_neg h]
    refine ⟨0, fun k hk => ?_⟩
    dsimp only
    rw [derive_Fits.f, grams_Check.f, Option.bind_some]
    simp [h]
structure TW (w2 wr : World) (tv : Array Value) : Prop where
  b : Below w2.heap.size w2 wr
  t : H.Blk wr w2.heap.size 30 tv
theorem TW.below {w2 wr w' : World} {tv : Array Value} (h : TW w2 wr tv) (hb : Below wr.heap.size wr w') : TW w2 w' tv := ⟨H.below_step h.b hb h.b.size, h.t.below hb h.t.lt⟩
theorem TW.store (w2 : World) (v0 v1 v2 v3 v4 v5 : Value) : TW w2 ((w2.alloc (.cells #[.int .i64 0, .int .i64 0, .int .i64 0, .slice none 0 0, .slice none 0 0, .slice none 0 0] 30)).setCells w2.heap.size 0 [v0, v1, v2, v3, v4, v5]) #[v0, v1, v2, v3, v4, v5] := by
  have hTB : H.Blk (w2.alloc (.cells #[.int .i64 0, .int .i64 0, .int .i64 0, .slice none 0 0, .slice none 0 0, .slice none 0 0] 30)) w2.heap.size 30 #[.int .i64 0, .int .i64 0, .int .i64 0, .slice none 0 0, .slice none 0 0, .slice none 0 0] := H.Blk.new _ _ _
  have hB3 : Below w2.heap.size w2 (w2.alloc (.cells #[.int .i64 0, .int .i64 0, .int .i64 0, .slice none 0 0, .slice none 0 0, .slice none 0 0] 30)) := (Below.refl _ _).alloc (Nat.le_refl _) _
  have l := Nat.le_refl w2.heap.size
  exact ⟨((((((hB3.setCell l v0).setCell l v1).setCell l v2).setCell l v3).setCell l v4).setCell l v5), ((((((hTB.set_ 0 v0).set_ 1 v1).set_ 2 v2).set_ 3 v3).set_ 4 v4).set_ 5 v5)⟩
theorem TW.there (w2 : World) : (w2.alloc (.cells #[.int .i64 0, .int .i64 0, .int .i64 0, .slice none 0 0, .slice none 0 0, .slice none 0 0] 30)).there w2.heap.size 0 6 := by
  have hTB : H.Blk (w2.alloc (.cells #[.int .i64 0, .int .i64 0, .int .i64 0, .slice none 0 0, .slice none 0 0, .slice none 0 0] 30)) w2.heap.size 30 #[.int .i64 0, .int .i64 0, .int .i64 0, .slice none 0 0, .slice none 0 0, .slice none 0 0] := H.Blk.new _ _ _
  intro j hj
  rw [Nat.zero_add, hTB.cell j, hTB.frozen j]
  refine ⟨?_, rfl⟩
  rcases j with _ | _ | _ | _ | _ | _ | j <;> first | rfl | omega
theorem tab_st {a b c : Int} {l : List S49} (h0 : H.checkI (toGr a b c l) = 0) {x : WkC} {w0 : World} (hti : H.TabIn w0 x.A x.G ((tabA (toGr a b c l)).map (List.map toAc)) (tabG (toGr a b c l))) (hT : x.T = a) (hna : x.na = (tabA (toGr a b c l)).length) (hng : x.ng = (tabG (toGr a b c l)).length) : StT (toGr a b c l) x w0 ((tabA (toGr a b c l)).map (List.map toAc)) (tabG (toGr a b c l)) := by
  have w := tab_whole h0
  have lG : (tabG (toGr a b c l)).length = (H.statesM (toGr a b c l)).sts.length := by unfold tabG; rw [List.length_map]
  have lA : ((tabA (toGr a b c l)).map (List.map toAc)).length = (H.statesM (toGr a b c l)).sts.length := by rw [tabAc, List.length_map]
  have lA2 : ((tabA (toGr a b c l)).map (List.map toAc)).length = (tabA (toGr a b c l)).length := List.length_map _
  have n1 := w.n1
  have eA : ∀ s (hs : s < ((tabA (toGr a b c l)).map (List.map toAc)).length), ((tabA (toGr a b c l)).map (List.map toAc))[s] = H.actsM (toGr a b c l) (H.firstEnd (toGr a b c l)) (H.stAt (H.statesM (toGr a b c l)).sts s) := fun s hs => by
    have h1 : ((tabA (toGr a b c l)).map (List.map toAc))[s]? = some (H.actsM (toGr a b c l) (H.firstEnd (toGr a b c l)) (H.stAt (H.statesM (toGr a b c l)).sts s)) := by
      rw [tabAc, List.getElem?_map, List.getElem?_eq_getElem (show s < (H.statesM (toGr a b c l)).sts.length by omega), st_get]; rfl
    exact Option.some.inj ((List.getElem?_eq_getElem hs).symm.trans h1)
  have eG : ∀ s (hs : s < (tabG (toGr a b c l)).length), (tabG (toGr a b c l))[s] = (H.stAt (H.statesM (toGr a b c l)).sts s).led := fun s hs => by
    have hs' : s < (H.statesM (toGr a b c l)).sts.length := by omega
    have h1 : (tabG (toGr a b c l))[s]? = some ((H.stAt (H.statesM (toGr a b c l)).sts s).led) := by
      unfold tabG
      rw [List.getElem?_map, List.getElem?_eq_getElem hs', st_get hs']; rfl
    exact Option.some.inj ((List.getElem?_eq_getElem hs).symm.trans h1)
  refine ⟨hti, by omega, hng, hT, w.t0, w.t1, w.s1, lA, lG, by omega, fun q hq a' ha => ?_, fun q hq => w.la q hq, fun q hq y hy => ?_, fun q hq => w.lg q hq, fun q hq a' ha => w.rl q hq a' ha⟩
  · exact (get_coll ha (eA q hq)).trans (acts_get _)
  · have hy' : y < (H.stAt (H.statesM (toGr a b c l)).sts q).led.length := by rw [← eG q hq]; exact hy
    rw [get_coll hy (eG q hq), led_at hy']
section
open Go.Proofs.YtaooejidkeojjaaDoor.H
variable {P : Program} {md : Region.Mode} {ops : Array Oper} {Q : Exit → Act → World → Prop} {S : Bool → World → Prop} {T : World → Prop} {d : Nat}
theorem up_set {l : Array Bool} {j : Nat} (h : upD d l = true) : upD d (l.setIfInBounds j true) = true := by
  by_cases e : j = d
  · subst e
    unfold upD at h ⊢
    simp only [Array.getD_eq_getD_getElem?] at h ⊢
    rw [Array.getElem?_setIfInBounds, if_pos rfl]
    split
    · rfl
    · rename_i h2
      rw [Array.getElem?_eq_none (by omega)] at h
      exact h
  · unfold upD at h ⊢
    rw [getD_set_ne false e]
    exact h
theorem way_take_on {i : Nat} {o : Oper} {ro : List Oper} {v : Value} {n : Nat} {listed : Array Bool} {a : Act} {w : World} (hi : ops.toList.drop i = o :: ro) (hs : Region.noSelect ops = true) (hf : Region.free md ops listed i = true) (hr : (Region.ready md ops listed).contains i = true)
    (hQ : ∀ c a w, Q (.panic c) (a.put o.dst v) w → Q (.panic c) a w) (hid : i ≠ d) (hl : upD d listed = true) (hT : ∀ w, S true w → T w) (hy : YieldsIf P ops T o v a) (hS : S true w)
    (h : wayD P md ops Q S d n (listed.setIfInBounds i true) (a.put o.dst v) w) : wayD P md ops Q S d (n + 1) listed a w :=
  way_first (op_of_drop hi) (Region.noSelect_spec hs) hQ hid (fun l => upD d l = true) (fun l j hv _ _ _ => up_set hv) (fun l w hv k => hT w (by unfold upD at k hv; rw [getD_set_ne false hid, hv] at k; exact k)) n listed a w (Region.free_spec (op_of_drop hi) hf) (by simpa using hr) hl hy (by unfold upD at hl ⊢; rw [getD_set_ne false hid, hl]; exact hS) h
end
theorem Wk.start {x : WkC} {w0 W : World} {gw gS : Nat} {row : List Int} (lo : Below w0.heap.size w0 W) (hgw : w0.heap.size ≤ gw) (b : H.Blk W gw 58 (x.cells row (.slice (some ⟨gS, 0, none⟩) 1 1) 0)) (hs : H.Blk W gS 3 #[.int .i64 0]) (hgs : w0.heap.size ≤ gS) (r : H.Rd H.eI 1 W W.heap.size x.R row)
    (rb : ∀ ad, x.R = some ad → ad.block ≠ gw ∧ ad.block ≠ gS ∧ ad.block < W.heap.size) : Wk x w0 W gw row (.slice (some ⟨gS, 0, none⟩) 1 1) [0] 0 :=
  ⟨lo, hgw, b, ⟨rfl, .inr ⟨gS, 1, _, rfl, hgs, hs, Nat.le_refl _, by decide, rfl, rfl⟩⟩, r, fun ad e => ⟨(rb ad e).1, fun h => (rb ad e).2.1 (Option.some.inj h), (rb ad e).2.2⟩⟩
structure LW (w wr : World) (gv tv : Array Value) : Prop where
  bw : Below w.heap.size w wr
  bg : H.Blk wr w.heap.size 24 gv
  bt : H.Blk wr (w.heap.size + 1) 52 tv
theorem LW.below {w wr W : World} {gv tv : Array Value} (h : LW w wr gv tv) (hb : Below wr.heap.size wr W) : LW w W gv tv := ⟨H.below_step h.bw hb h.bw.size, h.bg.below hb h.bg.lt, h.bt.below hb h.bt.lt⟩
set_option maxHeartbeats 8000000 in
theorem follow_any (a b c : Int) (A0 : Option Addr) (c0 : Nat) (l : List S49) (t : Tr) (A2 : Option Addr) (c2 : Nat) (w : World) (hr : Kd.C k49 w A0 l.length l) (hc : l.length ≤ c0) (hr2 : Kd.C k52 w A2 t.f2.length t.f2) (hc2 : t.f2.length ≤ c2) (hl : H.Laid w) :
    Calls Tryd.prog 7 #[.agg #[.int .i64 a, .int .i64 b, .int .i64 c, .slice A0 l.length c0], .agg #[.int .i64 t.f0, .int .i64 t.f1, .slice A2 t.f2.length c2]] w fun e w' => e = .returned (.bool true) ∧ Below w.heap.size w w' := by
  have HR := H.Keep.mk hr
  have HC := H.Keep.mk hc
  have HR2 := H.Keep.mk hr2
  have HC2 := H.Keep.mk hc2
  have HL := H.Keep.mk hl
  have HNT := H.Keep.mk (nodes_any (sz t) t (Nat.le_refl _) 100 (by decide))
  have HFT := H.Keep.mk (fun h => Fits_any (a := a) (b := b) (c := c) (l := l) t h)
  have HFO := H.Keep.mk (fun h1 h2 h3 h4 => follow_all (g := toGr a b c l) h1 h2 t h3 h4)
  have HRW := H.Keep.mk (fun h1 h3 => fit_row (g := toGr a b c l) h1 _ t (Nat.le_refl _) h3)
  have HYS := H.Keep.mk (yl_sz t)
  clear hr hc hl hr2 hc2
  obtain ⟨ts, tp, tk⟩ := t
  dsimp only at *
  go_enter Tryd.func7, Tryd.ntmps7
  go_upto_region 1 with fail
  obtain ⟨gv, hgv⟩ : ∃ gv : Array Value, gv = #[.int .i64 a, .int .i64 b, .int .i64 c, .slice A0 l.length c0] := ⟨_, rfl⟩
  obtain ⟨tv, htv⟩ : ∃ tv : Array Value, tv = #[.int .i64 ts, .int .i64 tp, .slice A2 tk.length c2] := ⟨_, rfl⟩
  obtain ⟨w1, hw1⟩ : ∃ W : World, W = (w.alloc (.cells gv 24)).alloc (.cells tv 52) := ⟨_, rfl⟩
  have L0 := H.Keep.mk (show LW w w1 gv tv from by
    rw [hw1]
    exact ⟨((Below.refl _ _).alloc (Nat.le_refl _) _).alloc (by simp) _, (H.Blk.new _ _ _).alloc _, H.Blk.newAt (by simp)⟩)
  have HT : H.Keep (∀ W, LW w W gv tv → W.cell? ⟨w.heap.size, 0, none⟩ = some (.int .i64 a) ∧ W.cell? ⟨w.heap.size, 1, none⟩ = some (.int .i64 b) ∧ W.cell? ⟨w.heap.size, 2, none⟩ = some (.int .i64 c) ∧ W.cell? ⟨w.heap.size, 3, none⟩ = some (.slice A0 l.length c0) ∧
      W.cell? ⟨w.heap.size + 1, 0, none⟩ = some (.int .i64 ts) ∧ W.cell? ⟨w.heap.size + 1, 1, none⟩ = some (.int .i64 tp) ∧ W.cell? ⟨w.heap.size + 1, 2, none⟩ = some (.slice A2 tk.length c2)) := ⟨fun W h => by
    have h1 := h.bg
    have h2 := h.bt
    rw [hgv] at h1
    rw [htv] at h2
    exact ⟨h1.cell 0, h1.cell 1, h1.cell 2, h1.cell 3, h2.cell 0, h2.cell 1, h2.cell 2⟩⟩
  rw [hgv, htv] at hw1
  rw [← hw1]
  clear hw1 hgv htv
  obtain ⟨gb, hgb⟩ : ∃ n, n = w.heap.size := ⟨_, rfl⟩
  obtain ⟨gq, hgq⟩ : ∃ n, n = w.heap.size + 1 := ⟨_, rfl⟩
  have HGB := H.Keep.mk hgb
  have HGQ := H.Keep.mk hgq
  rw [← hgq, ← hgb] at HT ⊢
  clear hgb hgq
  have KL := H.Keep.mk (show ∀ W, Below w.heap.size w W → Calls Tryd.prog 9 #[] W fun e w' => e = .returned (.bool true) ∧ Below W.heap.size W w' from fun W hW => rootstocklaw17_lives.calls true W rfl (HL.out.below hW))
  obtain ⟨r, hs⟩ := small_any a b c l
  have KS := H.Keep.mk (show Calls Tryd.prog 8 #[.agg #[.int .i64 a, .int .i64 b, .int .i64 c, .slice A0 l.length c0]] w1 fun e w' => e = .returned (.bool r) ∧ Below w1.heap.size w1 w' from by
    obtain ⟨K, hK⟩ := hs
    exact rootstocklaw17_small.calls K a b c A0 c0 l r w1 (Kd.C_below HR.out L0.out.bw) HC.out (hK K (Nat.le_refl _)))
  clear hs
  obtain ⟨g0, g1, g2, g3, z0, z1, z2⟩ := HT.out _ L0.out
  go_wp2_with fail
  refine KS.out.mono ?_
  rintro e w3 ⟨rfl, hb⟩
  have L1 := H.Keep.mk (L0.out.below hb)
  clear KS L0 hb g0 g1 g2 g3 z0 z1 z2
  obtain ⟨g0, g1, g2, g3, z0, z1, z2⟩ := HT.out _ L1.out
  dsimp only
  have lives_ : H.Keep (∀ W, LW w W gv tv → Calls Tryd.prog 9 #[] W fun e w' => e = .returned (.bool true) ∧ Below w.heap.size w w') := ⟨fun W h => (KL.out W h.bw).mono fun e w' ⟨h1, h2⟩ => ⟨h1, H.below_step h.bw h2 h.bw.size⟩⟩
  cases r with
  | false =>
    go_wp2_with fail
    refine (lives_.out _ L1.out).mono ?_
    rintro e w4 ⟨rfl, hb⟩
    have FIN := H.Keep.mk hb
    clear hb
    dsimp only
    go_wp2_with fail
    go_ret
    exact ⟨rfl, FIN.out⟩
  | true =>
  obtain ⟨m, hev, hm1, hm2, hm3⟩ := HNT.out
  have KN := H.Keep.mk (show Calls Tryd.prog 19 #[.agg #[.int .i64 ts, .int .i64 tp, .slice A2 tk.length c2], .int .i64 100] w3 fun e w' => e = .returned (.int .i64 m) ∧ Below w3.heap.size w3 w' from by
    obtain ⟨K, hK⟩ := hev
    exact rootstocklaw14_Nodes.calls K ts tp A2 c2 tk 100 m w3 (Kd.C_below HR2.out L1.out.bw) HC2.out (hK K (Nat.le_refl _)))
  clear hev
  have HM3 := H.Keep.mk hm3
  clear hm3
  go_wp2_with fail
  refine KN.out.mono ?_
  rintro e w4 ⟨rfl, hb⟩
  have L2 := H.Keep.mk (L1.out.below hb)
  clear KN L1 hb g0 g1 g2 g3 z0 z1 z2
  obtain ⟨g0, g1, g2, g3, z0, z1, z2⟩ := HT.out _ L2.out
  dsimp only
  by_cases hm : 100 < m
  · have e1 : decide ((100:Int) < (m:Int)) = true := decide_eq_true (by omega)
    have e1' : (100:Int) < (m:Int) := by omega
    go_wp2_with fail
    refine (lives_.out _ L2.out).mono ?_
    rintro e w4 ⟨rfl, hb⟩
    have FIN := H.Keep.mk hb
    clear hb
    dsimp only
    go_wp2_with fail
    go_ret
    exact ⟨rfl, FIN.out⟩
  have e1 : decide ((100:Int) < (m:Int)) = false := decide_eq_false (by omega)
  have e1' : ¬ (100:Int) < (m:Int) := by omega
  have hsz : sz (⟨ts, tp, tk⟩ : Tr) ≤ 100 := by have := HM3.out (by omega); omega
  have HSZ := H.Keep.mk hsz
  obtain ⟨fi, hfi⟩ : ∃ fi, fi = (if H.checkI (toGr a b c l) = 0 then fitI (toGr a b c l) ⟨ts, tp, tk⟩ else H.checkI (toGr a b c l)) := ⟨_, rfl⟩
  have KF := H.Keep.mk (show Calls Tryd.prog 20 #[.agg #[.int .i64 a, .int .i64 b, .int .i64 c, .slice A0 l.length c0], .agg #[.int .i64 ts, .int .i64 tp, .slice A2 tk.length c2]] w4 fun e w' => e = .returned (.int .i64 fi) ∧ Below w4.heap.size w4 w' from by
    obtain ⟨K, hK⟩ := HFT.out (by omega)
    exact derive_Fits.calls K a b c A0 c0 l ts tp A2 c2 tk fi w4 (Kd.C_below HR.out L2.out.bw) HC.out (Kd.C_below HR2.out L2.out.bw) HC2.out (by rw [hfi]; exact hK K (Nat.le_refl _)))
  have HFI := H.Keep.mk hfi
  clear hfi hsz hm
  go_wp2_with fail
  refine KF.out.mono ?_
  rintro e w5 ⟨rfl, hb⟩
  have L3 := H.Keep.mk (L2.out.below hb)
  clear KF L2 hb g0 g1 g2 g3 z0 z1 z2
  obtain ⟨g0, g1, g2, g3, z0, z1, z2⟩ := HT.out _ L3.out
  dsimp only
  have hfc : fi = 0 ∨ fi ≠ 0 := Decidable.em _
  rcases hfc.symm with hf0 | hf0
  · have e2 : ((fi : Int) != 0) = true := bne_iff_ne.2 hf0
    go_wp2_with fail
    refine (lives_.out _ L3.out).mono ?_
    rintro e w4 ⟨rfl, hb⟩
    have FIN := H.Keep.mk hb
    clear hb
    dsimp only
    go_wp2_with fail
    go_ret
    exact ⟨rfl, FIN.out⟩
  have hsc : ts ≠ c ∨ ts = c := (Decidable.em _).symm
  rcases hsc with hst | hst
  · have e2 : ((fi : Int) != 0) = false := by rw [hf0]; rfl
    have e3 : ((ts : Int) != c) = true := bne_iff_ne.2 hst
    clear hf0
    go_wp2_with fail
    refine (lives_.out _ L3.out).mono ?_
    rintro e w4 ⟨rfl, hb⟩
    have FIN := H.Keep.mk hb
    clear hb
    dsimp only
    go_wp2_with fail
    go_ret
    exact ⟨rfl, FIN.out⟩
  subst hst
  subst hf0
  have hchk : H.checkI (toGr a b ts l) = 0 ∧ fitI (toGr a b ts l) ⟨ts, tp, tk⟩ = 0 := by
    have := HFI.out
    by_cases h : H.checkI (toGr a b ts l) = 0
    · rw [if_pos h] at this; exact ⟨h, this.symm⟩
    · rw [if_neg h] at this; exact absurd this.symm h
  obtain ⟨hk1, hk2⟩ := hchk
  clear hfc e1 e1' hm1 hm2 HM3 HNT HFT HFI
  have u0 : ((ts : Int) != ts) = false := by simp
  obtain ⟨T1, S1, st1, ps1, A1, L1l, e1, hof⟩ : ∃ T1 S1 st1 ps1 A1 L1 e1, tables_Of.f a b ts l = some (T1, S1, st1, ps1, A1, L1, e1) := ⟨_, _, _, _, _, _, _, rfl⟩
  have KO := H.Keep.mk (tables_Of.calls a b ts A0 c0 l T1 S1 st1 ps1 A1 L1l e1 w5 (Kd.C_below HR.out L3.out.bw) HC.out hof (HL.out.below L3.out.bw))
  have HOF := H.Keep.mk hof
  clear hof
  go_wp2_with fail
  refine KO.out.mono ?_
  rintro e w2 ⟨vP, vA, vL, rfl, hP, hA, hTT, hb⟩
  obtain ⟨AP, cP, rfl, hlP, hCP⟩ := Kd.R_reads hP
  obtain ⟨AA, cA, rfl, hlA, hCA⟩ := Kd.R_reads hA
  obtain ⟨AL, cL, rfl, hlL, hCL⟩ := Kd.R_reads hTT
  have KP := H.Keep.mk hCP
  have KA := H.Keep.mk hCA
  have KT := H.Keep.mk hCL
  have KLP := H.Keep.mk hlP
  have KLA := H.Keep.mk hlA
  have KLT := H.Keep.mk hlL
  have L4 := H.Keep.mk (L3.out.below hb)
  clear KO L3 hP hA hTT hCP hCA hCL hlP hlA hlL hb g0 g1 g2 g3 z0 z1 z2 u0
  have TH := H.Keep.mk (TW.there w2)
  have T0 := H.Keep.mk (TW.store w2 (.int .i64 T1) (.int .i64 S1) (.int .i64 st1) (.slice AP ps1.length cP) (.slice AA A1.length cA) (.slice AL L1l.length cL))
  obtain ⟨wr, hwr⟩ : ∃ W : World, W = (w2.alloc (.cells #[.int .i64 0, .int .i64 0, .int .i64 0, .slice none 0 0, .slice none 0 0, .slice none 0 0] 30)).setCells w2.heap.size 0 [.int .i64 T1, .int .i64 S1, .int .i64 st1, .slice AP ps1.length cP, .slice AA A1.length cA, .slice AL L1l.length cL] := ⟨_, rfl⟩
  rw [← hwr] at T0
  have HW := H.Keep.mk hwr
  clear hwr
  dsimp only
  go_upto_region 4 with (refine wpList_store_mid rfl _ _ _ rfl w2.heap.size 0 #[.int .i64 T1, .int .i64 S1, .int .i64 st1, .slice AP ps1.length cP, .slice AA A1.length cA, .slice AL L1l.length cL] rfl rfl TH.out (by kernel_rfl) (by simp [Value.oneCell']) ?_; rw [← HW.out])
  clear TH HW
  have LT := H.Keep.mk (show ∀ W, Below w2.heap.size w2 W → LW w W gv tv from fun W hW => L4.out.below hW)
  clear L4
  by_cases hfu : (H.statesM (toGr a b ts l)).full = true
  · have hof := HOF.out
    unfold tables_Of.f tabP at hof
    rw [if_neg (fun e => e hk1), if_pos hfu] at hof
    simp only [Option.some.injEq, Prod.mk.injEq] at hof
    obtain ⟨rfl, rfl, rfl, rfl, rfl, rfl, rfl⟩ := hof
    have LL := H.Keep.mk (lives_.out _ (LT.out _ T0.out.b))
    clear hfu HOF
    go_wp2_with fail
    refine LL.out.mono ?_
    rintro e w4 ⟨rfl, hb⟩
    have FIN := H.Keep.mk hb
    clear hb
    dsimp only
    go_wp2_with fail
    go_ret
    exact ⟨rfl, FIN.out⟩
  obtain ⟨tq, hbok, htq, hacc⟩ := HFO.out hk1 hfu hk2 rfl
  have HBK := H.Keep.mk hbok
  have HAC := H.Keep.mk hacc
  have HRW2 := H.Keep.mk (HRW.out hk1 hk2)
  have HPS := H.Keep.mk (show 0 < (yl (⟨ts, tp, tk⟩ : Tr)).length from by
    obtain ⟨z, hz, _⟩ := fit_beg hk1 _ _ (Nat.le_refl _) hk2
    obtain ⟨h, _⟩ := List.getElem?_eq_some_iff.1 hz
    exact h)
  have hof := HOF.out
  unfold tables_Of.f at hof
  rw [tab_of hk1 hfu, show (toGr a b ts l).ps.map unPr = l from un_to l] at hof
  simp only [Option.some.injEq, Prod.mk.injEq] at hof
  obtain ⟨rfl, rfl, rfl, rfl, rfl, rfl, rfl⟩ := hof
  have HWH := H.Keep.mk (tab_whole hk1)
  have el : (toGr a b ts l).ps.length = l.length := List.length_map _
  rw [el, show (toGr a b ts l).T = a from rfl, show (toGr a b ts l).S = b from rfl] at HWH
  rw [show (toGr a b ts l).T = a from rfl, show (toGr a b ts l).S = b from rfl, show (toGr a b ts l).st = ts from rfl] at T0
  have KW := H.Keep.mk (show ∀ W, Below w2.heap.size w2 W → Calls Tryd.prog 17 #[.agg #[.int .i64 a, .int .i64 b, .int .i64 ts, .slice AP l.length cP, .slice AA (tabA (toGr a b ts l)).length cA, .slice AL (tabG (toGr a b ts l)).length cL]] W fun e w' => e = .returned (.bool true) ∧ Below W.heap.size W w' from fun W hW => by
    refine rootstocklaw17_whole.calls a b ts AP cP l AA cA (tabA (toGr a b ts l)) AL cL (tabG (toGr a b ts l)) true W (Kd.C_below KP.out hW) KLP.out (Kd.C_below KA.out hW) KLA.out (Kd.C_below KT.out hW) KLT.out ?_
    unfold rootstocklaw17_whole.f
    exact if_pos HWH.out)
  have TI := H.Keep.mk (tabIn_of KA.out KT.out)
  have HST := H.Keep.mk (fun (x : WkC) (w0 : World) (hti : H.TabIn w0 x.A x.G ((tabA (toGr a b ts l)).map (List.map toAc)) (tabG (toGr a b ts l))) hT h1 h2 => tab_st hk1 hti hT h1 h2)
  clear HOF el hfu hk1 hk2 hbok hacc HRW HFO
  rw [show (toGr a b ts l).T = a from rfl, show (toGr a b ts l).S = b from rfl, show (toGr a b ts l).st = ts from rfl]
  generalize hnA : (tabA (toGr a b ts l)).length = nA at T0 KW HST ⊢
  generalize hnG : (tabG (toGr a b ts l)).length = nG at T0 KW HST ⊢
  have HNA := H.Keep.mk hnA
  have HNG := H.Keep.mk hnG
  clear hnA hnG
  obtain ⟨gt, hgt⟩ : ∃ n, n = w2.heap.size := ⟨_, rfl⟩
  have HTT : H.Keep (∀ W, TW w2 W #[.int .i64 a, .int .i64 b, .int .i64 ts, .slice AP l.length cP, .slice AA nA cA, .slice AL nG cL] → W.cell? ⟨gt, 0, none⟩ = some (.int .i64 a) ∧ W.cell? ⟨gt, 1, none⟩ = some (.int .i64 b) ∧ W.cell? ⟨gt, 2, none⟩ = some (.int .i64 ts) ∧ W.cell? ⟨gt, 3, none⟩ = some (.slice AP l.length cP) ∧
      W.cell? ⟨gt, 4, none⟩ = some (.slice AA nA cA) ∧ W.cell? ⟨gt, 5, none⟩ = some (.slice AL nG cL) ∧ W.cell? ⟨gb, 0, none⟩ = some (.int .i64 a) ∧ W.cell? ⟨gb, 2, none⟩ = some (.int .i64 ts) ∧ W.cell? ⟨gq, 0, none⟩ = some (.int .i64 ts) ∧ W.cell? ⟨gq, 1, none⟩ = some (.int .i64 tp) ∧ W.cell? ⟨gq, 2, none⟩ = some (.slice A2 tk.length c2)) := ⟨fun W h => by
    subst hgt
    obtain ⟨g0, g1, g2, g3, z0, z1, z2⟩ := HT.out W (LT.out W h.b)
    exact ⟨h.t.cell 0, h.t.cell 1, h.t.cell 2, h.t.cell 3, h.t.cell 4, h.t.cell 5, g0, g2, z0, z1, z2⟩⟩
  rw [← hgt]
  clear hgt HT
  obtain ⟨t0, t1, t2, t3, t4, t5, g0, g2, z0, z1, z2⟩ := HTT.out wr T0.out
  have KW1 := H.Keep.mk (KW.out _ T0.out.b)
  go_upto_region 6 with fail
  go_wp2_with fail
  refine KW1.out.mono ?_
  rintro e w6 ⟨rfl, hb⟩
  have T2 := H.Keep.mk (T0.out.below hb)
  clear KW1 KW T0 hb t0 t1 t2 t3 t4 t5 g0 g2 z0 z1 z2
  obtain ⟨t0, t1, t2, t3, t4, t5, g0, g2, z0, z1, z2⟩ := HTT.out w6 T2.out
  obtain ⟨row, hrow⟩ : ∃ row, H.Keep (row = yl (⟨ts, tp, tk⟩ : Tr)) := ⟨_, ⟨rfl⟩⟩
  have KY := H.Keep.mk (show ∀ W, Below w6.heap.size w6 W → Calls Tryd.prog 21 #[.agg #[.int .i64 ts, .int .i64 tp, .slice A2 tk.length c2]] W fun e w' => ∃ (gR cR : Nat), e = .returned (.slice (some ⟨gR, 0, none⟩) row.length cR) ∧ W.heap.size ≤ gR ∧ gR < w'.heap.size ∧ H.Rd H.eI 1 w' w'.heap.size (some ⟨gR, 0, none⟩) row ∧ Below W.heap.size W w' from fun W hW => by
    have hl : (yl (⟨ts, tp, tk⟩ : Tr)).length < 8796093022208 := by have := HYS.out; have := HSZ.out; omega
    have hpos : 0 < row.length := by
      rw [hrow.out]
      exact HPS.out
    refine (derive_Yield.calls ts tp A2 c2 tk row W (Kd.C_below HR2.out (LT.out _ (T2.out.b.trans (hW.mono T2.out.b.size))).bw) HC2.out (by unfold derive_Yield.f; rw [if_pos hl, hrow.out])).mono ?_
    rintro e w' ⟨v, rfl, hR, hb⟩
    obtain ⟨gR, cR, ev, h1, h2, _⟩ := Kd.R_form hR hpos
    subst ev
    exact ⟨gR, cR, rfl, h1, h2, rdI_of (Kd.R_reads' hR).2.2, hb⟩)
  have BL := HYS.out
  have HSX := H.Keep.mk (show ∀ W, Below w6.heap.size w6 W → W.cell? ⟨gt, 0, none⟩ = some (.int .i64 a) ∧ W.cell? ⟨gt, 1, none⟩ = some (.int .i64 b) ∧ W.cell? ⟨gt, 2, none⟩ = some (.int .i64 ts) ∧ W.cell? ⟨gt, 3, none⟩ = some (.slice AP l.length cP) ∧
      W.cell? ⟨gt, 4, none⟩ = some (.slice AA nA cA) ∧ W.cell? ⟨gt, 5, none⟩ = some (.slice AL nG cL) ∧ W.cell? ⟨gq, 0, none⟩ = some (.int .i64 ts) ∧ W.cell? ⟨gq, 1, none⟩ = some (.int .i64 tp) ∧ W.cell? ⟨gq, 2, none⟩ = some (.slice A2 tk.length c2) from fun W hW => by
    obtain ⟨a0, a1, a2, a3, a4, a5, _, _, a6, a7, a8⟩ := HTT.out W (T2.out.below hW)
    exact ⟨a0, a1, a2, a3, a4, a5, a6, a7, a8⟩)
  dsimp only
  go_upto_region 8 with fail
  have BD0 : Below w6.heap.size w6 w6.drew := H.below_drew1 (Below.refl _ _)
  have BD1 : Below w6.heap.size w6 (w6.drew.alloc (.cells #[.int .i64 0] 3)) := BD0.alloc (Nat.le_refl _) _
  go_cut [7] (fun s7 wx => ∃ gw gR cR gS : Nat, s7 = .pointer (some ⟨gw, 0, none⟩) ∧ H.Keep (Wk ⟨a, b, ts, AP, l.length, cP, AA, nA, cA, AL, nG, cL, some ⟨gR, 0, none⟩, cR⟩ w6 wx gw row (.slice (some ⟨gS, 0, none⟩) 1 1) [0] 0))
  case first =>
    go_region_held3 (fun W => W.cell? ⟨gt, 0, none⟩ = some (.int .i64 a) ∧ W.cell? ⟨gt, 1, none⟩ = some (.int .i64 b) ∧ W.cell? ⟨gt, 2, none⟩ = some (.int .i64 ts) ∧ W.cell? ⟨gt, 3, none⟩ = some (.slice AP l.length cP) ∧
      W.cell? ⟨gt, 4, none⟩ = some (.slice AA nA cA) ∧ W.cell? ⟨gt, 5, none⟩ = some (.slice AL nG cL) ∧ W.cell? ⟨gq, 0, none⟩ = some (.int .i64 ts) ∧ W.cell? ⟨gq, 1, none⟩ = some (.int .i64 tp) ∧ W.cell? ⟨gq, 2, none⟩ = some (.slice A2 tk.length c2))
      (first | exact HSX.out _ Z9 | exact HSX.out _ (Z9.alloc Z9.size _) | exact HSX.out _ ((Z9.alloc Z9.size _).alloc (by simp; have := Z9.size; omega) _) | exact HSX.out _ BD1 | exact HSX.out _ BD0) (first
      | (go_at_call 21; refine (KY.out _ (by first | exact BD0 | exact BD1)).mono ?_; rintro e w9 ⟨gR, cR, rfl, hR1, hR2, hR3, hb9⟩; have Z9 : Below w6.heap.size w6 w9 := (by first | exact H.below_step BD0 hb9 BD0.size | exact H.below_step BD1 hb9 BD1.size)))
    all_goals (go_wp2_with fail; go_meet)
    all_goals have zs := Z9.size
    · exact ⟨w9.heap.size + 1, gR, cR, w9.heap.size, rfl, ⟨Wk.start ((Z9.alloc Z9.size _).alloc (by simp; omega) _) (by omega) (H.Blk.newAt (by simp)) ((H.Blk.new w9 _ _).alloc _) Z9.size
        ((hR3.below (((Below.refl _ _).alloc (Nat.le_refl _) _).alloc (by simp) _)).mono (by simp; omega)) (fun ad e => by injection e with e; subst e; refine ⟨?_, ?_, ?_⟩ <;> simp <;> omega)⟩⟩
    · have hS := ((H.Blk.new w6 3 #[.int .i64 0]).drew).below hb9 (by simp)
      have hR1' : w6.heap.size + 1 ≤ gR := by simpa using hR1
      exact ⟨w9.heap.size, gR, cR, w6.heap.size, rfl, ⟨Wk.start (Z9.alloc Z9.size _) Z9.size (H.Blk.newAt rfl) (hS.alloc _) (Nat.le_refl _)
        ((hR3.below ((Below.refl _ _).alloc (Nat.le_refl _) _)).mono (by simp)) (fun ad e => by injection e with e; subst e; refine ⟨?_, ?_, ?_⟩ <;> simp <;> omega)⟩⟩
  case rest =>
  obtain ⟨gw, gR, cR, gS, rfl, K⟩ := hcut
  have TI6 := tabIn_of (Kd.C_below KA.out T2.out.b) (Kd.C_below KT.out T2.out.b)
  have ST := H.Keep.mk (HST.out ⟨a, b, ts, AP, l.length, cP, AA, nA, cA, AL, nG, cL, some ⟨gR, 0, none⟩, cR⟩ w6 TI6 rfl rfl rfl)
  have HROW := H.Keep.mk (show ∀ v ∈ row, 0 ≤ v ∧ v < (toGr a b ts l).T from fun v hv => HRW2.out v (by rw [← hrow.out]; exact hv))
  have hrl : row.length < 100000 := by have h1 := HYS.out; have h2 := HSZ.out; rw [hrow.out]; omega
  have KB := H.Keep.mk (show ∀ W vS, Wk ⟨a, b, ts, AP, l.length, cP, AA, nA, cA, AL, nG, cL, some ⟨gR, 0, none⟩, cR⟩ w6 W gw row vS [0] 0 → Calls Tryd.prog 22 #[.pointer (some ⟨gw, 0, none⟩), .agg #[.int .i64 ts, .int .i64 tp, .slice A2 tk.length c2]] W (BuildsP ⟨a, b, ts, AP, l.length, cP, AA, nA, cA, AL, nG, cL, some ⟨gR, 0, none⟩, cR⟩ w6 W gw row [0, (tq : Int)] row.length) from fun W vS hW => by
    have hk := HBK.out
    rw [← hrow.out] at hk
    have h9 := builds_any ST.out HROW.out hrl _ ⟨ts, tp, tk⟩ (Nat.le_refl _) 0 0 tq hk W vS [0] hW rfl (by have := HSZ.out; simp; omega) A2 c2 (Kd.C_below HR2.out (LT.out _ T2.out.b).bw) HC2.out
    rw [Nat.zero_add, ← hrow.out] at h9
    exact h9)
  obtain ⟨an, han⟩ := Int.eq_ofNat_of_zero_le (show 0 ≤ a from ST.out.t0)
  subst han
  obtain ⟨ad, ar, Ai, mr, cr, ci, eA, q1, q2, q3, q4, _, _, _, _, q9⟩ := ST.out.act (q := tq) (a := an) htq (Int.le_refl _)
  have hac : (actN (toGr an b ts l) tq (an : Nat)).ac = true := HAC.out
  rw [hac] at q9
  have eA : AA = some ad := eA
  subst eA
  have hN2 : nA = _ := ST.out.na
  have hsz := ST.out.sz
  have i1 : (tq : Int) < nA := by omega
  have i0 : (0 : Int) ≤ tq := by omega
  have i2 : (0 : Int) ≤ an := by omega
  have i3 : (an : Int) < mr := by omega
  clear hN2 hsz hac t0 t1 t2 t3 t4 t5 g0 g2 z0 z1 z2
  have T3 := H.Keep.mk (T2.out.below K.out.lo)
  obtain ⟨t0, t1, t2, t3, t4, t5, g0, g2, z0, z1, z2⟩ := HTT.out wc T3.out
  have KB1 := H.Keep.mk (KB.out wc.drew _ (K.out.drewN 1))
  have KTOP := H.Keep.mk (show ∀ W vS, Wk ⟨an, b, ts, AP, l.length, cP, some ad, nA, cA, AL, nG, cL, some ⟨gR, 0, none⟩, cR⟩ w6 W gw row vS [0, (tq : Int)] row.length → Calls Tryd.prog 23 #[.pointer (some ⟨gw, 0, none⟩)] W fun e W' => e = .returned (.int .i64 tq) ∧ ∃ k, W' = W.drewN k from fun W vS hW => top_any hW (tq : Int) rfl)
  have FCT := H.Keep.mk (show ∀ W vS, Wk ⟨an, b, ts, AP, l.length, cP, some ad, nA, cA, AL, nG, cL, some ⟨gR, 0, none⟩, cR⟩ w6 W gw row vS [0, (tq : Int)] row.length → LW w W gv tv ∧ W.cell? ⟨gw, 8, none⟩ = some (.int .i64 row.length) ∧ W.cell? ⟨gw, 6, none⟩ = some (.slice (some ⟨gR, 0, none⟩) row.length cR) ∧ W.cell? ⟨gt, 4, none⟩ = some (.slice (some ad) nA cA) ∧ W.cell? ⟨gb, 0, none⟩ = some (.int .i64 an) ∧ W.cell? (ad.add tq) = some (.slice (some ar) mr cr) ∧
      W.cell? ⟨(ar.add (an * 3)).block, (ar.add (an * 3)).off + 2, none⟩ = some (.bool true) from fun W vS hW => by
    obtain ⟨_, _, _, _, a4, _, a6, _, _, _, _⟩ := HTT.out W (T2.out.below hW.lo)
    exact ⟨LT.out W (T2.out.below hW.lo).b, hW.b.cell 8, hW.b.cell 6, a4, a6, H.cell_below q2 hW.lo (by rw [H.add_block]; exact q1), H.cell_below q9 hW.lo (by show (ar.add _).block < _; rw [H.add_block]; exact q4)⟩)
  clear T3 t0 t1 t2 t3 t4 t5 g0 g2 q2 q9 K KB
  go_upto_region 9 with fail
  have LVK := H.Keep.mk (show ∀ W, LW w W gv tv → Calls Tryd.prog 9 #[] W fun e w' => e = .returned (.bool true) ∧ Below w.heap.size w w' ∧ Below W.heap.size W w' from fun W h => (KL.out W h.bw).mono fun e w' ⟨h1, h2⟩ => ⟨h1, H.below_step h.bw h2 h.bw.size, h2⟩)
  have PST := H.Keep.mk (show ∀ W vS, Wk ⟨an, b, ts, AP, l.length, cP, some ad, nA, cA, AL, nG, cL, some ⟨gR, 0, none⟩, cR⟩ w6 W gw row vS [0, (tq : Int)] row.length → ∀ bb : Bool, bb = true → ((bb = false → (W.cell? ⟨gq, 0, none⟩ = some (.int .i64 ts) ∧ W.cell? ⟨gq, 1, none⟩ = some (.int .i64 tp) ∧ W.cell? ⟨gq, 2, none⟩ = some (.slice A2 tk.length c2))) ∧ (bb = true → (W.cell? ⟨gw, 8, none⟩ = some (.int .i64 row.length) ∧ W.cell? ⟨gw, 6, none⟩ = some (.slice (some ⟨gR, 0, none⟩) row.length cR) ∧ W.cell? ⟨gt, 4, none⟩ = some (.slice (some ad) nA cA) ∧ W.cell? ⟨gb, 0, none⟩ = some (.int .i64 an) ∧ W.cell? (ad.add tq) = some (.slice (some ar) mr cr) ∧ W.cell? ⟨(ar.add (an * 3)).block, (ar.add (an * 3)).off + 2, none⟩ = some (.bool true)))) from fun W vS hW bb hbb => ⟨fun h => H.up_no hbb h, fun _ => (FCT.out W vS hW).2⟩)
  refine H.wp_region_way (d := 2) (S := fun bb W => (bb = false → (W.cell? ⟨gq, 0, none⟩ = some (.int .i64 ts) ∧ W.cell? ⟨gq, 1, none⟩ = some (.int .i64 tp) ∧ W.cell? ⟨gq, 2, none⟩ = some (.slice A2 tk.length c2))) ∧ (bb = true → (W.cell? ⟨gw, 8, none⟩ = some (.int .i64 row.length) ∧ W.cell? ⟨gw, 6, none⟩ = some (.slice (some ⟨gR, 0, none⟩) row.length cR) ∧ W.cell? ⟨gt, 4, none⟩ = some (.slice (some ad) nA cA) ∧ W.cell? ⟨gb, 0, none⟩ = some (.int .i64 an) ∧ W.cell? (ad.add tq) = some (.slice (some ar) mr cr) ∧ W.cell? ⟨(ar.add (an * 3)).block, (ar.add (an * 3)).off + 2, none⟩ = some (.bool true)))) (by kernel_rfl) ?_
  have hS0 : ((false = false → (wc.drew.cell? ⟨gq, 0, none⟩ = some (.int .i64 ts) ∧ wc.drew.cell? ⟨gq, 1, none⟩ = some (.int .i64 tp) ∧ wc.drew.cell? ⟨gq, 2, none⟩ = some (.slice A2 tk.length c2))) ∧ (false = true → (wc.drew.cell? ⟨gw, 8, none⟩ = some (.int .i64 row.length) ∧ wc.drew.cell? ⟨gw, 6, none⟩ = some (.slice (some ⟨gR, 0, none⟩) row.length cR) ∧ wc.drew.cell? ⟨gt, 4, none⟩ = some (.slice (some ad) nA cA) ∧ wc.drew.cell? ⟨gb, 0, none⟩ = some (.int .i64 an) ∧ wc.drew.cell? (ad.add tq) = some (.slice (some ar) mr cr) ∧ wc.drew.cell? ⟨(ar.add (an * 3)).block, (ar.add (an * 3)).off + 2, none⟩ = some (.bool true)))) := ⟨fun _ => ⟨z0, z1, z2⟩, fun h => Bool.noConfusion h⟩
  (refine H.way_take_till (d := 2) (T := fun W => W.cell? ⟨gq, 0, none⟩ = some (.int .i64 ts) ∧ W.cell? ⟨gq, 1, none⟩ = some (.int .i64 tp) ∧ W.cell? ⟨gq, 2, none⟩ = some (.slice A2 tk.length c2)) (i := 0) (v := ?_) rfl (by kernel_rfl) (by kernel_rfl) (by kernel_rfl) (fun _ _ _ h => h) (by decide) rfl (by kernel_rfl) (by kernel_rfl) (fun _ h => h.1 rfl) (Or.inl ⟨by rfl, ?_⟩) hS0 ?_; rotate_left; (· intro w hSw; (try dsimp only at hSw); go_simp; all_goals (with_reducible rfl)); (try simp only [Act.put, List.setIfInBounds_toArray, List.set_cons_zero, List.set_cons_succ]))
  (refine H.way_take_till (d := 2) (T := fun W => W.cell? ⟨gq, 0, none⟩ = some (.int .i64 ts) ∧ W.cell? ⟨gq, 1, none⟩ = some (.int .i64 tp) ∧ W.cell? ⟨gq, 2, none⟩ = some (.slice A2 tk.length c2)) (i := 1) (v := ?_) rfl (by kernel_rfl) (by kernel_rfl) (by kernel_rfl) (fun _ _ _ h => h) (by decide) rfl (by kernel_rfl) (by kernel_rfl) (fun _ h => h.1 rfl) (Or.inl ⟨by rfl, ?_⟩) hS0 ?_; rotate_left; (· intro w hSw; (try dsimp only at hSw); go_simp; all_goals (with_reducible rfl)); (try simp only [Act.put, List.setIfInBounds_toArray, List.set_cons_zero, List.set_cons_succ]))
  clear hS0
  refine H.way_one (i := 2) (by kernel_rfl) rfl (fun K hK => ?_)
  go_simp
  go_at_call 22
  refine KB1.out.mono ?_
  rintro e w9 ⟨rfl, vS9, K9, _⟩
  have K9' := H.Keep.mk K9
  clear K9
  have hS1 := PST.out w9 _ K9'.out
  refine hK.out _ _ (hS1 _ (by kernel_rfl)) ?_
  clear hK K
  have hS2 := hS1 true rfl
  (refine way_take_on (d := 2) (T := fun W => W.cell? ⟨gw, 8, none⟩ = some (.int .i64 row.length) ∧ W.cell? ⟨gw, 6, none⟩ = some (.slice (some ⟨gR, 0, none⟩) row.length cR) ∧ W.cell? ⟨gt, 4, none⟩ = some (.slice (some ad) nA cA) ∧ W.cell? ⟨gb, 0, none⟩ = some (.int .i64 an) ∧ W.cell? (ad.add tq) = some (.slice (some ar) mr cr) ∧ W.cell? ⟨(ar.add (an * 3)).block, (ar.add (an * 3)).off + 2, none⟩ = some (.bool true)) (i := 3) (v := ?_) rfl (by kernel_rfl) (by kernel_rfl) (by kernel_rfl) (fun _ _ _ h => h) (by decide) (by kernel_rfl) (fun _ h => h.2 rfl) (Or.inl ⟨by rfl, ?_⟩) hS2 ?_; rotate_left; (· intro w hSw; (try dsimp only at hSw); go_simp; all_goals (with_reducible rfl)); (try simp only [Act.put, List.setIfInBounds_toArray, List.set_cons_zero, List.set_cons_succ]))
  (refine way_take_on (d := 2) (T := fun W => W.cell? ⟨gw, 8, none⟩ = some (.int .i64 row.length) ∧ W.cell? ⟨gw, 6, none⟩ = some (.slice (some ⟨gR, 0, none⟩) row.length cR) ∧ W.cell? ⟨gt, 4, none⟩ = some (.slice (some ad) nA cA) ∧ W.cell? ⟨gb, 0, none⟩ = some (.int .i64 an) ∧ W.cell? (ad.add tq) = some (.slice (some ar) mr cr) ∧ W.cell? ⟨(ar.add (an * 3)).block, (ar.add (an * 3)).off + 2, none⟩ = some (.bool true)) (i := 4) (v := ?_) rfl (by kernel_rfl) (by kernel_rfl) (by kernel_rfl) (fun _ _ _ h => h) (by decide) (by kernel_rfl) (fun _ h => h.2 rfl) (Or.inl ⟨by rfl, ?_⟩) hS2 ?_; rotate_left; (· intro w hSw; (try dsimp only at hSw); go_simp; all_goals (with_reducible rfl)); (try simp only [Act.put, List.setIfInBounds_toArray, List.set_cons_zero, List.set_cons_succ]))
  (refine way_take_on (d := 2) (T := fun W => W.cell? ⟨gw, 8, none⟩ = some (.int .i64 row.length) ∧ W.cell? ⟨gw, 6, none⟩ = some (.slice (some ⟨gR, 0, none⟩) row.length cR) ∧ W.cell? ⟨gt, 4, none⟩ = some (.slice (some ad) nA cA) ∧ W.cell? ⟨gb, 0, none⟩ = some (.int .i64 an) ∧ W.cell? (ad.add tq) = some (.slice (some ar) mr cr) ∧ W.cell? ⟨(ar.add (an * 3)).block, (ar.add (an * 3)).off + 2, none⟩ = some (.bool true)) (i := 5) (v := ?_) rfl (by kernel_rfl) (by kernel_rfl) (by kernel_rfl) (fun _ _ _ h => h) (by decide) (by kernel_rfl) (fun _ h => h.2 rfl) (Or.inl ⟨by rfl, ?_⟩) hS2 ?_; rotate_left; (· intro w hSw; (try dsimp only at hSw); go_simp; all_goals (with_reducible rfl)); (try simp only [Act.put, List.setIfInBounds_toArray, List.set_cons_zero, List.set_cons_succ]))
  (refine way_take_on (d := 2) (T := fun W => W.cell? ⟨gw, 8, none⟩ = some (.int .i64 row.length) ∧ W.cell? ⟨gw, 6, none⟩ = some (.slice (some ⟨gR, 0, none⟩) row.length cR) ∧ W.cell? ⟨gt, 4, none⟩ = some (.slice (some ad) nA cA) ∧ W.cell? ⟨gb, 0, none⟩ = some (.int .i64 an) ∧ W.cell? (ad.add tq) = some (.slice (some ar) mr cr) ∧ W.cell? ⟨(ar.add (an * 3)).block, (ar.add (an * 3)).off + 2, none⟩ = some (.bool true)) (i := 6) (v := ?_) rfl (by kernel_rfl) (by kernel_rfl) (by kernel_rfl) (fun _ _ _ h => h) (by decide) (by kernel_rfl) (fun _ h => h.2 rfl) (Or.inl ⟨by rfl, ?_⟩) hS2 ?_; rotate_left; (· intro w hSw; (try dsimp only at hSw); go_simp; all_goals (with_reducible rfl)); (try simp only [Act.put, List.setIfInBounds_toArray, List.set_cons_zero, List.set_cons_succ]))
  (refine way_take_on (d := 2) (T := fun W => W.cell? ⟨gw, 8, none⟩ = some (.int .i64 row.length) ∧ W.cell? ⟨gw, 6, none⟩ = some (.slice (some ⟨gR, 0, none⟩) row.length cR) ∧ W.cell? ⟨gt, 4, none⟩ = some (.slice (some ad) nA cA) ∧ W.cell? ⟨gb, 0, none⟩ = some (.int .i64 an) ∧ W.cell? (ad.add tq) = some (.slice (some ar) mr cr) ∧ W.cell? ⟨(ar.add (an * 3)).block, (ar.add (an * 3)).off + 2, none⟩ = some (.bool true)) (i := 7) (v := ?_) rfl (by kernel_rfl) (by kernel_rfl) (by kernel_rfl) (fun _ _ _ h => h) (by decide) (by kernel_rfl) (fun _ h => h.2 rfl) (Or.inl ⟨by rfl, ?_⟩) hS2 ?_; rotate_left; (· intro w hSw; (try dsimp only at hSw); go_simp; all_goals (with_reducible rfl)); (try simp only [Act.put, List.setIfInBounds_toArray, List.set_cons_zero, List.set_cons_succ]))
  (refine way_take_on (d := 2) (T := fun W => W.cell? ⟨gw, 8, none⟩ = some (.int .i64 row.length) ∧ W.cell? ⟨gw, 6, none⟩ = some (.slice (some ⟨gR, 0, none⟩) row.length cR) ∧ W.cell? ⟨gt, 4, none⟩ = some (.slice (some ad) nA cA) ∧ W.cell? ⟨gb, 0, none⟩ = some (.int .i64 an) ∧ W.cell? (ad.add tq) = some (.slice (some ar) mr cr) ∧ W.cell? ⟨(ar.add (an * 3)).block, (ar.add (an * 3)).off + 2, none⟩ = some (.bool true)) (i := 8) (v := ?_) rfl (by kernel_rfl) (by kernel_rfl) (by kernel_rfl) (fun _ _ _ h => h) (by decide) (by kernel_rfl) (fun _ h => h.2 rfl) (Or.inl ⟨by rfl, ?_⟩) hS2 ?_; rotate_left; (· intro w hSw; (try dsimp only at hSw); go_simp; all_goals (with_reducible rfl)); (try simp only [Act.put, List.setIfInBounds_toArray, List.set_cons_zero, List.set_cons_succ]))
  (refine way_take_on (d := 2) (T := fun W => W.cell? ⟨gw, 8, none⟩ = some (.int .i64 row.length) ∧ W.cell? ⟨gw, 6, none⟩ = some (.slice (some ⟨gR, 0, none⟩) row.length cR) ∧ W.cell? ⟨gt, 4, none⟩ = some (.slice (some ad) nA cA) ∧ W.cell? ⟨gb, 0, none⟩ = some (.int .i64 an) ∧ W.cell? (ad.add tq) = some (.slice (some ar) mr cr) ∧ W.cell? ⟨(ar.add (an * 3)).block, (ar.add (an * 3)).off + 2, none⟩ = some (.bool true)) (i := 9) (v := ?_) rfl (by kernel_rfl) (by kernel_rfl) (by kernel_rfl) (fun _ _ _ h => h) (by decide) (by kernel_rfl) (fun _ h => h.2 rfl) (Or.inl ⟨by rfl, ?_⟩) hS2 ?_; rotate_left; (· intro w hSw; (try dsimp only at hSw); go_simp; all_goals (with_reducible rfl)); (try simp only [Act.put, List.setIfInBounds_toArray, List.set_cons_zero, List.set_cons_succ]))
  (refine way_take_on (d := 2) (T := fun W => W.cell? ⟨gw, 8, none⟩ = some (.int .i64 row.length) ∧ W.cell? ⟨gw, 6, none⟩ = some (.slice (some ⟨gR, 0, none⟩) row.length cR) ∧ W.cell? ⟨gt, 4, none⟩ = some (.slice (some ad) nA cA) ∧ W.cell? ⟨gb, 0, none⟩ = some (.int .i64 an) ∧ W.cell? (ad.add tq) = some (.slice (some ar) mr cr) ∧ W.cell? ⟨(ar.add (an * 3)).block, (ar.add (an * 3)).off + 2, none⟩ = some (.bool true)) (i := 10) (v := ?_) rfl (by kernel_rfl) (by kernel_rfl) (by kernel_rfl) (fun _ _ _ h => h) (by decide) (by kernel_rfl) (fun _ h => h.2 rfl) (Or.inl ⟨by rfl, ?_⟩) hS2 ?_; rotate_left; (· intro w hSw; (try dsimp only at hSw); go_simp; all_goals (with_reducible rfl)); (try simp only [Act.put, List.setIfInBounds_toArray, List.set_cons_zero, List.set_cons_succ]))
  (refine way_take_on (d := 2) (T := fun W => W.cell? ⟨gw, 8, none⟩ = some (.int .i64 row.length) ∧ W.cell? ⟨gw, 6, none⟩ = some (.slice (some ⟨gR, 0, none⟩) row.length cR) ∧ W.cell? ⟨gt, 4, none⟩ = some (.slice (some ad) nA cA) ∧ W.cell? ⟨gb, 0, none⟩ = some (.int .i64 an) ∧ W.cell? (ad.add tq) = some (.slice (some ar) mr cr) ∧ W.cell? ⟨(ar.add (an * 3)).block, (ar.add (an * 3)).off + 2, none⟩ = some (.bool true)) (i := 11) (v := ?_) rfl (by kernel_rfl) (by kernel_rfl) (by kernel_rfl) (fun _ _ _ h => h) (by decide) (by kernel_rfl) (fun _ h => h.2 rfl) (Or.inl ⟨by rfl, ?_⟩) hS2 ?_; rotate_left; (· intro w hSw; (try dsimp only at hSw); go_simp; all_goals (with_reducible rfl)); (try simp only [Act.put, List.setIfInBounds_toArray, List.set_cons_zero, List.set_cons_succ]))
  (refine way_take_on (d := 2) (T := fun W => W.cell? ⟨gw, 8, none⟩ = some (.int .i64 row.length) ∧ W.cell? ⟨gw, 6, none⟩ = some (.slice (some ⟨gR, 0, none⟩) row.length cR) ∧ W.cell? ⟨gt, 4, none⟩ = some (.slice (some ad) nA cA) ∧ W.cell? ⟨gb, 0, none⟩ = some (.int .i64 an) ∧ W.cell? (ad.add tq) = some (.slice (some ar) mr cr) ∧ W.cell? ⟨(ar.add (an * 3)).block, (ar.add (an * 3)).off + 2, none⟩ = some (.bool true)) (i := 12) (v := ?_) rfl (by kernel_rfl) (by kernel_rfl) (by kernel_rfl) (fun _ _ _ h => h) (by decide) (by kernel_rfl) (fun _ h => h.2 rfl) (Or.inl ⟨by rfl, ?_⟩) hS2 ?_; rotate_left; (· intro w hSw; (try dsimp only at hSw); go_simp; all_goals (with_reducible rfl)); (try simp only [Act.put, List.setIfInBounds_toArray, List.set_cons_zero, List.set_cons_succ]))
  (refine way_take_on (d := 2) (T := fun W => W.cell? ⟨gw, 8, none⟩ = some (.int .i64 row.length) ∧ W.cell? ⟨gw, 6, none⟩ = some (.slice (some ⟨gR, 0, none⟩) row.length cR) ∧ W.cell? ⟨gt, 4, none⟩ = some (.slice (some ad) nA cA) ∧ W.cell? ⟨gb, 0, none⟩ = some (.int .i64 an) ∧ W.cell? (ad.add tq) = some (.slice (some ar) mr cr) ∧ W.cell? ⟨(ar.add (an * 3)).block, (ar.add (an * 3)).off + 2, none⟩ = some (.bool true)) (i := 13) (v := ?_) rfl (by kernel_rfl) (by kernel_rfl) (by kernel_rfl) (fun _ _ _ h => h) (by decide) (by kernel_rfl) (fun _ h => h.2 rfl) (Or.inl ⟨by rfl, ?_⟩) hS2 ?_; rotate_left; (· intro w hSw; (try dsimp only at hSw); go_simp; all_goals (with_reducible rfl)); (try simp only [Act.put, List.setIfInBounds_toArray, List.set_cons_zero, List.set_cons_succ]))
  (refine way_take_on (d := 2) (T := fun W => W.cell? ⟨gw, 8, none⟩ = some (.int .i64 row.length) ∧ W.cell? ⟨gw, 6, none⟩ = some (.slice (some ⟨gR, 0, none⟩) row.length cR) ∧ W.cell? ⟨gt, 4, none⟩ = some (.slice (some ad) nA cA) ∧ W.cell? ⟨gb, 0, none⟩ = some (.int .i64 an) ∧ W.cell? (ad.add tq) = some (.slice (some ar) mr cr) ∧ W.cell? ⟨(ar.add (an * 3)).block, (ar.add (an * 3)).off + 2, none⟩ = some (.bool true)) (i := 14) (v := ?_) rfl (by kernel_rfl) (by kernel_rfl) (by kernel_rfl) (fun _ _ _ h => h) (by decide) (by kernel_rfl) (fun _ h => h.2 rfl) (Or.inl ⟨by rfl, ?_⟩) hS2 ?_; rotate_left; (· intro w hSw; (try dsimp only at hSw); go_simp; all_goals (with_reducible rfl)); (try simp only [Act.put, List.setIfInBounds_toArray, List.set_cons_zero, List.set_cons_succ]))
  (refine way_take_on (d := 2) (T := fun W => W.cell? ⟨gw, 8, none⟩ = some (.int .i64 row.length) ∧ W.cell? ⟨gw, 6, none⟩ = some (.slice (some ⟨gR, 0, none⟩) row.length cR) ∧ W.cell? ⟨gt, 4, none⟩ = some (.slice (some ad) nA cA) ∧ W.cell? ⟨gb, 0, none⟩ = some (.int .i64 an) ∧ W.cell? (ad.add tq) = some (.slice (some ar) mr cr) ∧ W.cell? ⟨(ar.add (an * 3)).block, (ar.add (an * 3)).off + 2, none⟩ = some (.bool true)) (i := 15) (v := ?_) rfl (by kernel_rfl) (by kernel_rfl) (by kernel_rfl) (fun _ _ _ h => h) (by decide) (by kernel_rfl) (fun _ h => h.2 rfl) (Or.inl ⟨by rfl, ?_⟩) hS2 ?_; rotate_left; (· intro w hSw; (try dsimp only at hSw); go_simp; all_goals (with_reducible rfl)); (try simp only [Act.put, List.setIfInBounds_toArray, List.set_cons_zero, List.set_cons_succ]))
  (refine way_take_on (d := 2) (T := fun W => W.cell? ⟨gw, 8, none⟩ = some (.int .i64 row.length) ∧ W.cell? ⟨gw, 6, none⟩ = some (.slice (some ⟨gR, 0, none⟩) row.length cR) ∧ W.cell? ⟨gt, 4, none⟩ = some (.slice (some ad) nA cA) ∧ W.cell? ⟨gb, 0, none⟩ = some (.int .i64 an) ∧ W.cell? (ad.add tq) = some (.slice (some ar) mr cr) ∧ W.cell? ⟨(ar.add (an * 3)).block, (ar.add (an * 3)).off + 2, none⟩ = some (.bool true)) (i := 16) (v := ?_) rfl (by kernel_rfl) (by kernel_rfl) (by kernel_rfl) (fun _ _ _ h => h) (by decide) (by kernel_rfl) (fun _ h => h.2 rfl) (Or.inl ⟨by rfl, ?_⟩) hS2 ?_; rotate_left; (· intro w hSw; (try dsimp only at hSw); go_simp; all_goals (with_reducible rfl)); (try simp only [Act.put, List.setIfInBounds_toArray, List.set_cons_zero, List.set_cons_succ]))
  (refine way_take_on (d := 2) (T := fun W => W.cell? ⟨gw, 8, none⟩ = some (.int .i64 row.length) ∧ W.cell? ⟨gw, 6, none⟩ = some (.slice (some ⟨gR, 0, none⟩) row.length cR) ∧ W.cell? ⟨gt, 4, none⟩ = some (.slice (some ad) nA cA) ∧ W.cell? ⟨gb, 0, none⟩ = some (.int .i64 an) ∧ W.cell? (ad.add tq) = some (.slice (some ar) mr cr) ∧ W.cell? ⟨(ar.add (an * 3)).block, (ar.add (an * 3)).off + 2, none⟩ = some (.bool true)) (i := 17) (v := ?_) rfl (by kernel_rfl) (by kernel_rfl) (by kernel_rfl) (fun _ _ _ h => h) (by decide) (by kernel_rfl) (fun _ h => h.2 rfl) (Or.inl ⟨by rfl, ?_⟩) hS2 ?_; rotate_left; (· intro w hSw; (try dsimp only at hSw); go_simp; all_goals (with_reducible rfl)); (try simp only [Act.put, List.setIfInBounds_toArray, List.set_cons_zero, List.set_cons_succ]))
  (refine way_take_on (d := 2) (T := fun W => W.cell? ⟨gw, 8, none⟩ = some (.int .i64 row.length) ∧ W.cell? ⟨gw, 6, none⟩ = some (.slice (some ⟨gR, 0, none⟩) row.length cR) ∧ W.cell? ⟨gt, 4, none⟩ = some (.slice (some ad) nA cA) ∧ W.cell? ⟨gb, 0, none⟩ = some (.int .i64 an) ∧ W.cell? (ad.add tq) = some (.slice (some ar) mr cr) ∧ W.cell? ⟨(ar.add (an * 3)).block, (ar.add (an * 3)).off + 2, none⟩ = some (.bool true)) (i := 18) (v := ?_) rfl (by kernel_rfl) (by kernel_rfl) (by kernel_rfl) (fun _ _ _ h => h) (by decide) (by kernel_rfl) (fun _ h => h.2 rfl) (Or.inl ⟨by rfl, ?_⟩) hS2 ?_; rotate_left; (· intro w hSw; (try dsimp only at hSw); go_simp; all_goals (with_reducible rfl)); (try simp only [Act.put, List.setIfInBounds_toArray, List.set_cons_zero, List.set_cons_succ]))
  (refine way_take_on (d := 2) (T := fun W => W.cell? ⟨gw, 8, none⟩ = some (.int .i64 row.length) ∧ W.cell? ⟨gw, 6, none⟩ = some (.slice (some ⟨gR, 0, none⟩) row.length cR) ∧ W.cell? ⟨gt, 4, none⟩ = some (.slice (some ad) nA cA) ∧ W.cell? ⟨gb, 0, none⟩ = some (.int .i64 an) ∧ W.cell? (ad.add tq) = some (.slice (some ar) mr cr) ∧ W.cell? ⟨(ar.add (an * 3)).block, (ar.add (an * 3)).off + 2, none⟩ = some (.bool true)) (i := 22) (v := ?_) rfl (by kernel_rfl) (by kernel_rfl) (by kernel_rfl) (fun _ _ _ h => h) (by decide) (by kernel_rfl) (fun _ h => h.2 rfl) (Or.inl ⟨by rfl, ?_⟩) hS2 ?_; rotate_left; (· intro w hSw; (try dsimp only at hSw); go_simp; all_goals (with_reducible rfl)); (try simp only [Act.put, List.setIfInBounds_toArray, List.set_cons_zero, List.set_cons_succ]))
  (refine way_take_on (d := 2) (T := fun W => W.cell? ⟨gw, 8, none⟩ = some (.int .i64 row.length) ∧ W.cell? ⟨gw, 6, none⟩ = some (.slice (some ⟨gR, 0, none⟩) row.length cR) ∧ W.cell? ⟨gt, 4, none⟩ = some (.slice (some ad) nA cA) ∧ W.cell? ⟨gb, 0, none⟩ = some (.int .i64 an) ∧ W.cell? (ad.add tq) = some (.slice (some ar) mr cr) ∧ W.cell? ⟨(ar.add (an * 3)).block, (ar.add (an * 3)).off + 2, none⟩ = some (.bool true)) (i := 23) (v := ?_) rfl (by kernel_rfl) (by kernel_rfl) (by kernel_rfl) (fun _ _ _ h => h) (by decide) (by kernel_rfl) (fun _ h => h.2 rfl) (Or.inl ⟨by rfl, ?_⟩) hS2 ?_; rotate_left; (· intro w hSw; (try dsimp only at hSw); go_simp; all_goals (with_reducible rfl)); (try simp only [Act.put, List.setIfInBounds_toArray, List.set_cons_zero, List.set_cons_succ]))
  clear hS1 hS2
  refine H.way_one (i := 19) (by kernel_rfl) rfl (fun K hK => ?_)
  go_simp
  go_at_call 23
  refine (KTOP.out _ _ K9'.out).mono ?_
  rintro e w10 ⟨rfl, k10, rfl⟩
  have K10 := H.Keep.mk (K9'.out.drewN k10)
  have hS3 := PST.out (w9.drewN k10) _ K10.out
  refine hK.out _ _ (hS3 _ (by kernel_rfl)) ?_
  clear hK K K9'
  generalize w9.drewN k10 = w11 at K10 hS3 ⊢
  have hS4 := hS3 true rfl
  (refine way_take_on (d := 2) (T := fun W => W.cell? ⟨gw, 8, none⟩ = some (.int .i64 row.length) ∧ W.cell? ⟨gw, 6, none⟩ = some (.slice (some ⟨gR, 0, none⟩) row.length cR) ∧ W.cell? ⟨gt, 4, none⟩ = some (.slice (some ad) nA cA) ∧ W.cell? ⟨gb, 0, none⟩ = some (.int .i64 an) ∧ W.cell? (ad.add tq) = some (.slice (some ar) mr cr) ∧ W.cell? ⟨(ar.add (an * 3)).block, (ar.add (an * 3)).off + 2, none⟩ = some (.bool true)) (i := 20) (v := ?_) rfl (by kernel_rfl) (by kernel_rfl) (by kernel_rfl) (fun _ _ _ h => h) (by decide) (by kernel_rfl) (fun _ h => h.2 rfl) (Or.inl ⟨by rfl, ?_⟩) hS4 ?_; rotate_left; (· intro w hSw; (try dsimp only at hSw); go_simp; all_goals (with_reducible rfl)); (try simp only [Act.put, List.setIfInBounds_toArray, List.set_cons_zero, List.set_cons_succ]))
  (refine way_take_on (d := 2) (T := fun W => W.cell? ⟨gw, 8, none⟩ = some (.int .i64 row.length) ∧ W.cell? ⟨gw, 6, none⟩ = some (.slice (some ⟨gR, 0, none⟩) row.length cR) ∧ W.cell? ⟨gt, 4, none⟩ = some (.slice (some ad) nA cA) ∧ W.cell? ⟨gb, 0, none⟩ = some (.int .i64 an) ∧ W.cell? (ad.add tq) = some (.slice (some ar) mr cr) ∧ W.cell? ⟨(ar.add (an * 3)).block, (ar.add (an * 3)).off + 2, none⟩ = some (.bool true)) (i := 21) (v := ?_) rfl (by kernel_rfl) (by kernel_rfl) (by kernel_rfl) (fun _ _ _ h => h) (by decide) (by kernel_rfl) (fun _ h => h.2 rfl) (Or.inl ⟨by rfl, ?_⟩) hS4 ?_; rotate_left; (· intro w hSw; (try dsimp only at hSw); go_simp; all_goals (with_reducible rfl)); (try simp only [Act.put, List.setIfInBounds_toArray, List.set_cons_zero, List.set_cons_succ]))
  (refine way_take_on (d := 2) (T := fun W => W.cell? ⟨gw, 8, none⟩ = some (.int .i64 row.length) ∧ W.cell? ⟨gw, 6, none⟩ = some (.slice (some ⟨gR, 0, none⟩) row.length cR) ∧ W.cell? ⟨gt, 4, none⟩ = some (.slice (some ad) nA cA) ∧ W.cell? ⟨gb, 0, none⟩ = some (.int .i64 an) ∧ W.cell? (ad.add tq) = some (.slice (some ar) mr cr) ∧ W.cell? ⟨(ar.add (an * 3)).block, (ar.add (an * 3)).off + 2, none⟩ = some (.bool true)) (i := 24) (v := ?_) rfl (by kernel_rfl) (by kernel_rfl) (by kernel_rfl) (fun _ _ _ h => h) (by decide) (by kernel_rfl) (fun _ h => h.2 rfl) (Or.inl ⟨by rfl, ?_⟩) hS4 ?_; rotate_left; (· intro w hSw; (try dsimp only at hSw); go_simp; all_goals (with_reducible rfl)); (try simp only [Act.put, List.setIfInBounds_toArray, List.set_cons_zero, List.set_cons_succ]))
  (refine way_take_on (d := 2) (T := fun W => W.cell? ⟨gw, 8, none⟩ = some (.int .i64 row.length) ∧ W.cell? ⟨gw, 6, none⟩ = some (.slice (some ⟨gR, 0, none⟩) row.length cR) ∧ W.cell? ⟨gt, 4, none⟩ = some (.slice (some ad) nA cA) ∧ W.cell? ⟨gb, 0, none⟩ = some (.int .i64 an) ∧ W.cell? (ad.add tq) = some (.slice (some ar) mr cr) ∧ W.cell? ⟨(ar.add (an * 3)).block, (ar.add (an * 3)).off + 2, none⟩ = some (.bool true)) (i := 25) (v := ?_) rfl (by kernel_rfl) (by kernel_rfl) (by kernel_rfl) (fun _ _ _ h => h) (by decide) (by kernel_rfl) (fun _ h => h.2 rfl) (Or.inl ⟨by rfl, ?_⟩) hS4 ?_; rotate_left; (· intro w hSw; (try dsimp only at hSw); go_simp; all_goals (with_reducible rfl)); (try simp only [Act.put, List.setIfInBounds_toArray, List.set_cons_zero, List.set_cons_succ]))
  (refine way_take_on (d := 2) (T := fun W => W.cell? ⟨gw, 8, none⟩ = some (.int .i64 row.length) ∧ W.cell? ⟨gw, 6, none⟩ = some (.slice (some ⟨gR, 0, none⟩) row.length cR) ∧ W.cell? ⟨gt, 4, none⟩ = some (.slice (some ad) nA cA) ∧ W.cell? ⟨gb, 0, none⟩ = some (.int .i64 an) ∧ W.cell? (ad.add tq) = some (.slice (some ar) mr cr) ∧ W.cell? ⟨(ar.add (an * 3)).block, (ar.add (an * 3)).off + 2, none⟩ = some (.bool true)) (i := 26) (v := ?_) rfl (by kernel_rfl) (by kernel_rfl) (by kernel_rfl) (fun _ _ _ h => h) (by decide) (by kernel_rfl) (fun _ h => h.2 rfl) (Or.inl ⟨by rfl, ?_⟩) hS4 ?_; rotate_left; (· intro w hSw; (try dsimp only at hSw); go_simp; all_goals (with_reducible rfl)); (try simp only [Act.put, List.setIfInBounds_toArray, List.set_cons_zero, List.set_cons_succ]))
  (refine way_take_on (d := 2) (T := fun W => W.cell? ⟨gw, 8, none⟩ = some (.int .i64 row.length) ∧ W.cell? ⟨gw, 6, none⟩ = some (.slice (some ⟨gR, 0, none⟩) row.length cR) ∧ W.cell? ⟨gt, 4, none⟩ = some (.slice (some ad) nA cA) ∧ W.cell? ⟨gb, 0, none⟩ = some (.int .i64 an) ∧ W.cell? (ad.add tq) = some (.slice (some ar) mr cr) ∧ W.cell? ⟨(ar.add (an * 3)).block, (ar.add (an * 3)).off + 2, none⟩ = some (.bool true)) (i := 27) (v := ?_) rfl (by kernel_rfl) (by kernel_rfl) (by kernel_rfl) (fun _ _ _ h => h) (by decide) (by kernel_rfl) (fun _ h => h.2 rfl) (Or.inl ⟨by rfl, ?_⟩) hS4 ?_; rotate_left; (· intro w hSw; (try dsimp only at hSw); go_simp; all_goals (with_reducible rfl)); (try simp only [Act.put, List.setIfInBounds_toArray, List.set_cons_zero, List.set_cons_succ]))
  (refine way_take_on (d := 2) (T := fun W => W.cell? ⟨gw, 8, none⟩ = some (.int .i64 row.length) ∧ W.cell? ⟨gw, 6, none⟩ = some (.slice (some ⟨gR, 0, none⟩) row.length cR) ∧ W.cell? ⟨gt, 4, none⟩ = some (.slice (some ad) nA cA) ∧ W.cell? ⟨gb, 0, none⟩ = some (.int .i64 an) ∧ W.cell? (ad.add tq) = some (.slice (some ar) mr cr) ∧ W.cell? ⟨(ar.add (an * 3)).block, (ar.add (an * 3)).off + 2, none⟩ = some (.bool true)) (i := 28) (v := ?_) rfl (by kernel_rfl) (by kernel_rfl) (by kernel_rfl) (fun _ _ _ h => h) (by decide) (by kernel_rfl) (fun _ h => h.2 rfl) (Or.inl ⟨by rfl, ?_⟩) hS4 ?_; rotate_left; (· intro w hSw; (try dsimp only at hSw); go_simp; all_goals (with_reducible rfl)); (try simp only [Act.put, List.setIfInBounds_toArray, List.set_cons_zero, List.set_cons_succ]))
  clear hS4 hS3
  refine H.way_one (i := 29) (by kernel_rfl) rfl (fun K hK => ?_)
  go_simp
  go_at_call 9
  refine (LVK.out w11 (FCT.out w11 _ K10.out).1).mono ?_
  rintro e w12 ⟨rfl, hb12, hb13⟩
  have K12 := H.Keep.mk (K10.out.below hb13)
  have FIN := H.Keep.mk hb12
  have hS5 := PST.out w12 _ K12.out
  refine hK.out _ _ (hS5 _ (by kernel_rfl)) ?_
  clear hK K hb12 hb13
  have hS6 := hS5 true rfl
  (refine way_take_on (d := 2) (T := fun W => W.cell? ⟨gw, 8, none⟩ = some (.int .i64 row.length) ∧ W.cell? ⟨gw, 6, none⟩ = some (.slice (some ⟨gR, 0, none⟩) row.length cR) ∧ W.cell? ⟨gt, 4, none⟩ = some (.slice (some ad) nA cA) ∧ W.cell? ⟨gb, 0, none⟩ = some (.int .i64 an) ∧ W.cell? (ad.add tq) = some (.slice (some ar) mr cr) ∧ W.cell? ⟨(ar.add (an * 3)).block, (ar.add (an * 3)).off + 2, none⟩ = some (.bool true)) (i := 30) (v := ?_) rfl (by kernel_rfl) (by kernel_rfl) (by kernel_rfl) (fun _ _ _ h => h) (by decide) (by kernel_rfl) (fun _ h => h.2 rfl) (Or.inl ⟨by rfl, ?_⟩) hS6 ?_; rotate_left; (· intro w hSw; (try dsimp only at hSw); go_simp; all_goals (with_reducible rfl)); (try simp only [Act.put, List.setIfInBounds_toArray, List.set_cons_zero, List.set_cons_succ]))
  (refine way_take_on (d := 2) (T := fun W => W.cell? ⟨gw, 8, none⟩ = some (.int .i64 row.length) ∧ W.cell? ⟨gw, 6, none⟩ = some (.slice (some ⟨gR, 0, none⟩) row.length cR) ∧ W.cell? ⟨gt, 4, none⟩ = some (.slice (some ad) nA cA) ∧ W.cell? ⟨gb, 0, none⟩ = some (.int .i64 an) ∧ W.cell? (ad.add tq) = some (.slice (some ar) mr cr) ∧ W.cell? ⟨(ar.add (an * 3)).block, (ar.add (an * 3)).off + 2, none⟩ = some (.bool true)) (i := 31) (v := ?_) rfl (by kernel_rfl) (by kernel_rfl) (by kernel_rfl) (fun _ _ _ h => h) (by decide) (by kernel_rfl) (fun _ h => h.2 rfl) (Or.inl ⟨by rfl, ?_⟩) hS6 ?_; rotate_left; (· intro w hSw; (try dsimp only at hSw); go_simp; all_goals (with_reducible rfl)); (try simp only [Act.put, List.setIfInBounds_toArray, List.set_cons_zero, List.set_cons_succ]))
  refine H.way_done (by kernel_rfl) ?_ _
  clear hS5 hS6
  go_wp2
  go_ret
  exact ⟨rfl, FIN.out⟩
end Go.Proofs.YtaooejidkeojjaaDoor.PFw
namespace Go.Proofs.YtaooejidkeojjaaDoor.tablesFollow
open Go.ChangeShapes Go.WideShapes Go.ChangeAt Go.RowKit Go.Proofs.YtaooejidkeojjaaDoorW.PrintWords Go.Proofs.YtaooejidkeojjaaDoor.PFw Go.Proofs.YtaooejidkeojjaaDoor.Rg
set_option linter.unusedVariables false
set_option linter.unusedSimpArgs false
set_option maxRecDepth 100000
theorem rds_49 {H : Type} {enc : TypeId × Value → H} {w : World} : ∀ n, Rds enc w 49 k49 n := by
  intro n
  intro cs y h
  obtain ⟨m, rfl, hl, hf⟩ := str_of Tryd.underlying49 h
  rw [show Tryd.prog.cellsOf 49 = 3 from by kernel_rfl] at hl
  have h0 : ∃ z, DataW.trod enc Tryd.prog w 0 (fun _ => true) true m 3 ((cs.drop 0).take 1) = some z := by
    obtain ⟨z, hz⟩ := hf 0 _ rfl
    refine ⟨z, ?_⟩
    rw [← show Tryd.prog.cellsOf 3 = 1 from by kernel_rfl]
    exact hz
  obtain ⟨z0, g0⟩ := h0
  have h1 : ∃ z, DataW.trod enc Tryd.prog w 0 (fun _ => true) true m 44 ((cs.drop 1).take 1) = some z := by
    obtain ⟨z, hz⟩ := hf 1 _ rfl
    refine ⟨z, ?_⟩
    rw [← show Tryd.prog.cellsOf 44 = 1 from by kernel_rfl]
    exact hz
  obtain ⟨z1, g1⟩ := h1
  have h2 : ∃ z, DataW.trod enc Tryd.prog w 0 (fun _ => true) true m 4 ((cs.drop 2).take 1) = some z := by
    obtain ⟨z, hz⟩ := hf 2 _ rfl
    refine ⟨z, ?_⟩
    rw [← show Tryd.prog.cellsOf 4 = 1 from by kernel_rfl]
    exact hz
  obtain ⟨z2, g2⟩ := h2
  exact fld_iso (fun x => ⟨x.1, x.2.1, x.2.2⟩) (fun _ => rfl) (fld_cons (rds_int Tryd.underlying3 _) g0 (fld_cons (rds_slice Tryd.underlying44 (by kernel_rfl) (fun j _ => (rds_int Tryd.underlying3 _))) g1 (fld_last (rds_bool Tryd.underlying4 _) hl g2)))
theorem rds_24 {H : Type} {enc : TypeId × Value → H} {w : World} : ∀ n, Rds enc w 24 k24 n := by
  intro n
  intro cs y h
  obtain ⟨m, rfl, hl, hf⟩ := str_of Tryd.underlying24 h
  rw [show Tryd.prog.cellsOf 24 = 4 from by kernel_rfl] at hl
  have h0 : ∃ z, DataW.trod enc Tryd.prog w 0 (fun _ => true) true m 3 ((cs.drop 0).take 1) = some z := by
    obtain ⟨z, hz⟩ := hf 0 _ rfl
    refine ⟨z, ?_⟩
    rw [← show Tryd.prog.cellsOf 3 = 1 from by kernel_rfl]
    exact hz
  obtain ⟨z0, g0⟩ := h0
  have h1 : ∃ z, DataW.trod enc Tryd.prog w 0 (fun _ => true) true m 3 ((cs.drop 1).take 1) = some z := by
    obtain ⟨z, hz⟩ := hf 1 _ rfl
    refine ⟨z, ?_⟩
    rw [← show Tryd.prog.cellsOf 3 = 1 from by kernel_rfl]
    exact hz
  obtain ⟨z1, g1⟩ := h1
  have h2 : ∃ z, DataW.trod enc Tryd.prog w 0 (fun _ => true) true m 3 ((cs.drop 2).take 1) = some z := by
    obtain ⟨z, hz⟩ := hf 2 _ rfl
    refine ⟨z, ?_⟩
    rw [← show Tryd.prog.cellsOf 3 = 1 from by kernel_rfl]
    exact hz
  obtain ⟨z2, g2⟩ := h2
  have h3 : ∃ z, DataW.trod enc Tryd.prog w 0 (fun _ => true) true m 22 ((cs.drop 3).take 1) = some z := by
    obtain ⟨z, hz⟩ := hf 3 _ rfl
    refine ⟨z, ?_⟩
    rw [← show Tryd.prog.cellsOf 22 = 1 from by kernel_rfl]
    exact hz
  obtain ⟨z3, g3⟩ := h3
  exact fld_iso (fun x => ⟨x.1, x.2.1, x.2.2.1, x.2.2.2⟩) (fun _ => rfl) (fld_cons (rds_int Tryd.underlying3 _) g0 (fld_cons (rds_int Tryd.underlying3 _) g1 (fld_cons (rds_int Tryd.underlying3 _) g2 (fld_last (rds_slice Tryd.underlying22 (by kernel_rfl) (fun j _ => (rds_49 _))) hl g3))))
theorem rds_52 {H : Type} {enc : TypeId × Value → H} {w : World} : ∀ n, Rds enc w 52 k52 n := by
  intro n
  induction n using Nat.strongRecOn with | _ n ih =>
  intro cs y h
  obtain ⟨m, rfl, hl, hf⟩ := str_of Tryd.underlying52 h
  rw [show Tryd.prog.cellsOf 52 = 3 from by kernel_rfl] at hl
  have h0 : ∃ z, DataW.trod enc Tryd.prog w 0 (fun _ => true) true m 3 ((cs.drop 0).take 1) = some z := by
    obtain ⟨z, hz⟩ := hf 0 _ rfl
    refine ⟨z, ?_⟩
    rw [← show Tryd.prog.cellsOf 3 = 1 from by kernel_rfl]
    exact hz
  obtain ⟨z0, g0⟩ := h0
  have h1 : ∃ z, DataW.trod enc Tryd.prog w 0 (fun _ => true) true m 3 ((cs.drop 1).take 1) = some z := by
    obtain ⟨z, hz⟩ := hf 1 _ rfl
    refine ⟨z, ?_⟩
    rw [← show Tryd.prog.cellsOf 3 = 1 from by kernel_rfl]
    exact hz
  obtain ⟨z1, g1⟩ := h1
  have h2 : ∃ z, DataW.trod enc Tryd.prog w 0 (fun _ => true) true m 50 ((cs.drop 2).take 1) = some z := by
    obtain ⟨z, hz⟩ := hf 2 _ rfl
    refine ⟨z, ?_⟩
    rw [← show Tryd.prog.cellsOf 50 = 1 from by kernel_rfl]
    exact hz
  obtain ⟨z2, g2⟩ := h2
  have : ∃ x, (F52 k52).K w x cs := fld_iso (fun x => ⟨x.1, x.2.1, x.2.2⟩) (fun _ => rfl) (fld_cons (rds_int Tryd.underlying3 _) g0 (fld_cons (rds_int Tryd.underlying3 _) g1 (fld_last (rds_slice Tryd.underlying50 (by kernel_rfl) (fun j hj => ih j (by omega))) hl g2)))
  obtain ⟨x, hx⟩ := this
  obtain ⟨_, _, rfl, rfl, ⟨_, _, rfl, rfl, ⟨A2, c2, rfl, l2, g2'⟩⟩⟩ := hx
  exact ⟨x, k52_mk w x l2 g2'⟩
theorem own : ownKnob Tryd.prog.godebug = none := by kernel_rfl
theorem laidOut : laidOutB Tryd.prog = true := by kernel_rfl
theorem door_met (os : Os) (args : Array Value) : laidMetH Tryd.prog [("math/bits.deBruijn64tab", Rows.laid_math_bits_deBruijn64tab)] ((World.doorLaid Tryd.prog 400 os).forCall (fun _ _ => 0) ⟨#[], args, []⟩).memory :=
  laidMetH_of_parts3 (fuel := 8) (laidMet_of_run' 8 (by kernel_rfl) (by kernel_rfl)) (by kernel_rfl) (by kernel_rfl)
theorem of_laid {W : World} (h : laidMetH Tryd.prog [("math/bits.deBruijn64tab", Rows.laid_math_bits_deBruijn64tab)] W) : Go.Proofs.YtaooejidkeojjaaDoor.H.Laid W := by
  rw [MakeChecks.laidMetH_plain _ _ _ (by kernel_rfl)] at h
  exact Lib.tabIs_of_head (k := .u8) (zs := H.brTab) (rest := []) (show Tryd.prog.globalNamed "math/bits.deBruijn64tab" = some 0 from by kernel_rfl) (show (Tryd.prog.globals[0]?).map (·.type) = some 129 from by kernel_rfl) Tryd.underlying129 Tryd.underlying5 (by kernel_rfl) (by kernel_rfl) h
set_option maxRecDepth 100000 in
theorem lifted (os : Os) (started : os.Started) (H : Type) (enc : TypeId × Value → H) :
    ReturnsInHanded {} Tryd.checked os 7 .any (fun w args => (Rows.tablesFollowSpec.pre enc Tryd.prog Tryd.f7 [] false w args ∧ laidMetH Tryd.prog [("math/bits.deBruijn64tab", Rows.laid_math_bits_deBruijn64tab)] w) ∧ sizedMet enc Tryd.prog Tryd.f7 (OpenSpec.ofChange Rows.tablesFollowSpec) false w args) (Rows.tablesFollowSpec.post enc Tryd.prog Tryd.f7 false true false false) := by
  refine returnsInHanded_of_change_and (C := Tryd.checked) (X := fun w _ => laidMetH Tryd.prog [("math/bits.deBruijn64tab", Rows.laid_math_bits_deBruijn64tab)] w) (fun _ _ _ hh h => h.of_heap hh) own started (by kernel_rfl) Tryd.func7
    (ChangeSpec.witness_shaped (enc := enc) (C := Tryd.checked) (os := os) (X := fun w _ => laidMetH Tryd.prog [("math/bits.deBruijn64tab", Rows.laid_math_bits_deBruijn64tab)] w) false (World.doorLaid Tryd.prog 400 os) #[.agg #[.int .i64 0, .int .i64 0, .int .i64 0, .slice none 0 0], .agg #[.int .i64 0, .int .i64 0, .slice none 0 0]] 8 rfl (World.shaped_of_RefB (by kernel_rfl) (by kernel_rfl)) (by kernel_rfl) (by kernel_rfl) (by kernel_rfl) (door_met os _)) ?_
  intro W base args ds gs before hval0 hW hcnd hsz0 hL0 _
  have hLaid := of_laid hL0
  have hval : ∀ (j : Nat) t v, Tryd.f7.params[j]? = some t → args[j]? = some v → Value.okWide Tryd.prog W .any base t v := hval0
  have hW' := hW
  obtain ⟨p, q, hA0, hV, rfl, hfz, hnd⟩ := hW
  have hA : DataW.TrodAll enc Tryd.prog W 0 (fun _ => true) true Tryd.f7.params.toList args.toList ds p := hA0
  rw [Tryd.params7] at hA hval
  obtain ⟨v0, vs0, d0, ds0, p0, q0, hargs, rfl, rfl, h0, r0⟩ := trodAll_cons hA
  obtain ⟨v1, vs1, d1, ds1, p1, q1, rfl, rfl, rfl, h1, r1⟩ := trodAll_cons r0
  obtain ⟨rfl, rfl, rfl⟩ := trodAll_nil r1
  obtain rfl : args = #[v0, v1] := by cases args; simp_all
  obtain ⟨rfl, rfl⟩ := trodVars_none hV
  have k0 := h0
  have lt0 : ∀ x ∈ p0, x.block < W.heap.size := by obtain ⟨m, hm⟩ := k0; exact DataW.trod_lt m _ _ _ hm
  obtain ⟨x0, cs0, rfl, K0⟩ := arg_agg (d := k24) Tryd.underlying24 (hval 0 24 v0 rfl rfl) h0 (fun n => rds_24 n)
  obtain ⟨A0_3, c0_3, rfl, hc0_3, hr0_3⟩ := k24_open K0
  have k1 := h1
  have lt1 : ∀ x ∈ p1, x.block < W.heap.size := by obtain ⟨m, hm⟩ := k1; exact DataW.trod_lt m _ _ _ hm
  obtain ⟨x1, cs1, rfl, K1⟩ := arg_agg (d := k52) Tryd.underlying52 (hval 1 52 v1 rfl rfl) h1 (fun n => rds_52 n)
  obtain ⟨A1_2, c1_2, rfl, hc1_2, hr1_2⟩ := k52_open K1
  have hcall := follow_any (x0.f0) (x0.f1) (x0.f2) (A0_3) (c0_3) (x0.f3) ⟨(x1.f0), (x1.f1), (x1.f2)⟩ (A1_2) (c1_2) W (hr0_3) (hc0_3) (hr1_2) (hc1_2) hLaid
  refine hcall.mono fun e W' ⟨he, bel⟩ => ?_
  subst he
  exact ⟨_, rfl, _, _, _, [], _, [], hW', trodAll_mk1 (shut_bool Tryd.underlying4 _), (trodAll_cons_mk (Below.trod laidOut (by kernel_rfl) (of_decide_eq_true (by kernel_rfl)) k0 bel lt0) (trodAll_cons_mk (Below.trod laidOut (by kernel_rfl) (of_decide_eq_true (by kernel_rfl)) k1 bel lt1) trodAll_mk0)), rfl, bel.frame _, fun h => by cases h⟩
theorem over : Rows.tablesFollowRow.holds Tryd.pinned (OpenSpec.ofChange Rows.tablesFollowSpec) :=
  OpenClaim.holds_of_wide 7 Tryd.f7 rfl rfl rfl rfl rfl rfl rfl ⟨rfl, rfl, rfl, rfl, rfl⟩ rfl rfl rfl rfl rfl (by kernel_rfl) Tryd.func7 (by kernel_rfl)
    (of_decide_eq_true (by kernel_rfl)) (by unfold Func.isWrapper; first | (rw [if_pos (by decide +kernel)]; kernel_rfl) | (rw [if_neg (by decide +kernel)]; exact ⟨rfl, rfl⟩))
    (fun os started H enc _ => lifted os started H enc)
end Go.Proofs.YtaooejidkeojjaaDoor.tablesFollow
namespace Go.Proofs.YtaooejidkeojjaaDoor
theorem tablesFollow_holds : Rows.TablesFollowSaid := tablesFollow.over
#print axioms tablesFollow_holds
end Go.Proofs.YtaooejidkeojjaaDoor
