import Derived.Test.YtaooejidkeojjaaDoorZ2
import Derived.Test.YtaooejidkeojjaaDoorWRepsOne
namespace Go.Proofs.YtaooejidkeojjaaDoor.H
open Go.RowKit Go.Proofs.YtaooejidkeojjaaDoorW.PrintWords
set_option linter.unusedVariables false
set_option linter.unusedSimpArgs false
set_option maxRecDepth 100000
structure Ac where
  sh : Int
  rd : List Int
  ac : Bool
def kAc : Kd Ac := Kd.iso (Kd.pair (Kd.int .i64) (Kd.pair (Kd.slice 3 (Kd.int .i64)) Kd.bool)) (fun x : Ac => (x.sh, x.rd, x.ac))
theorem kAc_mkM (w : World) (base : Nat) (ok : Nat → Prop) (p : Ac) {v1 : Value} (g1 : (Kd.int .i64).R 3 w base ok v1 p.rd) : kAc.M w base ok p [.int .i64 p.sh, v1, .bool p.ac] := ⟨[.int .i64 p.sh], [v1, .bool p.ac], rfl, rfl, ⟨[v1], [.bool p.ac], rfl, ⟨v1, rfl, g1⟩, rfl⟩⟩
def endS (g : Gr) (p : Nat) : Nat := offS g p + (bodyX g p).length
def bitE (g : Gr) (out : List Nat) (p a : Nat) : Bool := (out.getD (endS g p) 0).testBit a
def shA (g : Gr) (s : StD) (a : Nat) : Int := if (a : Int) < g.T then s.led.getD a (-1) else -1
def row0 (g : Gr) (s : StD) (k a : Nat) : Ac := if a < k then ⟨shA g s a, [], false⟩ else ⟨0, [], false⟩
def rowP (g : Gr) (s : StD) (out : List Nat) (k a : Nat) : Ac := ⟨shA g s a, ((List.range (min k g.ps.length)).filter fun p => bitE g out p a).map Int.ofNat, decide (g.ps.length < k) && bitE g out g.ps.length a⟩
def acPut (N p : Nat) (r : Ac) : Ac := if p = N then { r with ac := true } else { r with rd := r.rd ++ [(p : Int)] }
def rowI (g : Gr) (s : StD) (out : List Nat) (p b a : Nat) : Ac := if (bitE g out p a && decide (a < b)) = true then acPut g.ps.length p (rowP g s out p a) else rowP g s out p a
def actsM (g : Gr) (F : List Nat) (s : StD) : List Ac := (List.range (g.T.toNat + 1)).map (rowP g s (closeM g F s.core s.mask) (g.ps.length + 1))
theorem rowP_zero (g : Gr) (s : StD) (out : List Nat) (n a : Nat) (h : a < n) : rowP g s out 0 a = row0 g s n a := by
  unfold rowP row0
  rw [if_pos h]
  simp
theorem rowI_zero (g : Gr) (s : StD) (out : List Nat) (p a : Nat) : rowI g s out p 0 a = rowP g s out p a := by unfold rowI; simp
theorem rowI_end (g : Gr) (s : StD) (out : List Nat) {p b a : Nat} (hp : p ≤ g.ps.length) (hb : bitE g out p a = true → a < b) : rowI g s out p b a = rowP g s out (p + 1) a := by
  have e : (bitE g out p a && decide (a < b)) = bitE g out p a := by
    cases h : bitE g out p a
    · rfl
    · simp [hb h]
  unfold rowI
  rw [e]
  by_cases h : p = g.ps.length
  · subst h
    cases hb2 : bitE g out g.ps.length a
    · simp [rowP, hb2]
    · simp [rowP, acPut, hb2]
  · have h1 : p < g.ps.length := by omega
    have e1 : min (p + 1) g.ps.length = p + 1 := by omega
    have e2 : min p g.ps.length = p := by omega
    have d1 : ¬ g.ps.length < p := by omega
    have d2 : ¬ g.ps.length < p + 1 := by omega
    cases hb2 : bitE g out p a
    · simp [rowP, e1, e2, d1, d2, List.range_succ, hb2]
    · simp [rowP, acPut, h, e1, e2, d1, d2, List.range_succ, hb2]
theorem rowI_step (g : Gr) (s : StD) (out : List Nat) {p k j : Nat} (hk : k ≤ j) (hj : bitE g out p j = true) (hn : ∀ a, k ≤ a → a < j → bitE g out p a = false) : rowI g s out p (j + 1) = upd (rowI g s out p k) j (acPut g.ps.length p (rowI g s out p k j)) := by
  funext a
  by_cases e : a = j
  · subst e
    rw [upd_same]
    have h1 : rowI g s out p k a = rowP g s out p a := by unfold rowI; rw [if_neg]; simp; omega
    rw [h1]
    unfold rowI
    rw [if_pos]
    simp [hj]
  · rw [upd_ne _ _ e]
    unfold rowI
    have : (bitE g out p a && decide (a < j + 1)) = (bitE g out p a && decide (a < k)) := by
      cases hb : bitE g out p a
      · rfl
      · simp only [Bool.true_and, decide_eq_decide]
        constructor
        · intro h
          apply Nat.lt_of_not_le
          intro h2
          have := hn a h2 (by omega)
          rw [hb] at this; cases this
        · intro h; omega
    rw [this]
theorem row0_nil (g : Gr) (s : StD) : row0 g s 0 = fun _ => ⟨0, [], false⟩ := by funext a; unfold row0; rw [if_neg (by omega)]
theorem row0_succ (g : Gr) (s : StD) (k : Nat) : row0 g s (k + 1) = upd (row0 g s k) k ⟨shA g s k, [], false⟩ := by
  funext a
  by_cases e : a = k
  · subst e
    rw [upd_same]
    unfold row0
    rw [if_pos (by omega)]
  · rw [upd_ne _ _ e]
    unfold row0
    by_cases h : a < k
    · rw [if_pos h, if_pos (by omega)]
    · rw [if_neg h, if_neg (by omega)]
theorem row0_at (g : Gr) (s : StD) (k : Nat) : row0 g s k k = ⟨0, [], false⟩ := by unfold row0; rw [if_neg (by omega)]
theorem upd_upd {α : Type} (f : Nat → α) (k : Nat) (u v : α) : upd (upd f k u) k v = upd f k v := by
  funext a
  by_cases e : a = k
  · subst e; rw [upd_same, upd_same]
  · rw [upd_ne _ _ e, upd_ne _ _ e, upd_ne _ _ e]
theorem info_action : (Tryd.prog.info? 46).map (fun i => (i.zero, i.size, i.bytes)) = some (some (.agg #[.int .i64 0, .slice none 0 0, .bool false]), 3, 40) := by kernel_rfl
structure AR (w : World) (H gR n : Nat) (vs : Nat → Value) (row : Nat → Ac) : Prop where
  blk : ∃ cs, Blk w gR 46 cs ∧ cs.size = n * 3 ∧ ∀ i, i < n → cs[i * 3]? = some (.int .i64 (row i).sh) ∧ cs[i * 3 + 1]? = some (vs i) ∧ cs[i * 3 + 2]? = some (.bool (row i).ac)
  own : ∀ i, i < n → OwnI w H (vs i) (row i).rd
  ap : ∀ i j, i < n → j < n → i ≠ j → ∀ b, (vs i).ownBlock = some b → (vs j).ownBlock ≠ some b
  g0 : H ≤ gR
section
variable {w w' : World} {H gR n : Nat} {vs : Nat → Value} {row : Nat → Ac}
theorem AR.below (h : AR w H gR n vs row) (hb : Below w.heap.size w w') : AR w' H gR n vs row := by
  obtain ⟨cs, h1, h2⟩ := h.blk
  exact ⟨⟨cs, h1.below hb h1.lt, h2⟩, fun i hi => (h.own i hi).below hb, h.ap, h.g0⟩
theorem AR.congr {row' : Nat → Ac} (e : ∀ a, a < n → row' a = row a) : AR w H gR n vs row' ↔ AR w H gR n vs row := by
  constructor
  · rintro ⟨⟨cs, h1, h2, h3⟩, h4, h5, h6⟩
    exact ⟨⟨cs, h1, h2, fun i hi => by rw [← e i hi]; exact h3 i hi⟩, fun i hi => by rw [← e i hi]; exact h4 i hi, h5, h6⟩
  · rintro ⟨⟨cs, h1, h2, h3⟩, h4, h5, h6⟩
    exact ⟨⟨cs, h1, h2, fun i hi => by rw [e i hi]; exact h3 i hi⟩, fun i hi => by rw [e i hi]; exact h4 i hi, h5, h6⟩
theorem AR.cell0 (h : AR w H gR n vs row) {i : Nat} (hi : i < n) : w.cell? ⟨gR, i * 3, none⟩ = some (.int .i64 (row i).sh) := by
  obtain ⟨cs, h1, _, h2⟩ := h.blk
  rw [h1.cell]; exact (h2 i hi).1
theorem AR.cell1 (h : AR w H gR n vs row) {i : Nat} (hi : i < n) : w.cell? ⟨gR, i * 3 + 1, none⟩ = some (vs i) := by
  obtain ⟨cs, h1, _, h2⟩ := h.blk
  rw [h1.cell]; exact (h2 i hi).2.1
theorem AR.cell2 (h : AR w H gR n vs row) {i : Nat} (hi : i < n) : w.cell? ⟨gR, i * 3 + 2, none⟩ = some (.bool (row i).ac) := by
  obtain ⟨cs, h1, _, h2⟩ := h.blk
  rw [h1.cell]; exact (h2 i hi).2.2
theorem AR.frozen (h : AR w H gR n vs row) (i : Nat) : w.frozen? ⟨gR, i, none⟩ = false := by
  obtain ⟨cs, h1, _⟩ := h.blk
  exact h1.frozen i
theorem ownI_far {w : World} {B g : Nat} {v : Value} {xs : List Int} {t : TypeId} {cs : Array Value} (h : OwnI w B v xs) (hg : Blk w g t cs) (ht : t ≠ 3) (i : Nat) (u : Value) : OwnI (w.setCell ⟨g, i, none⟩ u) B v xs := by
  have := (QI.of_own h).far hg ht i u
  refine ⟨h.1, ?_⟩
  rcases h.2 with h | ⟨b, cap, cur, e1, e2, e3, e4⟩
  · exact .inl h
  · refine .inr ⟨b, cap, cur, e1, e2, ?_, e4⟩
    rw [Below.heap_setCell _ _ _ _ (show b ≠ g from fun e => ?_)]
    · exact e3
    · subst e
      unfold Blk at hg
      rw [e3] at hg
      injection hg with hg
      injection hg with _ h2
      exact ht h2.symm
theorem AR.put (h : AR w H gR n vs row) {i d : Nat} (hi : i < n) (r : Ac) (hr : r.rd = (row i).rd) (u : Value) (hd : d = 0 ∧ u = .int .i64 r.sh ∧ r.ac = (row i).ac ∨ d = 2 ∧ u = .bool r.ac ∧ r.sh = (row i).sh) : AR (w.setCell ⟨gR, i * 3 + d, none⟩ u) H gR n vs (upd row i r) := by
  obtain ⟨cs, h1, hs, h2⟩ := h.blk
  refine ⟨⟨cs.setIfInBounds (i * 3 + d) u, h1.set_ _ _, by rw [Array.size_setIfInBounds]; exact hs, fun j hj => ?_⟩, fun j hj => ?_, h.ap, h.g0⟩
  · obtain ⟨a, b, c⟩ := h2 j hj
    have hi3 : i * 3 + d < cs.size := by rcases hd with ⟨rfl, _⟩ | ⟨rfl, _⟩ <;> omega
    simp only [Array.getElem?_setIfInBounds]
    by_cases e : j = i
    · subst e
      rw [upd_same]
      rcases hd with ⟨rfl, rfl, e2⟩ | ⟨rfl, rfl, e2⟩
      · simp only [Nat.add_zero] at hi3 ⊢
        rw [if_pos True.intro, if_pos hi3, if_neg (by omega), if_neg (by omega), e2]
        exact ⟨rfl, b, c⟩
      · rw [if_neg (by omega), if_neg (by omega), if_pos rfl, if_pos hi3, e2]
        exact ⟨a, b, rfl⟩
    · rw [upd_ne _ _ e]
      have : d ≤ 2 := by rcases hd with ⟨rfl, _⟩ | ⟨rfl, _⟩ <;> omega
      rw [if_neg (by omega), if_neg (by omega), if_neg (by omega)]
      exact ⟨a, b, c⟩
  · have e : (upd row i r j).rd = (row j).rd := by
      by_cases e : j = i
      · subst e; rw [upd_same, hr]
      · rw [upd_ne _ _ e]
    rw [e]
    exact ownI_far (h.own j hj) h1 (by decide) _ _
theorem AR.app (h : AR w H gR n vs row) {i : Nat} (hi : i < n) (p : Int) {v' : Value} (ho : w'.ownsRow H 3 1 v' ((row i).rd.length + 1) ((row i).rd.map (Value.int .i64) ++ [.int .i64 p])) (hg : w.grownBy w' (vs i).ownBlock) (ha : v'.ownBlock = (vs i).ownBlock ∨ v'.ownBlock = some w.heap.size) :
    AR (w'.setCell ⟨gR, i * 3 + 1, none⟩ v') H gR n (upd vs i v') (upd row i { row i with rd := (row i).rd ++ [p] }) := by
  obtain ⟨cs, h1, hs, h2⟩ := h.blk
  have blkOf : ∀ j, j < n → ∀ b, (vs j).ownBlock = some b → b < w.heap.size ∧ ∃ c, Blk w b 3 c := fun j hj b hb => by
    obtain ⟨_, l, c, hc⟩ := (QI.of_own (h.own j hj)).block b hb
    exact ⟨l, c, hc⟩
  have h1' : Blk w' gR 46 cs := h1.grown hg fun e => by
    obtain ⟨_, c, hc⟩ := blkOf i hi gR e.symm
    exact h1.ne_of_type hc (by decide) rfl
  have ho' : OwnI w' H v' ((row i).rd ++ [p]) := by unfold OwnI; rw [List.length_append, List.map_append]; exact ho
  refine ⟨⟨cs.setIfInBounds (i * 3 + 1) v', h1'.set_ _ _, by rw [Array.size_setIfInBounds]; exact hs, fun j hj => ?_⟩, fun j hj => ?_, fun j k hj hk hjk b hb => ?_, h.g0⟩
  · obtain ⟨a, b, c⟩ := h2 j hj
    have hi3 : i * 3 + 1 < cs.size := by omega
    simp only [Array.getElem?_setIfInBounds]
    by_cases e : j = i
    · subst e
      rw [upd_same, upd_same, if_neg (by omega), if_pos rfl, if_pos hi3, if_neg (by omega)]
      exact ⟨a, rfl, c⟩
    · rw [upd_ne _ _ e, upd_ne _ _ e, if_neg (by omega), if_neg (by omega), if_neg (by omega)]
      exact ⟨a, b, c⟩
  · by_cases e : j = i
    · subst e
      rw [upd_same, upd_same]
      exact ownI_far ho' h1' (by decide) _ _
    · rw [upd_ne _ _ e, upd_ne _ _ e]
      refine ownI_far ?_ h1' (by decide) _ _
      have hj' := h.own j hj
      refine ⟨hj'.1, ?_⟩
      rcases hj'.2 with k | ⟨b, cap, cur, e1, e2, e3, e4⟩
      · exact .inl k
      · refine .inr ⟨b, cap, cur, e1, e2, ?_, e4⟩
        have hb : (vs j).ownBlock = some b := by rw [e1]; rfl
        rw [hg.block b (blkOf j hj b hb).1 (fun e5 => h.ap j i hj hi e b hb e5.symm)]
        exact e3
  · by_cases e : j = i
    · subst e
      rw [upd_same] at hb
      rw [upd_ne _ _ (Ne.symm hjk)]
      rcases ha with ha | ha
      · rw [ha] at hb; exact h.ap j k hj hk hjk b hb
      · rw [ha] at hb
        intro e5
        have := (blkOf k hk b e5).1
        have := Option.some.inj hb
        omega
    · rw [upd_ne _ _ e] at hb
      by_cases e2 : k = i
      · subst e2
        rw [upd_same]
        rcases ha with ha | ha
        · rw [ha]; exact h.ap j k hj hk hjk b hb
        · rw [ha]
          intro e5
          have := (blkOf j hj b hb).1
          have := Option.some.inj e5
          omega
      · rw [upd_ne _ _ e2]
        exact h.ap j k hj hk hjk b hb
theorem AR.start {W : World} {g n : Nat} (ho : W.ownsRow H 46 3 (.slice (some ⟨g, 0, none⟩) n n) n (madeCells #[.int .i64 0, .slice none 0 0, .bool false] (n * 3)).toList) (hn : 0 < n) : AR W H g n (fun _ => .slice none 0 0) (fun _ => ⟨0, [], false⟩) := by
  have at_ : ∀ k, k < n * 3 → (madeCells #[.int .i64 0, .slice none 0 0, .bool false] (n * 3))[k]? = some ((#[.int .i64 0, .slice none 0 0, .bool false] : Array Value)[k % 3]!) := fun k hk => by
    unfold madeCells
    simp only [Array.getElem?_map, Array.getElem?_range, hk, if_true, Option.map_some]
    rfl
  rcases ho.2 with ⟨e, _⟩ | ⟨g', cap, cur, e1, e2, e3, e4, e5, e6, e7⟩
  · cases e
  injection e1 with e8 _ e9
  injection e8 with e8
  injection e8 with e8
  subst e8
  subst e9
  have ec : cur = madeCells #[.int .i64 0, .slice none 0 0, .bool false] (n * 3) := by
    rw [List.take_of_length_le (by rw [Array.length_toList]; omega)] at e7
    exact Array.toList_inj.1 e7
  subst ec
  refine ⟨⟨_, e3, by unfold madeCells; simp, fun i hi => ?_⟩, fun i hi => OwnI.nil _ _, fun i j _ _ _ b hb => by simp [Value.ownBlock] at hb, e2⟩
  refine ⟨?_, ?_, ?_⟩
  · rw [at_ _ (by omega), show i * 3 % 3 = 0 from by omega]; rfl
  · rw [at_ _ (by omega), show (i * 3 + 1) % 3 = 1 from by omega]; rfl
  · rw [at_ _ (by omega), show (i * 3 + 2) % 3 = 2 from by omega]; rfl
theorem AR.done {B : Nat} (h : AR w H gR n vs row) (hB : B ≤ H) (hn : n ≤ 100) : kAc.R 46 w B (fun k => H ≤ k) (.slice (some ⟨gR, 0, none⟩) n n) ((List.range n).map row) := by
  obtain ⟨cs, h1, hs, h2⟩ := h.blk
  have g0 := h.g0
  refine ⟨fun k hk => ?_, cs.toList, ⟨?_, .inr ⟨gR, n, cs, by simp, by omega, h1, by simp, ?_, hs, ?_⟩⟩, by rw [Array.length_toList, hs]; simp [kAc, Kd.iso, Kd.pair, Kd.int, Kd.slice, Kd.bool, Kd.scalar], fun j p hj => ?_⟩
  · have := Option.some.inj hk
    have e : gR = k := this
    omega
  · rw [Array.length_toList, hs]; simp [kAc, Kd.iso, Kd.pair, Kd.int, Kd.slice, Kd.bool, Kd.scalar]
  · simp only [maxLen]; omega
  · rw [List.take_of_length_le]
    rw [Array.length_toList, hs]; simp [kAc, Kd.iso, Kd.pair, Kd.int, Kd.slice, Kd.bool, Kd.scalar]
  · have hj' : j < n := by
      have := (List.getElem?_eq_some_iff.1 hj).1
      simpa using this
    have hp : p = row j := by
      rw [List.getElem?_map, List.getElem?_range hj'] at hj
      exact (Option.some.inj hj).symm
    subst hp
    obtain ⟨a, b, c⟩ := h2 j hj'
    have hl : j * 3 + 2 < cs.toList.length := by rw [Array.length_toList, hs]; omega
    have e : (cs.toList.drop (j * kAc.sz)).take kAc.sz = [.int .i64 (row j).sh, vs j, .bool (row j).ac] := by
      have e3 : kAc.sz = 3 := rfl
      rw [e3, List.drop_eq_getElem_cons (by omega), List.drop_eq_getElem_cons (by omega), List.drop_eq_getElem_cons (by omega)]
      have at_ : ∀ k (hk : k < cs.toList.length) u, cs[k]? = some u → cs.toList[k] = u := fun k hk u hu => by
        rw [← Array.getElem?_toList, List.getElem?_eq_getElem hk] at hu
        exact Option.some.inj hu
      rw [at_ _ _ _ a, at_ (j * 3 + 1) _ _ b, at_ (j * 3 + 1 + 1) _ _ c]
      rfl
    rw [e]
    refine kAc_mkM _ _ _ (row j) (Kd.R_lower (Kd.R_of_own (h.own j hj') fun k hk => ⟨?_, fun e => ?_⟩) hB)
    · exact own_base (h.own j hj') k hk
    · obtain ⟨_, _, c, hc⟩ := (QI.of_own (h.own j hj')).block k hk
      have e : k = gR := Option.some.inj e
      subst e
      exact h1.ne_of_type hc (by decide) rfl
end
theorem rowI_len (g : Gr) (s : StD) (out : List Nat) (p b a : Nat) : (rowI g s out p b a).rd.length ≤ g.ps.length + 1 := by
  have h : (rowP g s out p a).rd.length ≤ g.ps.length := by
    show (List.map _ _).length ≤ _
    rw [List.length_map]
    exact Nat.le_trans (List.length_filter_le _ _) (by rw [List.length_range]; omega)
  unfold rowI
  split
  · unfold acPut
    split
    · exact Nat.le_succ_of_le h
    · show (_ ++ [_]).length ≤ _
      rw [List.length_append, List.length_singleton]; omega
  · exact Nat.le_succ_of_le h
theorem wpl_append_intB {ops : Array Oper} {rest : List Oper} {o : Oper} {a : Act} {Q : Exit → Act → World → Prop} {W : World} {B : Nat} (hgd : o.guard = none) (s y : Operand) (ho : o.op = .call { callee := .builtin .append, args := #[s, y], argTypes := #[44, 44] }) (v : Value) (xs : List Int)
    (hs : a.eval s = v) (own : OwnI W B v xs) (g1 : Nat) (n : Int) (hx : a.eval y = .slice (some ⟨g1, 0, none⟩) 1 1) (hc : W.cell? ⟨g1, 0, none⟩ = some (.int .i64 n)) (hl : xs.length < 100000) (hB : B ≤ W.heap.size)
    (hK : ∀ v' w', w'.ownsRow B 3 1 v' (xs.length + 1) (xs.map (Value.int .i64) ++ [.int .i64 n]) → W.grownBy w' v.ownBlock → (v'.ownBlock = v.ownBlock ∨ v'.ownBlock = some W.heap.size) → Keep (∃ A n c, v' = .slice A n c) → wpList Tryd.prog ops Q rest (a.put o.dst v') w') : wpList Tryd.prog ops Q (o :: rest) a W := by
  obtain ⟨i0, hi0, hz0, hz1, hz2⟩ := info_parts info_int
  refine wpList_append_own_at W hgd s y 44 ho B 3 i0 (.int .i64 0) 1 8 Tryd.underlying44 hi0 hz0 hz1 hz2 rfl (by decide) v xs.length (xs.map (Value.int .i64)) hs own ⟨g1, 0, none⟩ 1 1 [.int .i64 n] hx rfl
    (fun j u hu => ?_) (by simp [Value.oneCell']) (by simp only [maxLen]; omega) (by omega) hB (fun v' w' h1 h2 _ h4 => hK v' w' h1 h2 h4 ⟨?_⟩)
  · rcases j with _ | j
    · simp at hu
      subst hu
      exact hc
    · simp at hu
  · rcases h1.2 with ⟨e, _⟩ | ⟨g, cap, cur, e, _⟩
    · exact ⟨none, 0, 0, e⟩
    · exact ⟨_, _, _, e⟩
end Go.Proofs.YtaooejidkeojjaaDoor.H
namespace Go.Proofs.YtaooejidkeojjaaDoor.H
open Go.RowKit Go.Proofs.YtaooejidkeojjaaDoorW.PrintWords
set_option linter.unusedVariables false
set_option linter.unusedSimpArgs false
set_option maxRecDepth 100000
def kPr : Kd Pr := Kd.iso (Kd.pair (Kd.int .i64) (Kd.pair (Kd.slice 3 (Kd.int .i64)) Kd.bool)) (fun x : Pr => (x.head, x.body, x.right))
def kRow : Kd (List Ac) := Kd.slice 46 kAc
def kInts : Kd (List Int) := Kd.slice 3 (Kd.int .i64)
structure TB (x : Mx) (B : Nat) (w : World) (tB : Nat) (vP vA vG : Value) (ps : List Pr) (al : List (List Ac)) (gs : List (List Int)) : Prop where
  blk : Blk w tB 30 #[.int .i64 x.g.T, .int .i64 x.g.S, .int .i64 x.g.st, vP, vA, vG]
  pr : kPr.R 49 w B (fun _ => True) vP ps
  ac : kRow.R 37 w B (fun _ => True) vA al
  go : kInts.R 44 w B (fun _ => True) vG gs
  lo : B ≤ tB
theorem TB.below {x : Mx} {B : Nat} {w w' : World} {tB : Nat} {vP vA vG : Value} {ps : List Pr} {al : List (List Ac)} {gs : List (List Int)} (h : TB x B w tB vP vA vG ps al gs) (hb : Below w.heap.size w w') : TB x B w' tB vP vA vG ps al gs :=
  ⟨h.blk.below hb h.blk.lt, Kd.R_below h.pr hb, Kd.R_below h.ac hb, Kd.R_below h.go hb, h.lo⟩
theorem types_ne {l : List Nat} {t : Nat} (h : l.all (fun q => q != t) = true) : ∀ q, q ∈ l → q ≠ t := fun q hq => by
  have := List.all_eq_true.1 h q hq
  simpa using this
section
variable {x : Mx} {B : Nat} {w w' : World} {tB : Nat} {vP vA vG v' : Value} {ps ps' : List Pr} {al al' : List (List Ac)} {gs gs' : List (List Int)}
theorem TB.prod (h : TB x B w tB vP vA vG ps al gs) (hr : kPr.R 49 w' B (fun _ => True) v' ps') (hg : w.grownBy w' vP.ownBlock) : TB x B (w'.setCell ⟨tB, 3, none⟩ v') tB v' vA vG ps' al gs := by
  have b' := h.blk.grown hg (Kd.R_ne h.pr h.blk (by decide))
  exact ⟨b'.set_ 3 v', Kd.R_set hr b' (types_ne (by decide)) 3 v', Kd.R_set (Kd.R_over h.ac h.pr (types_ne (by decide)) hg) b' (types_ne (by decide)) 3 v', Kd.R_set (Kd.R_over h.go h.pr (types_ne (by decide)) hg) b' (types_ne (by decide)) 3 v', h.lo⟩
theorem TB.act (h : TB x B w tB vP vA vG ps al gs) (hr : kRow.R 37 w' B (fun _ => True) v' al') (hg : w.grownBy w' vA.ownBlock) : TB x B (w'.setCell ⟨tB, 4, none⟩ v') tB vP v' vG ps al' gs := by
  have b' := h.blk.grown hg (Kd.R_ne h.ac h.blk (by decide))
  exact ⟨b'.set_ 4 v', Kd.R_set (Kd.R_over h.pr h.ac (types_ne (by decide)) hg) b' (types_ne (by decide)) 4 v', Kd.R_set hr b' (types_ne (by decide)) 4 v', Kd.R_set (Kd.R_over h.go h.ac (types_ne (by decide)) hg) b' (types_ne (by decide)) 4 v', h.lo⟩
theorem TB.goto (h : TB x B w tB vP vA vG ps al gs) (hr : kInts.R 44 w' B (fun _ => True) v' gs') (hg : w.grownBy w' vG.ownBlock) : TB x B (w'.setCell ⟨tB, 5, none⟩ v') tB vP vA v' ps al gs' := by
  have b' := h.blk.grown hg (Kd.R_ne h.go h.blk (by decide))
  exact ⟨b'.set_ 5 v', Kd.R_set (Kd.R_over h.pr h.go (types_ne (by decide)) hg) b' (types_ne (by decide)) 5 v', Kd.R_set (Kd.R_over h.ac h.go (types_ne (by decide)) hg) b' (types_ne (by decide)) 5 v', Kd.R_set hr b' (types_ne (by decide)) 5 v', h.lo⟩
end
theorem kPr_mkM (w : World) (base : Nat) (ok : Nat → Prop) (p : Pr) {v1 : Value} (g1 : (Kd.int .i64).R 3 w base ok v1 p.body) : kPr.M w base ok p [.int .i64 p.head, v1, .bool p.right] := ⟨[.int .i64 p.head], [v1, .bool p.right], rfl, rfl, ⟨[v1], [.bool p.right], rfl, ⟨v1, rfl, g1⟩, rfl⟩⟩
theorem info_row : (Tryd.prog.info? 37).map (fun i => (i.zero, i.size, i.bytes)) = some (some (.slice none 0 0), kRow.sz, 24) := by kernel_rfl
theorem info_ints : (Tryd.prog.info? 44).map (fun i => (i.zero, i.size, i.bytes)) = some (some (.slice none 0 0), kInts.sz, 24) := by kernel_rfl
theorem info_prod : (Tryd.prog.info? 49).map (fun i => (i.zero, i.size, i.bytes)) = some (some (.agg #[.int .i64 0, .slice none 0 0, .bool false]), kPr.sz, 40) := by kernel_rfl
structure TW (x : Mx) (w wr : World) (tB : Nat) (vP vA vG : Value) (ps : List Pr) (al : List (List Ac)) (gs : List (List Int)) : Prop where
  tb : TB x w.heap.size wr tB vP vA vG ps al gs
  rs : Blk wr w.heap.size 30 #[.int .i64 0, .int .i64 0, .int .i64 0, .slice none 0 0, .slice none 0 0, .slice none 0 0]
  bw : Below w.heap.size w wr
  ne : w.heap.size ≠ tB
section
variable {x : Mx} {w wr w' : World} {tB : Nat} {vP vA vG v' : Value} {ps ps' : List Pr} {al al' : List (List Ac)} {gs gs' : List (List Int)}
theorem TW.below (h : TW x w wr tB vP vA vG ps al gs) (hb : Below wr.heap.size wr w') : TW x w w' tB vP vA vG ps al gs := ⟨h.tb.below hb, h.rs.below hb h.rs.lt, below_step h.bw hb h.bw.size, h.ne⟩
theorem TW.prod (h : TW x w wr tB vP vA vG ps al gs) (hr : kPr.R 49 w' w.heap.size (fun _ => True) v' ps') (hg : wr.grownBy w' vP.ownBlock) (hb : Below w.heap.size w w') : TW x w (w'.setCell ⟨tB, 3, none⟩ v') tB v' vA vG ps' al gs :=
  ⟨h.tb.prod hr hg, (h.rs.grown hg (Kd.R_ne h.tb.pr h.rs (by decide))).far h.ne _, hb.setCell h.tb.lo _, h.ne⟩
theorem TW.act (h : TW x w wr tB vP vA vG ps al gs) (hr : kRow.R 37 w' w.heap.size (fun _ => True) v' al') (hg : wr.grownBy w' vA.ownBlock) (hb : Below w.heap.size w w') : TW x w (w'.setCell ⟨tB, 4, none⟩ v') tB vP v' vG ps al' gs :=
  ⟨h.tb.act hr hg, (h.rs.grown hg (Kd.R_ne h.tb.ac h.rs (by decide))).far h.ne _, hb.setCell h.tb.lo _, h.ne⟩
theorem TW.goto (h : TW x w wr tB vP vA vG ps al gs) (hr : kInts.R 44 w' w.heap.size (fun _ => True) v' gs') (hg : wr.grownBy w' vG.ownBlock) (hb : Below w.heap.size w w') : TW x w (w'.setCell ⟨tB, 5, none⟩ v') tB vP vA v' ps al gs' :=
  ⟨h.tb.goto hr hg, (h.rs.grown hg (Kd.R_ne h.tb.go h.rs (by decide))).far h.ne _, hb.setCell h.tb.lo _, h.ne⟩
end
structure TF (w W : World) (cs : Array Value) (vP vA vG : Value) (ps : List Pr) (al : List (List Ac)) (gs : List (List Int)) : Prop where
  b : Blk W w.heap.size 30 cs
  pr : kPr.R 49 W w.heap.size (fun _ => True) vP ps
  ac : kRow.R 37 W w.heap.size (fun _ => True) vA al
  go : kInts.R 44 W w.heap.size (fun _ => True) vG gs
  bw : Below w.heap.size w W
theorem TF.set {w W : World} {cs : Array Value} {vP vA vG : Value} {ps : List Pr} {al : List (List Ac)} {gs : List (List Int)} (h : TF w W cs vP vA vG ps al gs) (i : Nat) (u : Value) : TF w (W.setCell ⟨w.heap.size, i, none⟩ u) (cs.setIfInBounds i u) vP vA vG ps al gs :=
  ⟨h.b.set_ i u, Kd.R_set h.pr h.b (types_ne (by decide)) i u, Kd.R_set h.ac h.b (types_ne (by decide)) i u, Kd.R_set h.go h.b (types_ne (by decide)) i u, h.bw.setCell (Nat.le_refl _) u⟩
theorem TW.ret {x : Mx} {w wr : World} {tB : Nat} {vP vA vG : Value} {ps : List Pr} {al : List (List Ac)} {gs : List (List Int)} (h : TW x w wr tB vP vA vG ps al gs) (u0 u1 u2 u3 u4 u5 : Value) : TF w (wr.setCells w.heap.size 0 [u0, u1, u2, u3, u4, u5]) #[u0, u1, u2, u3, u4, u5] vP vA vG ps al gs := by
  have f0 : TF w wr #[.int .i64 0, .int .i64 0, .int .i64 0, .slice none 0 0, .slice none 0 0, .slice none 0 0] vP vA vG ps al gs := ⟨h.rs, h.tb.pr, h.tb.ac, h.tb.go, h.bw⟩
  exact (((((f0.set 0 u0).set 1 u1).set 2 u2).set 3 u3).set 4 u4).set 5 u5
set_option maxHeartbeats 8000000 in
theorem table_tab (x : Mx) (hx : MxOk x) (gL cL : Nat) (qs : List Q4) (sts : List StD) (w : World) (hw : MkS x w gL cL qs sts) (hS : StsOk x sts) (hL : Laid w) (hl : sts.length ≤ 512)
    (hbit : ∀ s ∈ sts, ∀ n a, ((closeM x.g x.F s.core s.mask).getD n 0).testBit a = true → (a : Int) ≤ x.g.T) :
    Calls Tryd.prog 36 #[.pointer (some ⟨x.mB, 0, none⟩)] w fun e w' => ∃ vP vA vG, e = .returned (.agg #[.int .i64 x.g.T, .int .i64 x.g.S, .int .i64 x.g.st, vP, vA, vG]) ∧
      kPr.R 49 w' w.heap.size (fun _ => True) vP x.g.ps ∧ kRow.R 37 w' w.heap.size (fun _ => True) vA (sts.map (actsM x.g x.F)) ∧ kInts.R 44 w' w.heap.size (fun _ => True) vG (sts.map StD.led) ∧ Below w.heap.size w w' := by
  have HW := Keep.mk hw
  have HX := Keep.mk hx
  have HS := Keep.mk hS
  have HL := Keep.mk hL
  have HBT := Keep.mk hbit
  have q0 := hw.mkr.c0
  have q1 := hw.mkr.c1
  have q2 := hw.mkr.c2
  have lm := hw.mkr.lm
  clear hw hx hS hL hbit
  go_enter Tryd.func36, Tryd.ntmps36
  go_upto_region 1 with fail
  go_cut [3] (fun s3 wx => ∃ tB, s3 = .pointer (some ⟨tB, 0, none⟩) ∧ Keep (TW x w wx tB (.slice none 0 0) (.slice none 0 0) (.slice none 0 0) (x.g.ps.take 0) [] []))
  case first =>
    go_region
    go_wp2_with fail
    go_meet
    refine ⟨w.heap.size + 1, rfl, ⟨⟨⟨Blk.newAt (by simp), Kd.R_nil _ _ _ _ _, Kd.R_nil _ _ _ _ _, Kd.R_nil _ _ _ _ _, by omega⟩, (Blk.new _ _ _).alloc _, ?_, by omega⟩⟩⟩
    exact (((Below.refl _ _).alloc (Nat.le_refl _) _).alloc (by simp) _).drew
  case rest =>
    obtain ⟨tB, rfl, U⟩ := hcut
    have c3 := cell_below HW.out.mkr.c3 U.out.bw lm
    clear q0 q1 q2
    obtain ⟨N, hN⟩ : ∃ N, N = x.g.ps.length := ⟨_, rfl⟩
    rw [← hN] at c3
    have HN := Keep.mk hN
    have hN64 : N ≤ 64 := by have := HX.out.ok.n1; omega
    obtain ⟨ad, hA0⟩ : ∃ ad, x.A = some ad := by
      obtain ⟨ad, _, _, e, _⟩ := HW.out.mkr.rp 0 (by rw [← hN]; have := HX.out.ok.n0; omega)
      exact ⟨ad, e⟩
    rw [hA0] at c3
    have HA0 := Keep.mk hA0
    clear hN hA0
    go_wp2
    go_loopg [37] N (fun gg s37 wr => ∃ (j : Nat) (vP : Value), j ≤ N ∧ N - j ≤ gg ∧ s37 = .int .i64 (j : Nat) ∧ Keep (TW x w wr tB vP (.slice none 0 0) (.slice none 0 0) (x.g.ps.take j) [] []))
    case atStart => exact ⟨0, _, Nat.zero_le _, by omega, rfl, U⟩
    case round =>
      clear U c3
      obtain ⟨j, vP, hj, hgj, rfl, U⟩ := hrel
      by_cases hlt : j < N
      · have hjl : j < x.g.ps.length := by rw [← HN.out]; exact hlt
        obtain ⟨ad', Ab, cb, hA, hb, c0, c1, c2, hlb, hrb⟩ := HW.out.mkr.rp j hjl
        rw [HA0.out] at hA
        injection hA with hA
        subst hA
        have hB0 := HW.out.mkr.l0
        replace c0 := cell_below c0 U.out.bw (by rw [add_block]; omega)
        replace c1 := cell_below c1 U.out.bw (by show (ad.add _).block < _; rw [add_block]; omega)
        replace c2 := cell_below c2 U.out.bw (by show (ad.add _).block < _; rw [add_block]; omega)
        have hpos : 0 < x.g.ps[j].body.length := HX.out.ne _ (List.getElem_mem hjl)
        have hb8 : x.g.ps[j].body.length ≤ 8 := HX.out.b _ (List.getElem_mem hjl)
        obtain ⟨a2, rfl, _, _⟩ := hrb.int 0 hpos
        have RB : Keep (Rd eI 1 wr wr.heap.size (some a2) x.g.ps[j].body) := ⟨((hrb.mono hB0).below U.out.bw).mono U.out.bw.size⟩
        have HPJ : Keep (x.g.ps.take (j + 1) = x.g.ps.take j ++ [x.g.ps[j]]) := ⟨List.take_succ_eq_append_getElem hjl⟩
        have HLJ : Keep ((x.g.ps.take j).length ≤ 64) := ⟨by rw [List.length_take]; have := HN.out; omega⟩
        have c3 := U.out.tb.blk.cell 3
        simp at c3
        have nT := U.out.tb.blk.lt
        obtain ⟨m3, A3, k3, e3⟩ : ∃ m A c, vP = .slice A m c := by obtain ⟨A, c, e⟩ := Kd.R_slice U.out.tb.pr; exact ⟨_, A, c, e⟩
        subst e3
        have i1 : (0 : Int) ≤ j := by omega
        have i2 : (j : Int) < N := by omega
        generalize hx : x.g.ps[j] = p at *
        clear hx hrb hlb
        obtain ⟨hd, bd, rt⟩ := p
        dsimp only at *
        go_upto_region 5 with fail
        obtain ⟨wp, hwp⟩ : ∃ W : World, W = wr.alloc (.cells #[.int .i64 hd, .slice (some a2) bd.length cb, .bool rt] 49) := ⟨_, rfl⟩
        have U1 := Keep.mk (U.out.below (w' := wp) (by rw [hwp]; exact (Below.refl _ _).alloc (Nat.le_refl _) _))
        have BP : Keep (Blk wp wr.heap.size 49 #[.int .i64 hd, .slice (some a2) bd.length cb, .bool rt]) := ⟨by rw [hwp]; exact Blk.new _ _ _⟩
        have RB1 : Keep (Rd eI 1 wp wp.heap.size (some a2) bd) := ⟨by
          have hb : Below wr.heap.size wr wp := by rw [hwp]; exact (Below.refl _ _).alloc (Nat.le_refl _) _
          exact (RB.out.below hb).mono hb.size⟩
        have hP3 : ∀ k, (Value.slice A3 m3 k3).ownBlock = some k → k < wr.heap.size := Kd.R_lt U.out.tb.pr
        have HP3 := Keep.mk hP3
        rw [← hwp]
        generalize wr.heap.size = pB at *
        have c3 := U1.out.tb.blk.cell 3
        simp at c3
        have b0 := BP.out.cell 0
        have b1 := BP.out.cell 1
        have b2 := BP.out.cell 2
        simp at b0 b1 b2
        have HT : Keep (∀ W : World, Below wp.heap.size wp W → ∀ b : Bool, (W.cell? ⟨pB, 0, none⟩ = some (.int .i64 hd) ∧ W.cell? ⟨pB, 1, none⟩ = some (.slice (some a2) bd.length cb) ∧ W.cell? ⟨pB, 2, none⟩ = some (.bool rt)) ∧ (b = false → W.cell? ⟨tB, 3, none⟩ = some (.slice A3 m3 k3))) := ⟨fun W hW b =>
          ⟨⟨cell_below b0 hW BP.out.lt, cell_below b1 hW BP.out.lt, cell_below b2 hW BP.out.lt⟩, fun _ => cell_below c3 hW U1.out.tb.blk.lt⟩⟩
        have KCL : Keep (∀ W, Below wp.heap.size wp W → Calls Tryd.prog 63 #[.slice (some a2) bd.length cb] W fun e w' => ∃ v, e = .returned v ∧ OwnI w' W.heap.size v bd ∧ Below W.heap.size W w') := ⟨fun W hW => clone_any a2 cb bd W ((RB1.out.below hW).mono hW.size) (by omega)⟩
        clear c3 b0 b1 b2 hwp hP3 RB RB1 U c0 c1 c2
        refine wp_region_way (d := 12) (S := fun b W => (W.cell? ⟨pB, 0, none⟩ = some (.int .i64 hd) ∧ W.cell? ⟨pB, 1, none⟩ = some (.slice (some a2) bd.length cb) ∧ W.cell? ⟨pB, 2, none⟩ = some (.bool rt)) ∧ (b = false → W.cell? ⟨tB, 3, none⟩ = some (.slice A3 m3 k3))) (by kernel_rfl) ?_
        have hS0 := HT.out wp.drew (Below.drew (Below.refl _ _))
        (refine way_take (T := fun W => W.cell? ⟨pB, 0, none⟩ = some (.int .i64 hd) ∧ W.cell? ⟨pB, 1, none⟩ = some (.slice (some a2) bd.length cb) ∧ W.cell? ⟨pB, 2, none⟩ = some (.bool rt)) (i := 0) (v := ?_) rfl (by kernel_rfl) (by kernel_rfl) (by kernel_rfl) (fun _ _ _ h => h) (by decide) (fun _ _ h => h.1) (Or.inl ⟨by rfl, ?_⟩) (hS0 _) ?_; rotate_left; (· intro w hSw; (try dsimp only at hSw); go_simp; all_goals (with_reducible rfl)); (try simp only [Act.put, List.setIfInBounds_toArray, List.set_cons_zero, List.set_cons_succ]))
        (refine way_take (T := fun W => W.cell? ⟨pB, 0, none⟩ = some (.int .i64 hd) ∧ W.cell? ⟨pB, 1, none⟩ = some (.slice (some a2) bd.length cb) ∧ W.cell? ⟨pB, 2, none⟩ = some (.bool rt)) (i := 1) (v := ?_) rfl (by kernel_rfl) (by kernel_rfl) (by kernel_rfl) (fun _ _ _ h => h) (by decide) (fun _ _ h => h.1) (Or.inl ⟨by rfl, ?_⟩) (hS0 _) ?_; rotate_left; (· intro w hSw; (try dsimp only at hSw); go_simp; all_goals (with_reducible rfl)); (try simp only [Act.put, List.setIfInBounds_toArray, List.set_cons_zero, List.set_cons_succ]))
        (refine way_take_till (d := 12) (T := fun W => (W.cell? ⟨pB, 0, none⟩ = some (.int .i64 hd) ∧ W.cell? ⟨pB, 1, none⟩ = some (.slice (some a2) bd.length cb) ∧ W.cell? ⟨pB, 2, none⟩ = some (.bool rt)) ∧ W.cell? ⟨tB, 3, none⟩ = some (.slice A3 m3 k3)) (i := 2) (v := ?_) rfl (by kernel_rfl) (by kernel_rfl) (by kernel_rfl) (fun _ _ _ h => h) (by decide) rfl (by kernel_rfl) (by kernel_rfl) (fun _ h => ⟨h.1, h.2 rfl⟩) (Or.inl ⟨by rfl, ?_⟩) (hS0 _) ?_; rotate_left; (· intro w hSw; (try dsimp only at hSw); go_simp; all_goals (with_reducible rfl)); (try simp only [Act.put, List.setIfInBounds_toArray, List.set_cons_zero, List.set_cons_succ]))
        (refine way_take (T := fun W => W.cell? ⟨pB, 0, none⟩ = some (.int .i64 hd) ∧ W.cell? ⟨pB, 1, none⟩ = some (.slice (some a2) bd.length cb) ∧ W.cell? ⟨pB, 2, none⟩ = some (.bool rt)) (i := 3) (v := ?_) rfl (by kernel_rfl) (by kernel_rfl) (by kernel_rfl) (fun _ _ _ h => h) (by decide) (fun _ _ h => h.1) (Or.inl ⟨by rfl, ?_⟩) (hS0 _) ?_; rotate_left; (· intro w hSw; (try dsimp only at hSw); go_simp; all_goals (with_reducible rfl)); (try simp only [Act.put, List.setIfInBounds_toArray, List.set_cons_zero, List.set_cons_succ]))
        (refine way_take (T := fun W => W.cell? ⟨pB, 0, none⟩ = some (.int .i64 hd) ∧ W.cell? ⟨pB, 1, none⟩ = some (.slice (some a2) bd.length cb) ∧ W.cell? ⟨pB, 2, none⟩ = some (.bool rt)) (i := 4) (v := ?_) rfl (by kernel_rfl) (by kernel_rfl) (by kernel_rfl) (fun _ _ _ h => h) (by decide) (fun _ _ h => h.1) (Or.inl ⟨by rfl, ?_⟩) (hS0 _) ?_; rotate_left; (· intro w hSw; (try dsimp only at hSw); go_simp; all_goals (with_reducible rfl)); (try simp only [Act.put, List.setIfInBounds_toArray, List.set_cons_zero, List.set_cons_succ]))
        (refine way_take (T := fun W => W.cell? ⟨pB, 0, none⟩ = some (.int .i64 hd) ∧ W.cell? ⟨pB, 1, none⟩ = some (.slice (some a2) bd.length cb) ∧ W.cell? ⟨pB, 2, none⟩ = some (.bool rt)) (i := 5) (v := ?_) rfl (by kernel_rfl) (by kernel_rfl) (by kernel_rfl) (fun _ _ _ h => h) (by decide) (fun _ _ h => h.1) (Or.inl ⟨by rfl, ?_⟩) (hS0 _) ?_; rotate_left; (· intro w hSw; (try dsimp only at hSw); go_simp; all_goals (with_reducible rfl)); (try simp only [Act.put, List.setIfInBounds_toArray, List.set_cons_zero, List.set_cons_succ]))
        (refine way_take (T := fun W => W.cell? ⟨pB, 0, none⟩ = some (.int .i64 hd) ∧ W.cell? ⟨pB, 1, none⟩ = some (.slice (some a2) bd.length cb) ∧ W.cell? ⟨pB, 2, none⟩ = some (.bool rt)) (i := 6) (v := ?_) rfl (by kernel_rfl) (by kernel_rfl) (by kernel_rfl) (fun _ _ _ h => h) (by decide) (fun _ _ h => h.1) (Or.inl ⟨by rfl, ?_⟩) (hS0 _) ?_; rotate_left; (· intro w hSw; (try dsimp only at hSw); go_simp; all_goals (with_reducible rfl)); (try simp only [Act.put, List.setIfInBounds_toArray, List.set_cons_zero, List.set_cons_succ]))
        (refine way_take (T := fun W => W.cell? ⟨pB, 0, none⟩ = some (.int .i64 hd) ∧ W.cell? ⟨pB, 1, none⟩ = some (.slice (some a2) bd.length cb) ∧ W.cell? ⟨pB, 2, none⟩ = some (.bool rt)) (i := 8) (v := ?_) rfl (by kernel_rfl) (by kernel_rfl) (by kernel_rfl) (fun _ _ _ h => h) (by decide) (fun _ _ h => h.1) (Or.inl ⟨by rfl, ?_⟩) (hS0 _) ?_; rotate_left; (· intro w hSw; (try dsimp only at hSw); go_simp; all_goals (with_reducible rfl)); (try simp only [Act.put, List.setIfInBounds_toArray, List.set_cons_zero, List.set_cons_succ]))
        (refine way_take (T := fun W => W.cell? ⟨pB, 0, none⟩ = some (.int .i64 hd) ∧ W.cell? ⟨pB, 1, none⟩ = some (.slice (some a2) bd.length cb) ∧ W.cell? ⟨pB, 2, none⟩ = some (.bool rt)) (i := 9) (v := ?_) rfl (by kernel_rfl) (by kernel_rfl) (by kernel_rfl) (fun _ _ _ h => h) (by decide) (fun _ _ h => h.1) (Or.inl ⟨by rfl, ?_⟩) (hS0 _) ?_; rotate_left; (· intro w hSw; (try dsimp only at hSw); go_simp; all_goals (with_reducible rfl)); (try simp only [Act.put, List.setIfInBounds_toArray, List.set_cons_zero, List.set_cons_succ]))
        clear hS0
        refine way_one (i := 7) (by kernel_rfl) rfl (fun K hK => ?_)
        go_simp
        go_at_call 63
        refine (KCL.out _ (Below.drew (Below.refl _ _))).mono ?_
        rintro e wn ⟨vcl, rfl, hown, hbw⟩
        dsimp only
        have hbw0 : Below wp.heap.size wp wn := (Below.drew (Below.refl wp.heap.size wp)).trans hbw
        have hS1 := HT.out wn hbw0
        refine hK.out _ _ (hS1 _) ?_
        clear hK K
        obtain ⟨A9, n9, c9, e9⟩ : ∃ A n c, vcl = .slice A n c := by obtain ⟨A, c, e, _⟩ := hown.open_; exact ⟨A, _, c, e⟩
        subst e9
        have OWN := Keep.mk hown
        have BWN := Keep.mk hbw0
        clear hown hbw hbw0
        (refine way_take (T := fun W => W.cell? ⟨pB, 0, none⟩ = some (.int .i64 hd) ∧ W.cell? ⟨pB, 1, none⟩ = some (.slice (some a2) bd.length cb) ∧ W.cell? ⟨pB, 2, none⟩ = some (.bool rt)) (i := 10) (v := ?_) rfl (by kernel_rfl) (by kernel_rfl) (by kernel_rfl) (fun _ _ _ h => h) (by decide) (fun _ _ h => h.1) (Or.inl ⟨by rfl, ?_⟩) (hS1 _) ?_; rotate_left; (· intro w hSw; (try dsimp only at hSw); go_simp; all_goals (with_reducible rfl)); (try simp only [Act.put, List.setIfInBounds_toArray, List.set_cons_zero, List.set_cons_succ]))
        refine way_one (i := 11) (by kernel_rfl) rfl (fun K hK => ?_)
        go_simp
        have hS2 := HT.out (wn.alloc (.cells #[.int .i64 hd, .slice A9 n9 c9, .bool rt] 49)) (BWN.out.alloc BWN.out.size _)
        refine hK.out _ _ (hS2 _) ?_
        clear hK K
        refine way_one (i := 12) (by kernel_rfl) rfl (fun K hK => ?_)
        have UN := Keep.mk (U1.out.below BWN.out)
        have nP : pB < wp.heap.size := BP.out.lt
        refine Kd.R_append_step kPr (w0 := w) w.heap.size (by rfl) (.tmp 43) (.tmp 52) 22 49 _ 40 rfl Tryd.underlying22 info_prod rfl (by decide) (by decide) (.slice A3 m3 k3) (x.g.ps.take j) ⟨hd, bd, rt⟩ [.int .i64 hd, .slice A9 n9 c9, .bool rt] (fun _ => True) (fun k => pB ≤ k) rfl rfl (kPr_mkM _ _ _ ⟨hd, bd, rt⟩ (Kd.R_lower (Kd.R_of_own OWN.out fun k hk => ?c1) ?c2)) (fun k hk => ⟨trivial, fun e => ?c3⟩) (fun _ _ => trivial) UN.out.tb.pr UN.out.bw UN.out.bw.size ?c4 ?_
        case c1 =>
          have h1 : wp.drew.heap.size ≤ k := own_base OWN.out k hk
          have h2 : wp.drew.heap.size = wp.heap.size := rfl
          omega
        case c2 => exact U1.out.bw.size
        case c3 =>
          have h1 := HP3.out k e.symm
          have h2 : pB ≤ k := hk
          omega
        case c4 => have := HLJ.out; omega
        intro v1 w1 hR hB hg hat
        have fc : ∀ i, w1.cell? ⟨pB, i, none⟩ = wn.cell? ⟨pB, i, none⟩ := fun i => by
          unfold World.cell?
          rw [hg.block pB (Nat.lt_of_lt_of_le nP BWN.out.size) (fun e => by have := HP3.out pB e.symm; omega)]
        have b' := UN.out.tb.blk.grown hg (Kd.R_ne UN.out.tb.pr UN.out.tb.blk (by decide))
        have d3 := b'.cell 3
        have z3 := b'.frozen 3
        simp at d3
        have UE := Keep.mk (UN.out.prod hR hg hB)
        obtain ⟨m4, A4, k4, e4⟩ : ∃ m A c, v1 = .slice A m c := by obtain ⟨A, c, e⟩ := Kd.R_slice hR; exact ⟨_, A, c, e⟩
        subst e4
        have hS4 : ∀ b : Bool, b = true → ((w1.cell? ⟨pB, 0, none⟩ = some (.int .i64 hd) ∧ w1.cell? ⟨pB, 1, none⟩ = some (.slice (some a2) bd.length cb) ∧ w1.cell? ⟨pB, 2, none⟩ = some (.bool rt)) ∧ (b = false → w1.cell? ⟨tB, 3, none⟩ = some (.slice A3 m3 k3))) := fun b hb => by
          obtain ⟨⟨h0, h1, h2⟩, _⟩ := hS1 b
          exact ⟨⟨(fc 0).trans h0, (fc 1).trans h1, (fc 2).trans h2⟩, fun h => up_no hb h⟩
        refine hK.out _ _ (hS4 _ (by kernel_rfl)) ?_
        have ntp : tB ≠ pB := UN.out.tb.blk.ne_of_type (BP.out.below BWN.out nP) (by decide)
        clear hK K hS2 hS1 fc b' hR hB hg hat HT KCL
        (try simp only [Act.put, List.setIfInBounds_toArray, List.set_cons_zero, List.set_cons_succ])
        (refine way_take (T := fun W => W.cell? ⟨pB, 0, none⟩ = some (.int .i64 hd) ∧ W.cell? ⟨pB, 1, none⟩ = some (.slice (some a2) bd.length cb) ∧ W.cell? ⟨pB, 2, none⟩ = some (.bool rt)) (i := 13) (v := ?_) rfl (by kernel_rfl) (by kernel_rfl) (by kernel_rfl) (fun _ _ _ h => h) (by decide) (fun _ _ h => h.1) (Or.inl ⟨by rfl, ?_⟩) (hS4 _ (by kernel_rfl)) ?_; rotate_left; (· intro w hSw; (try dsimp only at hSw); go_simp; all_goals (with_reducible rfl)); (try simp only [Act.put, List.setIfInBounds_toArray, List.set_cons_zero, List.set_cons_succ]))
        (refine way_take (T := fun W => W.cell? ⟨pB, 0, none⟩ = some (.int .i64 hd) ∧ W.cell? ⟨pB, 1, none⟩ = some (.slice (some a2) bd.length cb) ∧ W.cell? ⟨pB, 2, none⟩ = some (.bool rt)) (i := 14) (v := ?_) rfl (by kernel_rfl) (by kernel_rfl) (by kernel_rfl) (fun _ _ _ h => h) (by decide) (fun _ _ h => h.1) (Or.inl ⟨by rfl, ?_⟩) (hS4 _ (by kernel_rfl)) ?_; rotate_left; (· intro w hSw; (try dsimp only at hSw); go_simp; all_goals (with_reducible rfl)); (try simp only [Act.put, List.setIfInBounds_toArray, List.set_cons_zero, List.set_cons_succ]))
        refine way_one (i := 15) (by kernel_rfl) rfl (fun K hK => ?_)
        go_simp
        have hS5 : ∀ b : Bool, b = true → (((w1.setCell ⟨tB, 3, none⟩ (.slice A4 m4 k4)).cell? ⟨pB, 0, none⟩ = some (.int .i64 hd) ∧ (w1.setCell ⟨tB, 3, none⟩ (.slice A4 m4 k4)).cell? ⟨pB, 1, none⟩ = some (.slice (some a2) bd.length cb) ∧ (w1.setCell ⟨tB, 3, none⟩ (.slice A4 m4 k4)).cell? ⟨pB, 2, none⟩ = some (.bool rt)) ∧ (b = false → (w1.setCell ⟨tB, 3, none⟩ (.slice A4 m4 k4)).cell? ⟨tB, 3, none⟩ = some (.slice A3 m3 k3))) := fun b hb => by
          obtain ⟨⟨h0, h1, h2⟩, _⟩ := hS4 b hb
          exact ⟨⟨(World.cell?_setCell_far _ _ _ _ ntp).trans h0, (World.cell?_setCell_far _ _ _ _ ntp).trans h1, (World.cell?_setCell_far _ _ _ _ ntp).trans h2⟩, fun h => up_no hb h⟩
        refine hK.out _ _ (hS5 _ (by kernel_rfl)) ?_
        clear hK K hS4 hS5 d3 z3
        refine way_done (by kernel_rfl) ?_ _
        go_wp2
        go_roundg (N - (j + 1))
        case measure => omega
        case rel => exact ⟨j + 1, _, by omega, by omega, by go_num, ⟨by rw [HPJ.out]; exact UE.out⟩⟩
      · have ej : j = N := by omega
        have U2 : Keep (TW x w wr tB vP (.slice none 0 0) (.slice none 0 0) x.g.ps ((sts.take 0).map (actsM x.g x.F)) ((sts.take 0).map StD.led)) := ⟨by
          have := U.out
          rw [ej, HN.out, List.take_length] at this
          exact this⟩
        clear U ej
        obtain ⟨wo, rfl⟩ : ∃ wo : World, wo = wr := ⟨_, rfl⟩
        have c7 := (HW.out.keep U2.out.bw).c7
        obtain ⟨tN, hT⟩ : ∃ tN : Nat, x.g.T = (tN : Int) := Int.eq_ofNat_of_zero_le (by have := HX.out.ok.t0; omega)
        have hT1 : tN ≤ 32 := by have := HX.out.ok.t1; omega
        have HTN := Keep.mk hT
        clear hT
        go_wp2
        go_loopg [62] sts.length (fun gg s62 wr => ∃ (i : Nat) (vA vG : Value), i ≤ sts.length ∧ sts.length - i ≤ gg ∧ s62 = .int .i64 (i : Nat) ∧ Keep (TW x w wr tB vP vA vG x.g.ps ((sts.take i).map (actsM x.g x.F)) ((sts.take i).map StD.led)))
        case atStart => exact ⟨0, _, _, Nat.zero_le _, by omega, rfl, U2⟩
        case round =>
          clear U2 c7
          obtain ⟨i, vA, vG, hi, hgi, rfl, U⟩ := hrel
          by_cases hlt : i < sts.length
          rotate_left
          · have ei : i = sts.length := by omega
            subst ei
            have UF : Keep (TW x w wr tB vP vA vG x.g.ps (sts.map (actsM x.g x.F)) (sts.map StD.led)) := ⟨by
              have := U.out
              (try simp only [List.map_take] at this)
              rw [List.take_of_length_le (by simp), List.take_of_length_le (by simp)] at this
              exact this⟩
            obtain ⟨mP, AP, kP, eP⟩ : ∃ m A c, vP = .slice A m c := by obtain ⟨A, c, e⟩ := Kd.R_slice UF.out.tb.pr; exact ⟨_, A, c, e⟩
            obtain ⟨mA, AA, kA, eA⟩ : ∃ m A c, vA = .slice A m c := by obtain ⟨A, c, e⟩ := Kd.R_slice UF.out.tb.ac; exact ⟨_, A, c, e⟩
            obtain ⟨mG, AG, kG, eG⟩ : ∃ m A c, vG = .slice A m c := by obtain ⟨A, c, e⟩ := Kd.R_slice UF.out.tb.go; exact ⟨_, A, c, e⟩
            subst eP eA eG
            have RNG : Keep (wr.rangeAt tB 0 [.int .i64 x.g.T, .int .i64 x.g.S, .int .i64 x.g.st, .slice AP mP kP, .slice AA mA kA, .slice AG mG kG]) := ⟨fun j v hj => by
              rw [Nat.zero_add, UF.out.tb.blk.cell j]
              simpa using hj⟩
            have THR : Keep (wr.there w.heap.size 0 6) := ⟨fun j hj => by
              rw [Nat.zero_add, UF.out.rs.cell j, UF.out.rs.frozen j]
              refine ⟨?_, rfl⟩
              rcases j with _ | _ | _ | _ | _ | _ | j <;> first | rfl | omega⟩
            have FIN := Keep.mk (UF.out.ret (.int .i64 x.g.T) (.int .i64 x.g.S) (.int .i64 x.g.st) (.slice AP mP kP) (.slice AA mA kA) (.slice AG mG kG))
            clear U UF
            go_upto_region 33 with fail
            go_step
            refine wpList_load_mid rfl _ _ rfl tB 0 rfl _ _ RNG.out Tryd.underlying30 rfl (by kernel_rfl) ?_
            (try simp only [Act.put, List.setIfInBounds_toArray, List.set_cons_zero, List.set_cons_succ])
            refine wpList_store_mid rfl _ _ _ rfl w.heap.size 0 #[.int .i64 x.g.T, .int .i64 x.g.S, .int .i64 x.g.st, .slice AP mP kP, .slice AA mA kA, .slice AG mG kG] rfl rfl THR.out (by kernel_rfl) (by simp [Value.oneCell']) ?_
            go_wp2
            refine bodyPost_ret (results_cell_row rfl _ _ w.heap.size 30 #[.int .i64 x.g.T, .int .i64 x.g.S, .int .i64 x.g.st, .slice AP mP kP, .slice AA mA kA, .slice AG mG kG] (0, 0) _ rfl FIN.out.b Tryd.underlying30 rfl (by kernel_rfl)) rfl ?_
            exact ⟨_, _, _, rfl, FIN.out.pr, FIN.out.ac, FIN.out.go, FIN.out.bw⟩
          have MS := Keep.mk (HW.out.keep U.out.bw)
          have hiq : i < qs.length := by rw [HW.out.fam.len]; exact hlt
          have cp := MS.out.ptr hiq
          have q0 := MS.out.mkr.c0
          rw [HTN.out] at q0
          have hmem : stAt sts i ∈ sts := stAt_mem hlt
          obtain ⟨so1, so2, so3⟩ := HS.out _ hmem
          have HBI : Keep (∀ n a, ((closeM x.g x.F (stAt sts i).core (stAt sts i).mask).getD n 0).testBit a = true → a < tN + 1) := ⟨fun n a h => by have := HBT.out _ hmem n a h; rw [HTN.out] at this; omega⟩
          have HTK : Keep (sts.take (i + 1) = sts.take i ++ [stAt sts i]) := ⟨by
            rw [List.take_succ_eq_append_getElem hlt]
            unfold stAt
            rw [List.getD_eq_getElem?_getD, List.getElem?_eq_getElem hlt]; rfl⟩
          have hsta := MS.out.fam.sta i hiq
          obtain ⟨⟨cc, cm, ct9, hb, l1, l2, l3⟩, ⟨k1, h3, h4⟩, h5, ⟨k3, h7, h8⟩, h9⟩ := hsta
          have KC : Keep (∀ W, Below wr.heap.size wr W → Calls Tryd.prog 57 #[.pointer (some ⟨x.mB, 0, none⟩), .pointer (some ⟨qs[i].b, 0, none⟩)] W fun e w' => ∃ gO, e = .returned (.slice (some ⟨gO, 0, none⟩) (nSp x.g) (nSp x.g)) ∧ Blk w' gO 86 (u64s (closeM x.g x.F (stAt sts i).core (stAt sts i).mask)) ∧ W.heap.size ≤ gO ∧ Below W.heap.size W w') := ⟨fun W hW => by
            have hb' := hb.below hW hb.lt
            have h3' := h3.below hW h3.lt
            obtain ⟨c5, h5a, h5b⟩ := h5
            refine close_tab x HX.out _ _ _ _ _ cc cm W (MS.out.keep hW).mkr so1 (by rw [hb'.cell]; rfl) (by rw [hb'.cell, h9]; rfl) (fun i n hi => ?_) ⟨c5, h5a.below hW h5a.lt, h5b⟩ hb'.lt h3'.lt l1 so2
            rw [h3'.cell]
            exact h4 i n hi⟩
          have LD : Keep (∀ a, a < tN → ∃ v, (stAt sts i).led[a]? = some v ∧ shA x.g (stAt sts i) a = v) := ⟨fun a ha => by
            have hal : a < (stAt sts i).led.length := by rw [so3]; have := HX.out.ok.s0; have := HTN.out; omega
            refine ⟨_, List.getElem?_eq_getElem hal, ?_⟩
            unfold shA
            rw [HTN.out, if_pos (by omega), List.getD_eq_getElem?_getD, List.getElem?_eq_getElem hal]; rfl⟩
          have hsta0 := HW.out.fam.sta i hiq
          obtain ⟨⟨cc0, cm0, ct, hb0, _, _, l30⟩, _, _, ⟨k30, h70, h80⟩, _⟩ := hsta0
          have BWI : Keep (∀ W, Below wr.heap.size wr W → Below w.heap.size w W) := ⟨fun W hW => below_step U.out.bw hW U.out.bw.size⟩
          have HB2 : Keep (∀ W, Below w.heap.size w W → W.cell? ⟨qs[i].b, 2, none⟩ = some (.slice (some ⟨qs[i].gt, 0, none⟩) (stAt sts i).led.length ct)) := ⟨fun W hW => by
            have := (hb0.below hW hb0.lt).cell 2
            simp at this
            exact this⟩
          have HL2 : Keep (∀ W, Below w.heap.size w W → ∀ a v, (stAt sts i).led[a]? = some v → W.cell? ⟨qs[i].gt, a, none⟩ = some (.int .i64 v)) := ⟨fun W hW a v h => by
            rw [(h70.below hW h70.lt).cell]
            exact h80 a v h⟩
          have HLL : Keep ((stAt sts i).led.length = x.g.S.toNat ∧ (stAt sts i).led.length ≤ ct) := ⟨so3, l30⟩
          have CS := Keep.mk (close_spec HX.out.ok HX.out.fb so1)
          have HST := Keep.mk (HS.out _ hmem)
          clear hb hb0 h70 h80 l30 h3 h4 h5 h7 h8 h9 l1 l2 l3 so1 so2 so3 hmem
          generalize stAt sts i = s at *
          generalize qs[i].b = qb at *
          generalize qs[i].gt = qt at *
          have i1 : (0 : Int) ≤ i := by omega
          have i2 : (i : Int) < sts.length := by omega
          have kT : IntKind.i64.wrap ((tN : Int) + 1) = (tN : Int) + 1 := by rw [IntKind.wrap_i64]; omega
          obtain ⟨wi, rfl⟩ : ∃ wi : World, wi = wr := ⟨_, rfl⟩
          go_upto_region 10 with fail
          go_step
          iterate 6 (go_step; go_simp; go_step)
          obtain ⟨i9, hi9, hz9, hs9, hb9⟩ := info_parts3 info_action
          refine wpList_make_full _ rfl (.tmp 71) (.tmp 71) 37 rfl wi.heap.size 46 i9 _ 3 Tryd.underlying37 hi9 hz9 hs9 .i64 .i64 ((tN : Int) + 1) ((tN : Int) + 1) (tN + 1) rfl rfl (by omega) (by omega) (by rw [hb9]; omega) (by simp only [maxLen]; omega) (Nat.le_refl _) ?_
          intro w2 hown hgrow
          have hb2 : Below wi.heap.size wi w2 := (Below.refl _ _).grown hgrow (Nat.le_refl _) (fun k hk => by cases hk)
          have B2 := Keep.mk hb2
          have cz : (Value.agg #[.int .i64 0, .slice none 0 0, .bool false]).cells = #[.int .i64 0, .slice none 0 0, .bool false] := by kernel_rfl
          rw [cz] at hown
          have A0 : Keep (AR w2 wi.heap.size wi.heap.size (tN + 1) (fun _ => .slice none 0 0) (row0 x.g s 0)) := ⟨by rw [row0_nil]; exact AR.start hown (by omega)⟩
          clear hown hgrow hb2 cz hi9 hz9 hs9 hb9 i9 q0 cp
          have hH : wi.heap.size = wi.heap.size := rfl
          obtain ⟨gR, hgR⟩ : ∃ g, g = wi.heap.size := ⟨_, rfl⟩
          have HGR := Keep.mk hgR
          have A1 : Keep (AR w2 wi.heap.size gR (tN + 1) (fun _ => .slice none 0 0) (row0 x.g s 0)) := ⟨by rw [hgR]; exact A0.out⟩
          rw [← hgR]
          clear A0 hgR hH
          have n1 : ((tN + 1 : Nat) : Int) = (tN : Int) + 1 := by omega
          go_wp2
          go_loopg [75] (tN + 1) (fun gg s75 wr => ∃ k : Nat, k ≤ tN + 1 ∧ tN + 1 - k ≤ gg ∧ s75 = .int .i64 (k : Nat) ∧ Keep (AR wr wi.heap.size gR (tN + 1) (fun _ => .slice none 0 0) (row0 x.g s k)) ∧ Keep (Below wi.heap.size wi wr))
          case atStart => exact ⟨0, Nat.zero_le _, by omega, rfl, A1, B2⟩
          case round =>
            clear A1 B2
            obtain ⟨k, hk, hgk, rfl, A, B⟩ := hrel
            by_cases hltk : k < tN + 1
            rotate_left
            · have ek : k = tN + 1 := by omega
              subst ek
              obtain ⟨w3, rfl⟩ : ∃ w3 : World, w3 = wr := ⟨_, rfl⟩
              have KC3 := Keep.mk (KC.out _ B.out)
              go_wp2_with fail
              refine KC3.out.mono ?_
              rintro e w4 ⟨gO, rfl, hO, hgO, hb4⟩
              have hsz := B.out.size
              have A4 : Keep (AR w4 wi.heap.size gR (tN + 1) (fun _ => .slice none 0 0) (rowP x.g s (closeM x.g x.F s.core s.mask) 0)) := ⟨by
                have h1 := A.out.below hb4
                have e : AR w4 wi.heap.size gR (tN + 1) (fun _ => .slice none 0 0) (rowP x.g s (closeM x.g x.F s.core s.mask) 0) ↔ AR w4 wi.heap.size gR (tN + 1) (fun _ => .slice none 0 0) (row0 x.g s (tN + 1)) := by
                  have e : ∀ a, a < tN + 1 → rowP x.g s (closeM x.g x.F s.core s.mask) 0 a = row0 x.g s (tN + 1) a := fun a ha => rowP_zero _ _ _ _ _ ha
                  exact AR.congr e
                exact e.2 h1⟩
              have B4 : Keep (Below wi.heap.size wi w4) := ⟨below_step B.out hb4 hsz⟩
              have O4 := Keep.mk hO
              have HGO : Keep (wi.heap.size ≤ gO) := ⟨Nat.le_trans hsz hgO⟩
              clear A B hO hgO hb4 hsz KC3 KC LD
              obtain ⟨OUT, hOUT⟩ : ∃ o, o = closeM x.g x.F s.core s.mask := ⟨_, rfl⟩
              have CS2 : Keep (OUT.length = nSp x.g ∧ (∀ y ∈ OUT, y < 2 ^ 64) ∧ ∀ n a, (OUT.getD n 0).testBit a = true → a < tN + 1) := ⟨by rw [hOUT]; exact ⟨CS.out.1, CS.out.2.1, HBI.out⟩⟩
              rw [← hOUT] at A4 O4
              have HOUT := Keep.mk hOUT
              clear hOUT CS HBI
              have c3 := cell_below (MS.out.mkr.c3) B4.out MS.out.mkr.lm
              rw [← HN.out, HA0.out] at c3
              have kN : IntKind.i64.wrap ((N : Int) + 1) = (N : Int) + 1 := by rw [IntKind.wrap_i64]; omega
              have HLK : Keep (∀ W p, Below wi.heap.size wi W → p ≤ N → (Instr.lookup 78 (.map (some x.nB)) (.agg #[.int .i64 (p : Nat), .int .i64 ((bodyX x.g p).length : Nat)]) false).run Tryd.prog W = .ok (.int .i64 (endS x.g p : Nat)) W) := ⟨fun W p hW hp => by
                have hp' : p ≤ x.g.ps.length := by rw [← HN.out]; exact hp
                have h8 := bodyX_le HX.out p hp'
                have := (MS.out.keep hW).mkr.nm.look spot_law Tryd.underlying78 Tryd.underlying3 (zero_int _) (p, (bodyX x.g p).length) ⟨i64_small (by simp <;> omega) (by simp <;> omega), i64_small (by simp <;> omega) (by simp <;> omega)⟩
                simp only [spotE, spV] at this
                rw [this]
                unfold numOf
                rw [if_pos ⟨hp', Nat.le_refl _⟩]
                rfl⟩
              have A5 : Keep (∃ vs, AR w4 wi.heap.size gR (tN + 1) vs (rowP x.g s OUT 0)) := ⟨⟨_, A4.out⟩⟩
              clear A4
              go_wp2
              go_loopg [111] (N + 1) (fun gg s111 wr => ∃ p : Nat, p ≤ N + 1 ∧ N + 1 - p ≤ gg ∧ s111 = .int .i64 (p : Nat) ∧ Keep (∃ vs, AR wr wi.heap.size gR (tN + 1) vs (rowP x.g s OUT p)) ∧ Keep (Below wi.heap.size wi wr) ∧ Keep (Blk wr gO 86 (u64s OUT)))
              case atStart => exact ⟨0, Nat.zero_le _, by omega, rfl, A5, B4, O4⟩
              case round =>
                clear A5 B4 O4 c3
                obtain ⟨p, hp, hgp, rfl, A, B, O⟩ := hrel
                by_cases hltp : p < N + 1
                rotate_left
                · have ep : p = N + 1 := by omega
                  subst ep
                  obtain ⟨w6, rfl⟩ : ∃ W : World, W = wr := ⟨_, rfl⟩
                  have U6 := Keep.mk (U.out.below B.out)
                  have HA3 := Keep.mk (Kd.R_lt U.out.tb.ac)
                  have HG3 := Keep.mk (Kd.R_lt U.out.tb.go)
                  have HRM : Keep (kRow.M w6 w.heap.size (fun k => wi.heap.size ≤ k) (actsM x.g x.F s) [.slice (some ⟨gR, 0, none⟩) (tN + 1) (tN + 1)]) := ⟨by
                    obtain ⟨vs, h⟩ := A.out
                    refine ⟨_, rfl, ?_⟩
                    have h1 := h.done (B := w.heap.size) U.out.bw.size (by omega)
                    unfold actsM
                    rw [HTN.out, Int.toNat_natCast, ← HOUT.out, ← HN.out]
                    exact h1⟩
                  have RL : Keep (∀ W, Below w.heap.size w W → Rd eI 1 W W.heap.size (some ⟨qt, 0, none⟩) s.led ∧ W.cell? ⟨qb, 2, none⟩ = some (.slice (some ⟨qt, 0, none⟩) s.led.length ct)) := ⟨fun W hW2 => by
                    refine ⟨fun i hi => ⟨_, rfl, ?_, fun j u hj => ?_⟩, HB2.out W hW2⟩
                    · have h1 := HL2.out W hW2 i _ (List.getElem?_eq_getElem hi)
                      have h2 := cell_lt h1
                      exact h2
                    · have := HL2.out W hW2 i _ (List.getElem?_eq_getElem hi)
                      rcases j with _ | j
                      · have e : Value.int .i64 s.led[i] = u := by simpa [eI] using hj
                        rw [← e]
                        have ea : ((⟨qt, 0, none⟩ : Addr).add (i * 1)).add 0 = ⟨qt, i, none⟩ := by
                          rw [Nat.mul_one, add_at, Nat.zero_add, add_at, Nat.add_zero]
                        rw [ea]
                        exact this
                      · simp [eI] at hj⟩
                  have HSM : Keep (s.led.length ≤ 64) := ⟨by have := HLL.out.1; have := HX.out.ok.s1; have := HX.out.ok.s0; have := HX.out.ok.t0; omega⟩
                  have HLI : Keep ((((sts.take i).map (actsM x.g x.F)).length + 1) * 24 ≤ 140737488355328) := ⟨by rw [List.length_map, List.length_take]; omega⟩
                  have HLG : Keep ((((sts.take i).map StD.led).length + 1) * 24 ≤ 140737488355328) := ⟨by rw [List.length_map, List.length_take]; omega⟩
                  have d4 := U6.out.tb.blk.cell 4
                  simp at d4
                  obtain ⟨mA, AA, kA, eA⟩ : ∃ m A c, vA = .slice A m c := by obtain ⟨A, c, e⟩ := Kd.R_slice U6.out.tb.ac; exact ⟨_, A, c, e⟩
                  obtain ⟨mG, AG, kG, eG⟩ : ∃ m A c, vG = .slice A m c := by obtain ⟨A, c, e⟩ := Kd.R_slice U6.out.tb.go; exact ⟨_, A, c, e⟩
                  subst eA eG
                  have p9 : ¬ ((N : Int) + 1 < (N : Int) + 1) := by omega
                  have p8 : ¬ (((N + 1 : Nat) : Int) < (N : Int) + 1) := by omega
                  clear A B O
                  go_upto_region 30 with fail
                  go_wp2_with (at_builtin; refine Kd.R_append kRow (w0 := w) w.heap.size rfl (.tmp 162) (.tmp 164) 27 37 (.slice none 0 0) 24 rfl Tryd.underlying27 info_row rfl (by decide) (by decide) (.slice AA mA kA) ((sts.take i).map (actsM x.g x.F)) (actsM x.g x.F s) [.slice (some ⟨gR, 0, none⟩) (tN + 1) (tN + 1)] (fun _ => True) (fun k => wi.heap.size ≤ k) rfl rfl HRM.out (fun k hk => ⟨trivial, fun e => absurd (HA3.out k e.symm) (Nat.not_lt.2 hk)⟩) (fun _ _ => trivial) U6.out.tb.ac U6.out.bw U6.out.bw.size HLI.out ?_)
                  intro v7 w7 hR7 hB7 hg7 hat7
                  have b7 := U6.out.tb.blk.grown hg7 (Kd.R_ne U6.out.tb.ac U6.out.tb.blk (by decide))
                  have d4 := b7.cell 4
                  have z4 := b7.frozen 4
                  simp at d4
                  have U7 := Keep.mk (U6.out.act hR7 hg7 hB7)
                  obtain ⟨m7, A7, k7, e7⟩ : ∃ m A c, v7 = .slice A m c := by obtain ⟨A, c, e⟩ := Kd.R_slice hR7; exact ⟨_, A, c, e⟩
                  subst e7
                  clear U6 HA3 HRM hR7 hB7 hg7 hat7 b7 HLI
                  go_upto_region 31 with fail
                  obtain ⟨w8, hw8⟩ : ∃ W : World, W = w7.setCell ⟨tB, 4, none⟩ (.slice A7 m7 k7) := ⟨_, rfl⟩
                  rw [← hw8] at U7 ⊢
                  clear hw8 d4 z4
                  have HG8 := Keep.mk (Kd.R_lt U7.out.tb.go)
                  have c5 := U7.out.tb.blk.cell 5
                  simp at c5
                  have HT : Keep (∀ W : World, Below w8.heap.size w8 W → ∀ b : Bool, (W.cell? ⟨qb, 2, none⟩ = some (.slice (some ⟨qt, 0, none⟩) s.led.length ct)) ∧ (b = false → W.cell? ⟨tB, 5, none⟩ = some (.slice AG mG kG))) := ⟨fun W hW b =>
                    ⟨(RL.out W (below_step U7.out.bw hW U7.out.bw.size)).2, fun _ => cell_below c5 hW U7.out.tb.blk.lt⟩⟩
                  have KCL : Keep (∀ W, Below w8.heap.size w8 W → Calls Tryd.prog 63 #[.slice (some ⟨qt, 0, none⟩) s.led.length ct] W fun e w' => ∃ v, e = .returned v ∧ OwnI w' W.heap.size v s.led ∧ Below W.heap.size W w') := ⟨fun W hW => clone_any ⟨qt, 0, none⟩ ct s.led W (RL.out W (below_step U7.out.bw hW U7.out.bw.size)).1 (by have := HSM.out; omega)⟩
                  clear c5
                  refine wp_region_way (d := 8) (S := fun b W => (W.cell? ⟨qb, 2, none⟩ = some (.slice (some ⟨qt, 0, none⟩) s.led.length ct)) ∧ (b = false → W.cell? ⟨tB, 5, none⟩ = some (.slice AG mG kG))) (by kernel_rfl) ?_
                  have hS0 := HT.out w8.drew (Below.drew (Below.refl _ _))
                  (refine way_take (T := fun W => W.cell? ⟨qb, 2, none⟩ = some (.slice (some ⟨qt, 0, none⟩) s.led.length ct)) (i := 0) (v := ?_) rfl (by kernel_rfl) (by kernel_rfl) (by kernel_rfl) (fun _ _ _ h => h) (by decide) (fun _ _ h => h.1) (Or.inl ⟨by rfl, ?_⟩) (hS0 _) ?_; rotate_left; (· intro w hSw; (try dsimp only at hSw); go_simp; all_goals (with_reducible rfl)); (try simp only [Act.put, List.setIfInBounds_toArray, List.set_cons_zero, List.set_cons_succ]))
                  (refine way_take_till (d := 8) (T := fun W => (W.cell? ⟨qb, 2, none⟩ = some (.slice (some ⟨qt, 0, none⟩) s.led.length ct)) ∧ W.cell? ⟨tB, 5, none⟩ = some (.slice AG mG kG)) (i := 1) (v := ?_) rfl (by kernel_rfl) (by kernel_rfl) (by kernel_rfl) (fun _ _ _ h => h) (by decide) rfl (by kernel_rfl) (by kernel_rfl) (fun _ h => ⟨h.1, h.2 rfl⟩) (Or.inl ⟨by rfl, ?_⟩) (hS0 _) ?_; rotate_left; (· intro w hSw; (try dsimp only at hSw); go_simp; all_goals (with_reducible rfl)); (try simp only [Act.put, List.setIfInBounds_toArray, List.set_cons_zero, List.set_cons_succ]))
                  (refine way_take (T := fun W => W.cell? ⟨qb, 2, none⟩ = some (.slice (some ⟨qt, 0, none⟩) s.led.length ct)) (i := 2) (v := ?_) rfl (by kernel_rfl) (by kernel_rfl) (by kernel_rfl) (fun _ _ _ h => h) (by decide) (fun _ _ h => h.1) (Or.inl ⟨by rfl, ?_⟩) (hS0 _) ?_; rotate_left; (· intro w hSw; (try dsimp only at hSw); go_simp; all_goals (with_reducible rfl)); (try simp only [Act.put, List.setIfInBounds_toArray, List.set_cons_zero, List.set_cons_succ]))
                  (refine way_take (T := fun W => W.cell? ⟨qb, 2, none⟩ = some (.slice (some ⟨qt, 0, none⟩) s.led.length ct)) (i := 3) (v := ?_) rfl (by kernel_rfl) (by kernel_rfl) (by kernel_rfl) (fun _ _ _ h => h) (by decide) (fun _ _ h => h.1) (Or.inl ⟨by rfl, ?_⟩) (hS0 _) ?_; rotate_left; (· intro w hSw; (try dsimp only at hSw); go_simp; all_goals (with_reducible rfl)); (try simp only [Act.put, List.setIfInBounds_toArray, List.set_cons_zero, List.set_cons_succ]))
                  (refine way_take (T := fun W => W.cell? ⟨qb, 2, none⟩ = some (.slice (some ⟨qt, 0, none⟩) s.led.length ct)) (i := 4) (v := ?_) rfl (by kernel_rfl) (by kernel_rfl) (by kernel_rfl) (fun _ _ _ h => h) (by decide) (fun _ _ h => h.1) (Or.inl ⟨by rfl, ?_⟩) (hS0 _) ?_; rotate_left; (· intro w hSw; (try dsimp only at hSw); go_simp; all_goals (with_reducible rfl)); (try simp only [Act.put, List.setIfInBounds_toArray, List.set_cons_zero, List.set_cons_succ]))
                  (refine way_take (T := fun W => W.cell? ⟨qb, 2, none⟩ = some (.slice (some ⟨qt, 0, none⟩) s.led.length ct)) (i := 5) (v := ?_) rfl (by kernel_rfl) (by kernel_rfl) (by kernel_rfl) (fun _ _ _ h => h) (by decide) (fun _ _ h => h.1) (Or.inl ⟨by rfl, ?_⟩) (hS0 _) ?_; rotate_left; (· intro w hSw; (try dsimp only at hSw); go_simp; all_goals (with_reducible rfl)); (try simp only [Act.put, List.setIfInBounds_toArray, List.set_cons_zero, List.set_cons_succ]))
                  clear hS0
                  refine way_one (i := 6) (by kernel_rfl) rfl (fun K hK => ?_)
                  go_simp
                  go_at_call 63
                  refine (KCL.out _ (Below.drew (Below.refl _ _))).mono ?_
                  rintro e wn ⟨vcl, rfl, hown, hbw⟩
                  dsimp only
                  have hbw0 : Below w8.heap.size w8 wn := (Below.drew (Below.refl w8.heap.size w8)).trans hbw
                  have hS1 := HT.out wn hbw0
                  refine hK.out _ _ (hS1 _) ?_
                  clear hK K
                  obtain ⟨A9, n9, c9, e9⟩ : ∃ A n c, vcl = .slice A n c := by obtain ⟨A, c, e, _⟩ := hown.open_; exact ⟨A, _, c, e⟩
                  subst e9
                  have OWN := Keep.mk hown
                  have BWN := Keep.mk hbw0
                  clear hown hbw hbw0
                  refine way_one (i := 7) (by kernel_rfl) rfl (fun K hK => ?_)
                  go_simp
                  have hS2 := HT.out (wn.alloc (.cells #[.slice A9 n9 c9] 44)) (BWN.out.alloc BWN.out.size _)
                  refine hK.out _ _ (hS2 _) ?_
                  clear hK K
                  refine way_one (i := 8) (by kernel_rfl) rfl (fun K hK => ?_)
                  have UN := Keep.mk (U7.out.below BWN.out)
                  have hbn := BWN.out.size
                  have h89 : w8.drew.heap.size = w8.heap.size := rfl
                  refine Kd.R_append_step kInts (w0 := w) w.heap.size (by rfl) (.tmp 168) (.tmp 174) 28 44 _ 24 rfl Tryd.underlying28 info_ints rfl (by decide) (by decide) (.slice AG mG kG) ((sts.take i).map StD.led) s.led [.slice A9 n9 c9] (fun _ => True) (fun k => w8.heap.size ≤ k) rfl rfl ⟨_, rfl, Kd.R_lower (Kd.R_of_own OWN.out fun k hk => ?c1) ?c2⟩ (fun k hk => ⟨trivial, fun e => absurd (HG8.out k e.symm) (Nat.not_lt.2 hk)⟩) (fun _ _ => trivial) UN.out.tb.go UN.out.bw UN.out.bw.size HLG.out ?_
                  case c1 => exact own_base OWN.out k hk
                  case c2 => exact U7.out.bw.size
                  intro v1 w1 hR hB hg hat
                  have b' := UN.out.tb.blk.grown hg (Kd.R_ne UN.out.tb.go UN.out.tb.blk (by decide))
                  have d5 := b'.cell 5
                  have z5 := b'.frozen 5
                  simp at d5
                  have UE := Keep.mk (UN.out.goto hR hg hB)
                  obtain ⟨m4, A4, k4, e4⟩ : ∃ m A c, v1 = .slice A m c := by obtain ⟨A, c, e⟩ := Kd.R_slice hR; exact ⟨_, A, c, e⟩
                  subst e4
                  have hS4 : ∀ b : Bool, b = true → ((w1.cell? ⟨qb, 2, none⟩ = some (.slice (some ⟨qt, 0, none⟩) s.led.length ct)) ∧ (b = false → w1.cell? ⟨tB, 5, none⟩ = some (.slice AG mG kG))) := fun b hb => ⟨(RL.out w1 hB).2, fun h => up_no hb h⟩
                  refine hK.out _ _ (hS4 _ (by kernel_rfl)) ?_
                  clear hK K hS2 hS1 b' hR hg hat HT KCL
                  (try simp only [Act.put, List.setIfInBounds_toArray, List.set_cons_zero, List.set_cons_succ])
                  (refine way_take (T := fun W => W.cell? ⟨qb, 2, none⟩ = some (.slice (some ⟨qt, 0, none⟩) s.led.length ct)) (i := 9) (v := ?_) rfl (by kernel_rfl) (by kernel_rfl) (by kernel_rfl) (fun _ _ _ h => h) (by decide) (fun _ _ h => h.1) (Or.inl ⟨by rfl, ?_⟩) (hS4 _ (by kernel_rfl)) ?_; rotate_left; (· intro w hSw; (try dsimp only at hSw); go_simp; all_goals (with_reducible rfl)); (try simp only [Act.put, List.setIfInBounds_toArray, List.set_cons_zero, List.set_cons_succ]))
                  refine way_one (i := 10) (by kernel_rfl) rfl (fun K hK => ?_)
                  go_simp
                  have hS5 : ∀ b : Bool, b = true → (((w1.setCell ⟨tB, 5, none⟩ (.slice A4 m4 k4)).cell? ⟨qb, 2, none⟩ = some (.slice (some ⟨qt, 0, none⟩) s.led.length ct)) ∧ (b = false → (w1.setCell ⟨tB, 5, none⟩ (.slice A4 m4 k4)).cell? ⟨tB, 5, none⟩ = some (.slice AG mG kG))) := fun b hb => ⟨(RL.out _ UE.out.bw).2, fun h => up_no hb h⟩
                  refine hK.out _ _ (hS5 _ (by kernel_rfl)) ?_
                  clear hK K hS4 hS5 d5 z5 hB
                  refine way_done (by kernel_rfl) ?_ _
                  go_wp2
                  go_roundg (sts.length - (i + 1))
                  case measure => omega
                  case rel => exact ⟨i + 1, _, _, by omega, by omega, by go_num, ⟨by
                    have h := UE.out
                    (try simp only [List.map_take] at h)
                    rw [HTK.out]
                    simp only [List.map_append, List.map_take, List.map_cons, List.map_nil]
                    exact h⟩⟩
                have hpN : p ≤ N := by omega
                have hpl : p ≤ x.g.ps.length := by rw [← HN.out]; exact hpN
                have p0 : (0 : Int) ≤ p := by omega
                have p1 : (p : Int) < (N : Int) + 1 := by omega
                obtain ⟨w5, rfl⟩ : ∃ w5 : World, w5 = wr := ⟨_, rfl⟩
                have hen : endS x.g p < nSp x.g := off_lt hpl (Nat.le_refl _)
                have q5 := cell_below (MS.out.mkr.c5) B.out MS.out.mkr.lm
                have lk := HLK.out w5 p B.out hpN
                have ce := u64s_getD O.out (i := endS x.g p) (by rw [CS2.out.1]; exact hen)
                have nO := O.out.lt
                have nM : x.mB < w5.heap.size := (MS.out.keep B.out).mkr.lm
                have KBd : Keep (∀ W, Below w5.heap.size w5 W → Calls Tryd.prog 55 #[.pointer (some ⟨x.mB, 0, none⟩), .int .i64 p] W fun e w' => ∃ A c, e = .returned (.slice A (bodyX x.g p).length c) ∧ Rd eI 1 w' w'.heap.size A (bodyX x.g p) ∧ (bodyX x.g p).length ≤ c ∧ Below W.heap.size W w') := ⟨fun W hW => body_tab x HX.out p hpl W (((MS.out.keep B.out).keep hW).mkr)⟩
                have HLK5 : Keep (∀ W, Below w5.heap.size w5 W → (Instr.lookup 78 (.map (some x.nB)) (.agg #[.int .i64 (p : Nat), .int .i64 ((bodyX x.g p).length : Nat)]) false).run Tryd.prog W = .ok (.int .i64 (endS x.g p : Nat)) W) := ⟨fun W hW => HLK.out W p (below_step B.out hW B.out.size) hpN⟩
                obtain ⟨bl, hbl⟩ : ∃ b, b = (bodyX x.g p).length := ⟨_, rfl⟩
                obtain ⟨es, hes⟩ : ∃ e, e = endS x.g p := ⟨_, rfl⟩
                rw [← hbl] at lk KBd HLK5
                rw [← hes] at lk ce hen HLK5
                have HES := Keep.mk hes
                clear hbl hes
                obtain ⟨l0, hl0⟩ : ∃ l, l = OUT.getD es 0 := ⟨_, rfl⟩
                rw [← hl0] at ce
                have HL0 := Keep.mk hl0
                clear hl0
                have es0 : (0 : Int) ≤ es := by omega
                have es1 : (es : Int) < nSp x.g := by omega
                go_upto_region 22 with fail
                go_cut [12] (fun s12 wx => s12 = .int .u64 (l0 : Nat) ∧ Keep (Below w5.heap.size w5 wx))
                case first =>
                  go_region_held3 (fun w' => w'.cell? ⟨x.mB, 5, none⟩ = some (.map (some x.nB)) ∧ (Instr.lookup 78 (.map (some x.nB)) (.agg #[.int .i64 (p : Nat), .int .i64 (bl : Nat)]) false).run Tryd.prog w' = .ok (.int .i64 (es : Nat)) w' ∧ w'.cell? ⟨gO, es, none⟩ = some (.int .u64 (l0 : Nat)))
                    (first | exact ⟨q5, HLK5.out _ (below_drew1 (Below.refl _ _)), ce⟩ | exact ⟨t5, tl, te⟩) (first
                    | (go_at_call 55; refine (KBd.out _ (below_drew1 (Below.refl _ _))).mono ?_; rintro e w9 ⟨A9, c9, rfl, R9, l9, hb9⟩; have Z9 : Keep (Below w5.heap.size w5 w9) := ⟨below_step (below_drew1 (Below.refl _ _)) hb9 (Nat.le_refl _)⟩; have t5 := cell_below q5 Z9.out nM; have te := cell_below ce Z9.out nO; have tl := HLK5.out w9 Z9.out; clear hb9 R9 l9))
                  all_goals (
                    go_wp2_with fail
                    go_meet
                    exact ⟨rfl, Z9⟩)
                case rest =>
                  obtain ⟨rfl, B6⟩ := hcut
                  have A6 : Keep (∃ vs, AR wc wi.heap.size gR (tN + 1) vs (rowI x.g s OUT p 0)) := ⟨by
                    obtain ⟨vs, h⟩ := A.out
                    exact ⟨vs, (AR.congr fun a _ => rowI_zero _ _ _ _ _).2 (h.below B6.out)⟩⟩
                  have L6 : Keep (l0 < 2 ^ 64 ∧ ∀ i, l0.testBit i = (bitE x.g OUT p i && decide (0 ≤ i))) := ⟨by
                    rw [HL0.out]
                    refine ⟨getD_lt CS2.out.2.1 es, fun i => ?_⟩
                    unfold bitE
                    rw [HES.out]; simp⟩
                  have B7 : Keep (Below wi.heap.size wi wc) := ⟨below_step B.out B6.out B.out.size⟩
                  have O7 := Keep.mk (O.out.below B6.out nO)
                  clear A B O B6 q5 lk ce HLK5 KBd nO nM HL0 HES es0 es1 hen
                  go_wp2
                  go_loopg [12] 64 (fun gg s12 wr => ∃ k l : Nat, s12 = .int .u64 (l : Nat) ∧ k ≤ 64 ∧ 64 - k ≤ gg ∧ Keep (l < 2 ^ 64 ∧ ∀ i, l.testBit i = (bitE x.g OUT p i && decide (k ≤ i))) ∧ Keep (∃ vs, AR wr wi.heap.size gR (tN + 1) vs (rowI x.g s OUT p k)) ∧ Keep (Below wi.heap.size wi wr) ∧ Keep (Blk wr gO 86 (u64s OUT)))
                  case atStart => exact ⟨0, l0, rfl, by omega, by omega, L6, A6, B7, O7⟩
                  case round =>
                    clear A6 L6 B7 O7
                    obtain ⟨k, l, rfl, hk, hgk, L, A, B, O⟩ := hrel
                    by_cases hl0 : l = 0
                    · have t1 : ((l : Int) != 0) = false := by rw [hl0]; rfl
                      have A8 : Keep (∃ vs, AR wr wi.heap.size gR (tN + 1) vs (rowP x.g s OUT (p + 1))) := ⟨by
                        obtain ⟨vs, h⟩ := A.out
                        refine ⟨vs, (AR.congr fun a _ => ?_).1 h⟩
                        refine rowI_end _ _ _ hpl fun hb => ?_
                        have h1 := L.out.2 a
                        rw [hl0, Nat.zero_testBit, hb, Bool.true_and] at h1
                        have := of_decide_eq_false h1.symm
                        omega⟩
                      clear A L hl0
                      go_wp2
                      go_roundg (N + 1 - (p + 1))
                      case measure => omega
                      case rel => exact ⟨p + 1, by omega, by omega, by go_num, A8, B, O⟩
                    · have t1 : ((l : Int) != 0) = true := by simp; exact hl0
                      obtain ⟨j, m, e⟩ := low_split l hl0
                      have KT : Keep (∀ W, Below wi.heap.size wi W → Calls Tryd.prog 64 #[.int .u64 (l : Nat)] W fun e w' => e = .returned (.int .i64 (j : Nat)) ∧ w' = W) := ⟨fun W hW => by
                        rw [e]
                        refine tz_any j m (by rw [← e]; exact L.out.1) W ?_
                        exact (HL.out.low U.out.bw HL.out.pos).low hW (HL.out.low U.out.bw HL.out.pos).pos⟩
                      have hbj : l.testBit j = true := by rw [e]; exact low_bit j m
                      have hj2 := L.out.2 j
                      rw [hbj] at hj2
                      have hj3 : bitE x.g OUT p j = true ∧ k ≤ j := by
                        have := hj2.symm
                        rw [Bool.and_eq_true] at this
                        exact ⟨this.1, of_decide_eq_true this.2⟩
                      have hjn : j < tN + 1 := CS2.out.2.2 _ _ hj3.1
                      have hno : ∀ a, k ≤ a → a < j → bitE x.g OUT p a = false := fun a h1 h2 => by
                        have h3 := L.out.2 a
                        have h4 : l.testBit a = false := by rw [e]; exact low_none h2
                        rw [h4] at h3
                        cases hb : bitE x.g OUT p a
                        · rfl
                        · rw [hb, decide_eq_true h1] at h3; cases h3
                      have HST9 := Keep.mk (rowI_step x.g s OUT hj3.2 hj3.1 hno)
                      have L9 : Keep ((l &&& (l - 1)) < 2 ^ 64 ∧ ∀ i, (l &&& (l - 1)).testBit i = (bitE x.g OUT p i && decide (j + 1 ≤ i))) := ⟨by
                        refine ⟨Nat.and_lt_two_pow _ (Nat.lt_of_le_of_lt (Nat.sub_le _ _) L.out.1), fun i => ?_⟩
                        have h1 : (l &&& (l - 1)).testBit i = (l.testBit i && decide (j < i)) := by rw [e]; exact low_off j m i
                        rw [h1, L.out.2 i]
                        cases bitE x.g OUT p i
                        · rfl
                        · simp only [Bool.true_and]
                          rw [Bool.eq_iff_iff, Bool.and_eq_true, decide_eq_true_eq, decide_eq_true_eq, decide_eq_true_eq]
                          have := hj3.2
                          omega⟩
                      have w1 : IntKind.u64.wrap ((l : Int) - 1) = ((l - 1 : Nat) : Int) := by
                        rw [wraps_u64 _ (by omega) (by have := L.out.1; omega)]
                        omega
                      have an := and64 l (l - 1) L.out.1 (Nat.lt_of_le_of_lt (Nat.sub_le _ _) L.out.1)
                      have KTB := Keep.mk (KT.out wr B.out)
                      generalize l &&& (l - 1) = l9 at *
                      generalize hlp : l - 1 = lp at *
                      have hkj := hj3.2
                      clear KT hbj hj2 hj3 hno e L hlp hl0
                      obtain ⟨vs, AV⟩ := A.out
                      have A9 := Keep.mk AV
                      clear A AV
                      have g0 : wi.heap.size ≤ gR := A9.out.g0
                      have c3 := cell_below (MS.out.mkr.c3) B.out MS.out.mkr.lm
                      rw [← HN.out, HA0.out] at c3
                      have j0 : (0 : Int) ≤ j := by omega
                      have j1 : (j : Int) < ((tN + 1 : Nat) : Int) := by omega
                      have j1' : (j : Int) < (tN : Int) + 1 := by omega
                      have d1 := A9.out.cell1 hjn
                      have d2 := A9.out.cell2 hjn
                      go_upto_region 26 with (refine KTB.out.mono ?_; rintro e w' ⟨rfl, rfl⟩)
                      obtain ⟨wr, rfl⟩ : ∃ W : World, W = w' := ⟨_, rfl⟩
                      have NOM := Keep.mk (O.out.ne_of_type A9.out.blk.choose_spec.1 (by decide))
                      by_cases hpN2 : p = N
                      · have p2 : ((p : Int) == (N : Int)) = true := by simp [hpN2]
                        have z2 := A9.out.frozen (j * 3 + 2)
                        have A10 := Keep.mk (A9.out.put (d := 2) hjn ⟨(rowI x.g s OUT p k j).sh, (rowI x.g s OUT p k j).rd, true⟩ rfl (.bool true) (.inr ⟨rfl, rfl, rfl⟩))
                        have HE10 : Keep (rowI x.g s OUT p (j + 1) = upd (rowI x.g s OUT p k) j ⟨(rowI x.g s OUT p k j).sh, (rowI x.g s OUT p k j).rd, true⟩) := ⟨by
                          rw [HST9.out]
                          congr 1
                          unfold acPut
                          rw [if_pos (by rw [hpN2]; exact HN.out)]⟩
                        have B10 : Keep (Below wi.heap.size wi (wr.setCell ⟨gR, j * 3 + 2, none⟩ (.bool true))) := ⟨B.out.setCell g0 _⟩
                        have O10 : Keep (Blk (wr.setCell ⟨gR, j * 3 + 2, none⟩ (.bool true)) gO 86 (u64s OUT)) := ⟨O.out.far NOM.out _⟩
                        clear A9 HST9 B O hpN2
                        go_wp2
                        go_roundg (64 - (j + 1))
                        case measure => omega
                        case rel => exact ⟨j + 1, l9, rfl, by omega, by omega, L9, ⟨⟨vs, by rw [HE10.out]; exact A10.out⟩⟩, B10, O10⟩
                      · have p2 : ((p : Int) == (N : Int)) = false := by simp only [beq_eq_false_iff_ne]; omega
                        have HE10 : Keep (rowI x.g s OUT p (j + 1) = upd (rowI x.g s OUT p k) j { rowI x.g s OUT p k j with rd := (rowI x.g s OUT p k j).rd ++ [(p : Int)] }) := ⟨by
                          rw [HST9.out]
                          congr 1
                          unfold acPut
                          rw [if_neg (by rw [← HN.out]; exact hpN2)]⟩
                        have HRL : Keep ((rowI x.g s OUT p k j).rd.length < 100000) := ⟨by have := rowI_len x.g s OUT p k j; rw [← HN.out] at this; omega⟩
                        obtain ⟨m5, A5, k5, e5⟩ : ∃ m A c, vs j = .slice A m c := by obtain ⟨A, c, e, _⟩ := (A9.out.own j hjn).open_; exact ⟨_, A, c, e⟩
                        rw [e5] at d1
                        have HE5 := Keep.mk e5
                        clear hpN2 HST9 e5
                        go_upto_region 28 with fail
                        obtain ⟨wq, hwq⟩ : ∃ W : World, W = wr.alloc (.cells #[.int .i64 (p : Nat)] 3) := ⟨_, rfl⟩
                        have hbq : Below wr.heap.size wr wq := by rw [hwq]; exact (Below.refl _ _).alloc (Nat.le_refl _) _
                        have AQ := Keep.mk (A9.out.below hbq)
                        have BQ : Keep (Below wi.heap.size wi wq) := ⟨below_step B.out hbq B.out.size⟩
                        have OQ := Keep.mk (O.out.below hbq O.out.lt)
                        have HCQ : Keep (wq.cell? ⟨wr.heap.size, 0, none⟩ = some (.int .i64 (p : Nat))) := ⟨by rw [hwq]; exact one_cell _ _ _⟩
                        have OWQ : Keep (OwnI wq wi.heap.size (.slice A5 m5 k5) (rowI x.g s OUT p k j).rd) := ⟨by rw [← HE5.out]; exact AQ.out.own j hjn⟩
                        clear hbq A9 O
                        go_wp2_with (at_builtin; rw [← hwq]; refine wpl_append_intB rfl (.tmp 154) (.tmp 156) rfl (.slice A5 m5 k5) (rowI x.g s OUT p k j).rd rfl OWQ.out wr.heap.size (p : Nat) rfl HCQ.out HRL.out BQ.out.size ?_)
                        intro v8 w8 ho8 hg8 ha8 hv8
                        obtain ⟨A8, m8, c8, e8⟩ := hv8.out
                        subst e8
                        have hsq : wr.heap.size + 1 = wq.heap.size := by rw [hwq]; exact (World.size_alloc _ _).symm
                        rw [← hwq] at hg8
                        rw [hsq] at ha8
                        clear hv8 hwq hsq
                        have hown : ∀ b, (Value.slice A5 m5 k5).ownBlock = some b → wi.heap.size ≤ b := fun b hb => own_base OWQ.out b hb
                        have hne : ∀ {g : Nat} {t : TypeId} {cs : Array Value}, Blk wq g t cs → t ≠ 3 → Blk w8 g t cs := fun hb ht => hb.grown hg8 fun e => by
                          obtain ⟨_, _, c, hc⟩ := (QI.of_own OWQ.out).block _ e.symm
                          exact hb.ne_of_type hc ht rfl
                        have B8 : Below wi.heap.size wi w8 := BQ.out.grown hg8 BQ.out.size hown
                        have O8 := hne OQ.out (by decide)
                        obtain ⟨csR, bR, sR, hR⟩ := AQ.out.blk
                        have bR8 := hne bR (by decide)
                        have z8 := bR8.frozen (j * 3 + 1)
                        have d8 := bR8.cell (j * 3 + 1)
                        rw [(hR j hjn).2.1] at d8
                        have A10 := Keep.mk (AQ.out.app hjn (p : Nat) ho8 (by rw [HE5.out]; exact hg8) (by rw [HE5.out]; exact ha8))
                        have B10 : Keep (Below wi.heap.size wi (w8.setCell ⟨gR, j * 3 + 1, none⟩ (.slice A8 m8 c8))) := ⟨B8.setCell g0 _⟩
                        have O10 : Keep (Blk (w8.setCell ⟨gR, j * 3 + 1, none⟩ (.slice A8 m8 c8)) gO 86 (u64s OUT)) := ⟨O8.far NOM.out _⟩
                        clear AQ BQ OQ HCQ OWQ ho8 hg8 ha8 hown hne B8 O8 bR sR hR bR8
                        go_wp2
                        go_roundg (64 - (j + 1))
                        case measure => omega
                        case rel => exact ⟨j + 1, l9, rfl, by omega, by omega, L9, ⟨⟨_, by rw [HE10.out]; exact A10.out⟩⟩, B10, O10⟩
            · have k0 : (0 : Int) ≤ k := by omega
              have k1 : (k : Int) < (tN : Int) + 1 := by omega
              have k1' : (k : Int) < ((tN + 1 : Nat) : Int) := by omega
              have d0 := A.out.cell0 hltk
              have z0 := A.out.frozen (k * 3)
              have A2 := Keep.mk (A.out.put (d := 0) hltk ⟨-1, [], false⟩ (by rw [row0_at]) (.int .i64 (-1)) (.inl ⟨rfl, rfl, by rw [row0_at]⟩))
              have c0 := cell_below (MS.out.mkr.c0) B.out MS.out.mkr.lm
              rw [HTN.out] at c0
              have nmg : gR ≠ x.mB := by have := MS.out.mkr.lm; have := HGR.out; omega
              have nm := MS.out.mkr.lm
              have hgw : wi.heap.size ≤ gR := by have := HGR.out; omega
              clear A c0
              go_upto_region 15 with fail
              obtain ⟨wu, hwu⟩ : ∃ W : World, W = wr.setCell ⟨gR, k * 3, none⟩ (.int .i64 (-1)) := ⟨_, rfl⟩
              have A3 : Keep (AR wu wi.heap.size gR (tN + 1) (fun _ => .slice none 0 0) (upd (row0 x.g s k) k ⟨-1, [], false⟩)) := ⟨by rw [hwu]; exact A2.out⟩
              have BU : Keep (Below wi.heap.size wi wu) := ⟨by rw [hwu]; exact B.out.setCell hgw _⟩
              rw [← hwu]
              clear hwu A2 B d0 z0
              have c0 := cell_below (MS.out.mkr.c0) BU.out MS.out.mkr.lm
              rw [HTN.out] at c0
              by_cases hkT : k < tN
              · obtain ⟨v, hv1, hv2⟩ := LD.out k hkT
                have e2 := HB2.out wu (BWI.out _ BU.out)
                have e3 := HL2.out wu (BWI.out _ BU.out) k v hv1
                have d0 := A3.out.cell0 hltk
                have z0 := A3.out.frozen (k * 3)
                have A4 := Keep.mk (A3.out.put (d := 0) hltk ⟨v, [], false⟩ (by rw [upd_same]) (.int .i64 v) (.inl ⟨rfl, rfl, by rw [upd_same]⟩))
                have BV : Keep (Below wi.heap.size wi (wu.setCell ⟨gR, k * 3, none⟩ (.int .i64 v))) := ⟨BU.out.setCell hgw _⟩
                have HV := Keep.mk hv2
                have k2 : (k : Int) < tN := by omega
                have k3 : (k : Int) < s.led.length := by have := (List.getElem?_eq_some_iff.1 hv1).1; omega
                clear A3 BU hv1 hv2
                go_wp2
                go_roundg (tN + 1 - (k + 1))
                case measure => omega
                case rel =>
                  refine ⟨k + 1, by omega, by omega, by go_num, ⟨?_⟩, BV⟩
                  have := A4.out
                  rw [upd_upd, ← HV.out, ← row0_succ] at this
                  rw [← HV.out]
                  exact this
              · have k2 : ¬ ((k : Int) < tN) := by omega
                have HV : Keep (shA x.g s k = -1) := ⟨by unfold shA; rw [HTN.out, if_neg (by omega)]⟩
                go_wp2
                go_roundg (tN + 1 - (k + 1))
                case measure => omega
                case rel =>
                  refine ⟨k + 1, by omega, by omega, by go_num, ⟨?_⟩, BU⟩
                  have := A3.out
                  rw [← HV.out, ← row0_succ] at this
                  exact this
end Go.Proofs.YtaooejidkeojjaaDoor.H
namespace Go.Proofs.YtaooejidkeojjaaDoor.H
open Go.RowKit Go.Proofs.YtaooejidkeojjaaDoorW.PrintWords
set_option linter.unusedVariables false
set_option linter.unusedSimpArgs false
set_option maxRecDepth 100000
theorem run_append_zero {P : Program} {w : World} (t ty e : TypeId) (i : TypeInfo) (ht : P.underlying t = some (.slice e)) (hi : P.info? e = some i) (A A2 : Option Addr) (n c c2 : Nat) (hn : n ≤ c) :
    (Builtin.append_ #[t, t] ty #[.slice A n c, .slice A2 0 c2]).run P w = .ok (.slice A n c) w := by
  cases A <;> cases A2 <;> simp [Builtin.append_, run_underlying ht, sizeOf, typeInfo, hi, Builtin.lenOf, Builtin.firstCells, hn, storeCells, loadCells, loadCellsFrom]
theorem GrFit.of {g : Gr} (h : checkI g = 0) : GrFit g := ⟨GrIn.ok h, fun p hp => ((checkI_zero h).2.1 p hp).1⟩
def BitsM (g : Gr) (m : List Nat) : Prop := ∀ y ∈ m, ∀ a, y.testBit a = true → (a : Int) ≤ g.T
def BitsF (g : Gr) (F : List Nat) : Prop := ∀ s : Int, 0 ≤ s → s < g.S → ∀ t, (gn F s).testBit t = true → (t : Int) ≤ g.T
theorem BitsM.getD {g : Gr} {m : List Nat} (h : BitsM g m) (i a : Nat) (hb : (m.getD i 0).testBit a = true) : (a : Int) ≤ g.T := by
  rw [List.getD_eq_getElem?_getD] at hb
  cases e : m[i]? with
  | none => rw [e] at hb; simp at hb
  | some y => rw [e] at hb; exact h y (List.mem_of_getElem? e) a hb
theorem close_bits {g : Gr} (ok : GrOk g) {F core mask : List Nat} (hF : ∀ x ∈ F, x < 2 ^ 64) (hFb : BitsF g F) (h : StOk g core mask) (hm : BitsM g mask) (n a : Nat) (hb : ((closeM g F core mask).getD n 0).testBit a = true) : (a : Int) ≤ g.T := by
  have h1 := ((close_spec ok hF h).2.2 n a).1 hb
  clear hb
  induction h1 with
  | base hb => obtain ⟨i, _, _, h3⟩ := hb; exact hm.getD i _ h3
  | @step n a p b h1 hp hh hb ih =>
    by_cases hx : 0 ≤ nextS g (n + 1)
    · rw [if_pos hx] at hb
      exact hFb _ hx (nextS_lt ok _).2 b hb
    · rw [if_neg hx] at hb
      rw [hb]
      exact ih
theorem join_bits {g : Gr} {a b : List Nat} (ha : BitsM g a) (hb : BitsM g b) (hl : b.length ≤ a.length) : BitsM g (joinM a b) :=
  joinTo_all (fun y => ∀ c, y.testBit c = true → (c : Int) ≤ g.T) ha (fun x i hx _ c hc => by
    rw [Nat.testBit_or, Bool.or_eq_true] at hc
    rcases hc with hc | hc
    · exact hx c hc
    · exact hb.getD i c hc) hl _ (Nat.le_refl _)
theorem nx_bits {g : Gr} {out : List Nat} (h : ∀ n a, (out.getD n 0).testBit a = true → (a : Int) ≤ g.T) (s : Nat) : BitsM g (nxMask g out s) := by
  intro y hy a ha
  unfold nxMask at hy
  obtain ⟨n, _, rfl⟩ := List.mem_map.1 hy
  exact h n a ha
def BitsS (g : Gr) (l : List StD) : Prop := ∀ s ∈ l, BitsM g s.mask
theorem growPut_bits {g : Gr} {at_ sym n : Nat} {u : GrS} {m : List Nat} (h : BitsS g u.sts) (hat : at_ < u.sts.length) (hn : n < u.sts.length) (hm : BitsM g m) (hl : m.length ≤ (stAt u.sts n).mask.length) : BitsS g (growPut at_ sym u n m).sts := by
  intro s hs
  unfold growPut setMask at hs
  dsimp only at hs
  rcases List.mem_or_eq_of_mem_set hs with h1 | rfl
  · unfold setTo at h1
    rcases List.mem_or_eq_of_mem_set h1 with h2 | rfl
    · exact h s h2
    · exact h (stAt u.sts at_) (stAt_mem hat)
  · exact join_bits (h _ (stAt_mem hn)) hm hl
theorem growSym_bits {g : Gr} {out : List Nat} {at_ : Nat} (sym : Nat) {u : GrS} (ho : ∀ y ∈ out, y < 2 ^ 64) (hob : ∀ n a, (out.getD n 0).testBit a = true → (a : Int) ≤ g.T) (h : GsOk g u) (hb : BitsS g u.sts) (hat : at_ < u.sts.length) : BitsS g (growSym g out at_ u sym).sts := by
  have nx := nx_bits (g := g) hob sym
  refine growSym_cases (fun v => BitsS g v.sts) hb (fun _ => hb) (fun n _ hne hn hc => ?_) (fun _ hne hno h5 => ?_)
  · exact growPut_bits hb hat hn nx (by rw [(h.ok _ (stAt_mem hn)).1.l, hc, nx_len]; exact Nat.le_refl _)
  · refine growPut_bits (fun s hs => ?_) (by show at_ < (u.sts ++ [_]).length; rw [List.length_append]; omega) (by show _ < (u.sts ++ [_]).length; simp) nx ?_
    · rcases List.mem_append.1 hs with hs | hs
      · exact hb s hs
      · rw [List.mem_singleton.1 hs]; exact nx
    · show _ ≤ (stAt (u.sts ++ [_]) u.sts.length).mask.length
      unfold stAt
      rw [List.getD_eq_getElem?_getD]; simp
theorem ofStep_bits {g : Gr} {F : List Nat} (ok : GrOk g) (hF : ∀ x ∈ F, x < 2 ^ 64) (hFb : BitsF g F) {u : OfS} (h : OfOk g u) (hb : BitsS g u.sts) (hne : u.todo ≠ []) : BitsS g (ofStep g F u).sts := by
  obtain ⟨sts, todo, full⟩ := u
  cases todo with
  | nil => exact absurd rfl hne
  | cons a rest =>
    have hat : a < sts.length := h.t a List.mem_cons_self
    have h0 : GsOk g ⟨sts, [], false⟩ := ⟨h.ok, h.l, fun n hn => absurd hn (by simp)⟩
    have sa := (h.ok _ (stAt_mem (l := sts) hat)).1
    show BitsS g (growTo g F a sts g.S.toNat).sts
    have key : ∀ k, BitsS g (growTo g F a sts k).sts := by
      intro k
      induction k with
      | zero => exact hb
      | succ k ih =>
        rw [growTo_succ]
        obtain ⟨a1, _, a3⟩ := growTo_ok ok hF h0 hat k
        exact growSym_bits k (close_spec ok hF sa).2.1 (close_bits ok hF hFb sa (hb _ (stAt_mem (l := sts) hat))) a1 ih (by omega)
    exact key _
theorem first_bits {g : Gr} (h : GrFit g) : BitsF g (firstEnd g) := fun s h0 h1 t ht => by
  have := ((first_spec h).2.2 s h0 h1 t).1 ht
  have := this.lt
  have := h.ok.t0
  omega
theorem start0_bits {g : Gr} (ok : GrOk g) : BitsS g (start0 g).sts := by
  intro s hs
  have : s = ⟨[offS g g.ps.length], [2 ^ g.T.toNat], List.replicate g.S.toNat (-1)⟩ := List.mem_singleton.1 hs
  subst this
  intro y hy a ha
  rw [List.mem_singleton.1 hy, Nat.testBit_two_pow] at ha
  have := of_decide_eq_true ha
  have := ok.t0
  omega
theorem statesM_ok {g : Gr} (h : GrFit g) : OfOk g (statesM g) ∧ BitsS g (statesM g).sts := by
  have fs := first_spec h
  have := ofRun_ind h.ok fs.2.1 (fun u => BitsS g u.sts) (fun u hu hb _ hne => ofStep_bits h.ok fs.2.1 (first_bits h) hu hb hne) (ofMu g (start0 g)) (start0 g) (Nat.le_refl _) (start0_ok h.ok) (start0_bits h.ok)
  exact ⟨this.1, this.2.1⟩
theorem Begun.first {x : Mx} {w0 Wb : World} {gc gm gt b gL S : Nat} (h : Begun x w0) (hb : Below w0.heap.size w0 Wb) (bc : Blk Wb gc 3 #[.int .i64 (offS x.g x.g.ps.length : Nat)]) (bm : Blk Wb gm 86 #[.int .u64 (2 ^ x.g.T.toNat : Nat)]) (bt : Blk Wb gt 3 (ints .i64 (List.replicate S (-1))))
    (bs : Blk Wb b 89 #[.slice (some ⟨gc, 0, none⟩) 1 1, .slice (some ⟨gm, 0, none⟩) 1 1, .slice (some ⟨gt, 0, none⟩) S S]) (bL : Blk Wb gL 76 #[.pointer (some ⟨b, 0, none⟩)])
    (lc : w0.heap.size ≤ gc) (lm : w0.heap.size ≤ gm) (lt : w0.heap.size ≤ gt) (lb : w0.heap.size ≤ b) (lL : w0.heap.size ≤ gL) (hne : gt ≠ gc) (hS : S = x.g.S.toNat) :
    MkS x (Wb.setCell ⟨x.mB, 7, none⟩ (.slice (some ⟨gL, 0, none⟩) 1 1)) gL 1 [⟨b, gc, gm, gt⟩] (start0 x.g).sts := by
  have k := h.mkr.below hb
  have l0 := h.mkr.lm
  have c7 := cell_below h.c7 hb l0
  have ge : ∀ g, w0.heap.size ≤ g → Out x g := fun g hg => h.mkr.out hg
  have cM : ∀ i, i ≠ 7 → (Wb.setCell ⟨x.mB, 7, none⟩ (.slice (some ⟨gL, 0, none⟩) 1 1)).cell? ⟨x.mB, i, none⟩ = Wb.cell? ⟨x.mB, i, none⟩ := fun i hi => by
    rw [World.cell?_setCell_other (h := by intro e; injection e with _ e1; exact hi e1.symm)]
  have hSc : ∀ i, (Wb.setCell ⟨x.mB, 7, none⟩ (.slice (some ⟨gL, 0, none⟩) 1 1)).cell? ⟨x.gS, i, none⟩ = Wb.cell? ⟨x.gS, i, none⟩ := fun i => by
    rw [World.cell?_setCell_other (h := by intro e; injection e with e1 _; exact h.mS e1.symm)]
  have hsz : (Wb.setCell ⟨x.mB, 7, none⟩ (.slice (some ⟨gL, 0, none⟩) 1 1)).heap.size = Wb.heap.size := by simp [World.setCell]
  have far : ∀ {g : Nat} {t : TypeId} {cs : Array Value}, Blk Wb g t cs → w0.heap.size ≤ g → Blk (Wb.setCell ⟨x.mB, 7, none⟩ (.slice (some ⟨gL, 0, none⟩) 1 1)) g t cs := fun hg hl => hg.far (ge _ hl).m _
  refine ⟨⟨(cM 0 (by decide)).trans k.c0, (cM 1 (by decide)).trans k.c1, (cM 2 (by decide)).trans k.c2, (cM 3 (by decide)).trans k.c3, (cM 4 (by decide)).trans k.c4, (cM 5 (by decide)).trans k.c5, (cM 6 (by decide)).trans k.c6, k.rp.below ((Below.refl _ _).setCell h.lo _), k.f.far h.mF _, k.nm.far h.mN _, fun n p d e => ⟨(hSc _).trans (k.sp n p d e).1, (hSc _).trans (k.sp n p d e).2⟩, by rw [hsz]; exact k.lm, by rw [hsz]; exact k.ls, by rw [hsz]; exact k.l0⟩,
    ⟨rfl, fun i hi => ?_, fun i j hi hj hij => ?_, fun i j hi hj hij => ?_, fun i j hi hj => ?_⟩, World.cell?_setCell_same _ _ _ c7, ⟨rfl, .inr ⟨gL, 1, _, rfl, by have := h.mkr.l0; omega, far bL lL, Nat.le_refl _, by decide, rfl, rfl⟩⟩, fun q hq g hg => ?_, ge _ lL, h.lo, h.mF, h.mS, h.mN, by rw [World.frozen?_setCell, World.frozen?_of_block (hb.block _ l0)]; exact h.fz⟩
  · obtain rfl : i = 0 := by simpa using hi
    refine ⟨⟨1, 1, S, ?_, Nat.le_refl _, Nat.le_refl _, ?_⟩, ⟨_, far bc lc, fun i n hi => ?_⟩, ⟨_, far bm lm, fun i n hi => ?_⟩, ⟨_, far bt lt, fun i n hi => ?_⟩, rfl⟩
    · have e : (stAt (start0 x.g).sts 0).led.length = S := by rw [hS]; show (List.replicate _ _).length = _; rw [List.length_replicate]
      rw [e]
      exact far bs lb
    · show (List.replicate _ _).length ≤ _
      rw [List.length_replicate, hS]; exact Nat.le_refl _
    · rcases i with _ | i
      · have : n = offS x.g x.g.ps.length := by
          have hi' : some (offS x.g x.g.ps.length) = some n := hi
          exact (Option.some.inj hi').symm
        rw [this]; rfl
      · have hi' : (none : Option Nat) = some n := hi
        cases hi'
    · rcases i with _ | i
      · have : n = 2 ^ x.g.T.toNat := by
          have hi' : some (2 ^ x.g.T.toNat) = some n := hi
          exact (Option.some.inj hi').symm
        rw [this]; rfl
      · have hi' : (none : Option Nat) = some n := hi
        cases hi'
    · rw [hS]
      have hi' : (List.replicate x.g.S.toNat (-1 : Int))[i]? = some n := hi
      simp only [ints, List.getElem?_toArray, List.getElem?_map, hi', Option.map_some]
  · simp only [List.length_singleton] at hi hj; omega
  · simp only [List.length_singleton] at hi hj; omega
  · obtain rfl : i = 0 := by simpa using hi
    obtain rfl : j = 0 := by simpa using hj
    exact hne
  · rw [List.mem_singleton.1 hq] at hg
    rcases hg with rfl | rfl | rfl | rfl
    · exact ge _ lb
    · exact ge _ lc
    · exact ge _ lm
    · exact ge _ lt
theorem below_st {w W w9 : World} (h1 : Below w.heap.size w W) (h2 : Below W.heap.size W w9) : Below w.heap.size w w9 := below_step h1 h2 h1.size
theorem Begun.first2 {x : Mx} {w0 W1 : World} {gc gm gt b gL S : Nat} (h : Begun x w0) (hb : Below w0.heap.size w0 W1) (eb : b = W1.heap.size) (eL : gL = W1.heap.size + 1) (hS : S = x.g.S.toNat) (bc : Blk W1 gc 3 #[.int .i64 (offS x.g x.g.ps.length : Nat)]) (bm : Blk W1 gm 86 #[.int .u64 (2 ^ x.g.T.toNat : Nat)]) (bt : Blk W1 gt 3 (ints .i64 (List.replicate S (-1))))
    (lc : w0.heap.size ≤ gc) (lm : w0.heap.size ≤ gm) (lt : w0.heap.size ≤ gt) (hne : gt ≠ gc) :
    MkS x (((W1.alloc (.cells #[.slice (some ⟨gc, 0, none⟩) 1 1, .slice (some ⟨gm, 0, none⟩) 1 1, .slice (some ⟨gt, 0, none⟩) S S] 89)).alloc (.cells #[.pointer (some ⟨b, 0, none⟩)] 76)).setCell ⟨x.mB, 7, none⟩ (.slice (some ⟨gL, 0, none⟩) 1 1)) gL 1 [⟨b, gc, gm, gt⟩] (start0 x.g).sts := by
  have hs := hb.size
  subst eb
  subst eL
  exact h.first (below_alloc (below_alloc hb _) _) ((bc.alloc _).alloc _) ((bm.alloc _).alloc _) ((bt.alloc _).alloc _) ((Blk.new _ _ _).alloc _) (Blk.newAt (by simp)) lc lm lt hs (by omega) hne hS
theorem MkS.aside {x : Mx} {w w' : World} {gL cL : Nat} {qs : List Q4} {sts : List StD} {v : Value} (h : MkS x w gL cL qs sts) (hv : ∀ b, v.ownBlock = some b → Out x b ∧ (∀ q ∈ qs, b ≠ q.gt ∧ b ≠ q.gc) ∧ ∃ cs, Blk w b 3 cs) (hg : w.grownBy w' v.ownBlock) : MkS x w' gL cL qs sts := by
  have far : ∀ k, k < w.heap.size → v.ownBlock ≠ some k → w'.heap[k]? = w.heap[k]? := fun k h1 h2 => hg.block k h1 (Ne.symm h2)
  have low : Below x.B0 w w' := (Below.refl _ _).grown hg h.mkr.l0 (fun b hb => (hv b hb).1.lo)
  have mfar : ∀ b, b = x.mB ∨ b = x.gF ∨ b = x.gS ∨ b = x.nB → w'.heap[b]? = w.heap[b]? := fun b hb => by
    refine far b ?_ fun e => ?_
    · rcases hb with rfl | rfl | rfl | rfl
      · exact h.mkr.lm
      · exact h.mkr.f.lt
      · exact h.mkr.ls
      · exact h.mkr.nm.lt
    · have o := (hv b e).1
      rcases hb with rfl | rfl | rfl | rfl
      · exact o.m rfl
      · exact o.f rfl
      · exact o.s rfl
      · exact o.n rfl
  refine ⟨h.mkr.move hg.size low mfar, h.fam.move fun q hq k hk => ?_, ?_, h.lst.move fun b hb => ?_, h.out, h.oL, h.mLo, h.mF, h.mS, h.mN, (World.frozen?_of_block (mfar _ (.inl rfl))).trans h.fz⟩
  · obtain ⟨i, hi, rfl⟩ := List.getElem_of_mem hq
    have st := h.fam.sta i hi
    obtain ⟨l1, l2, l3, l4⟩ := st.lt
    obtain ⟨⟨_, _, _, b1, _⟩, _, ⟨_, b3, _⟩, _, _⟩ := st
    refine far k (by rcases hk with rfl | rfl | rfl | rfl <;> assumption) fun e => ?_
    obtain ⟨_, o2, cs, hc⟩ := hv k e
    rcases hk with rfl | rfl | rfl | rfl
    · exact b1.ne_of_type hc (by decide) rfl
    · exact (o2 _ hq).2 rfl
    · exact b3.ne_of_type hc (by decide) rfl
    · exact (o2 _ hq).1 rfl
  · rw [← h.c7]
    unfold World.cell?
    rw [mfar _ (.inl rfl)]
  · obtain ⟨_, l, c, hc⟩ := h.lst.block b hb
    refine far _ l fun e => ?_
    obtain ⟨_, _, cs, hc2⟩ := hv b e
    exact hc.ne_of_type hc2 (by decide) rfl
theorem wpl_append_q2 {ops : Array Oper} {rest : List Oper} {o : Oper} {a : Act} {Q : Exit → Act → World → Prop} (w : World) (hgd : o.guard = none) (s y : Operand)
    (ho : o.op = .call { callee := .builtin .append, args := #[s, y], argTypes := #[44, 44] })
    (B : Nat) (v : Value) (xs : List Int) (hs : a.eval s = v) (hown : QI w B v xs) (A : Option Addr) (n c : Nat) (ys : List Int) (hn : n = ys.length) (hx : a.eval y = .slice A n c)
    (hr : Rd eI 1 w w.heap.size A ys) (hl : xs.length + ys.length < 8796093022208) (hbase : B ≤ w.heap.size)
    (h : ∀ v' w', QI w' B v' (xs ++ ys) → w.grownBy w' v.ownBlock → (v'.ownBlock = v.ownBlock ∨ ∃ b, v'.ownBlock = some b ∧ w.heap.size ≤ b) → wpList Tryd.prog ops Q rest (a.put o.dst v') w') : wpList Tryd.prog ops Q (o :: rest) a w := by
  subst hn
  obtain ⟨i0, hi0, hz0, hz1, hz2⟩ := info_parts info_int
  by_cases hy : ys.length = 0
  · have hy' : ys = [] := List.eq_nil_of_length_eq_zero hy
    subst hy'
    obtain ⟨A1, c1, e1, l1⟩ := hown.slice
    refine wpList_plain hgd fun K hK => ?_
    have hrun := run_append_zero (P := Tryd.prog) (w := w) 44 o.type 3 i0 Tryd.underlying44 hi0 A1 A xs.length c1 c l1
    rw [e1] at hs hown
    unfold Oper.wp execOp
    simp only [List.length_nil] at hx
    simp only [ho, resolve, invoke, builtin, Sem.run_bind, Sem.run_pure, Result.andThen_ok, List.map_toArray, List.map_cons, List.map_nil, hs, hx, hrun]
    exact hK _ _ (h _ w (by rw [List.append_nil]; exact hown) ⟨rfl, rfl, rfl, Nat.le_refl _, fun _ _ _ => rfl⟩ (by rw [e1]; exact .inl rfl))
  · obtain ⟨ad, e0, _⟩ := hr 0 (by omega)
    subst e0
    obtain ⟨v', w', hrun, hq, hg, hat⟩ := q_append (P := Tryd.prog) w B 44 o.type 3 i0 (.int .i64 0) 1 8 Tryd.underlying44 hi0 hz0 hz1 hz2 rfl (by decide) v xs.length (xs.map (Value.int .i64)) hown ad ys.length c (ys.map (Value.int .i64)) (by simp)
      (fun j u hu => by
        have hj : j < ys.length := by have := (List.getElem?_eq_some_iff.1 hu).1; simpa using this
        obtain ⟨ad', e, _, hc⟩ := hr.int j hj
        injection e with e
        subst e
        rw [hc, ← hu]
        simp [hj]) (fun u hu => by obtain ⟨z, _, rfl⟩ := List.mem_map.1 hu; rfl) (by omega) (by simp only [maxLen]; omega) (by omega) hbase
    refine wpList_plain hgd fun K hK => ?_
    unfold Oper.wp execOp
    simp only [ho, resolve, invoke, builtin, Sem.run_bind, Sem.run_pure, Result.andThen_ok, List.map_toArray, List.map_cons, List.map_nil, hs, hx, hrun]
    refine hK _ _ (h v' w' ?_ hg hat)
    unfold QI
    rw [List.map_append, List.length_append]
    exact hq
theorem ofRun_more {g : Gr} {F : List Nat} (ok : GrOk g) (hF : ∀ x ∈ F, x < 2 ^ 64) : ∀ (k : Nat) (u : OfS), ofMu g u ≤ k → OfOk g u → ofRun g F (k + 1) u = ofRun g F k u := by
  intro k
  induction k with
  | zero =>
    intro u hm hu
    have e : u.todo = [] := by unfold ofMu at hm; exact List.length_eq_zero_iff.1 (by omega)
    rw [ofRun_done (.inr e), ofRun_done (.inr e)]
  | succ k ih =>
    intro u hm hu
    by_cases hc : u.full = true ∨ u.todo = []
    · rw [ofRun_done hc, ofRun_done hc]
    · have h1 : u.full = false := by cases e : u.full <;> simp_all
      have h2 : u.todo ≠ [] := fun e => hc (.inr e)
      rw [ofRun_go h1 h2, ofRun_go h1 h2]
      obtain ⟨a, b, _⟩ := ofStep_ok ok hF hu h2
      exact ih _ (by omega) a
theorem start_mu {x : Mx} (hx : MxOk x) : ofMu x.g (start0 x.g) ≤ 100000000 := by
  have h1 := nSp_le hx
  have e : ofMu x.g (start0 x.g) = 2 * ((512 - 1) * (64 * nSp x.g + 1) + lacks (start0 x.g).sts) + 1 := rfl
  have h2 : lacks (start0 x.g).sts ≤ 64 := by
    show lack [2 ^ x.g.T.toNat] + 0 ≤ 64
    have := lack_le [2 ^ x.g.T.toNat]
    simp only [List.length_singleton] at this
    omega
  rw [e]
  omega
structure OfL (x : Mx) (w0 wr : World) (gL cL : Nat) (qs : List Q4) (u : OfS) (v : Value) : Prop where
  ms : MkS x wr gL cL qs u.sts
  ok : OfOk x.g u
  q : QI wr x.B0 v (ints_ u.todo)
  td : ∀ b, v.ownBlock = some b → Out x b ∧ ∀ q ∈ qs, b ≠ q.gt ∧ b ≠ q.gc
  low : Below x.B0 w0 wr
theorem OfL.start {x : Mx} {w0 wc : World} {gL : Nat} {q : Q4} (ok : GrOk x.g) (h : MkS x wc gL 1 [q] (start0 x.g).sts) (hb : Below x.B0 w0 wc) : OfL x w0 (wc.alloc (.cells #[.int .i64 0] 3)) gL 1 [q] (start0 x.g) (.slice (some ⟨wc.heap.size, 0, none⟩) 1 1) := by
  have hb2 : Below wc.heap.size wc (wc.alloc (.cells #[.int .i64 0] 3)) := (Below.refl _ _).alloc (Nat.le_refl _) _
  refine ⟨h.keep hb2, start0_ok ok, QI.of_own ⟨rfl, .inr ⟨_, 1, _, rfl, h.mkr.l0, Blk.new wc 3 _, Nat.le_refl _, by decide, rfl, rfl⟩⟩, fun b hbk => ?_, hb.trans (hb2.mono h.mkr.l0)⟩
  have e : wc.heap.size = b := Option.some.inj hbk
  subst e
  refine ⟨h.mkr.out (Nat.le_refl _), fun q' hq' => ?_⟩
  obtain ⟨i, hi, rfl⟩ := List.getElem_of_mem hq'
  obtain ⟨l1, l2, l3, l4⟩ := (h.fam.sta i hi).lt
  exact ⟨by omega, by omega⟩
structure TG (w W : World) (gB : Nat) (cs : Array Value) (vP vA vG : Value) (ps : List Pr) (al : List (List Ac)) (gs : List (List Int)) : Prop where
  b : Blk W gB 30 cs
  pr : kPr.R 49 W w.heap.size (fun _ => True) vP ps
  ac : kRow.R 37 W w.heap.size (fun _ => True) vA al
  go : kInts.R 44 W w.heap.size (fun _ => True) vG gs
theorem TG.set {w W : World} {gB : Nat} {cs : Array Value} {vP vA vG : Value} {ps : List Pr} {al : List (List Ac)} {gs : List (List Int)} (h : TG w W gB cs vP vA vG ps al gs) (i : Nat) (u : Value) : TG w (W.setCell ⟨gB, i, none⟩ u) gB (cs.setIfInBounds i u) vP vA vG ps al gs :=
  ⟨h.b.set_ i u, Kd.R_set h.pr h.b (types_ne (by decide)) i u, Kd.R_set h.ac h.b (types_ne (by decide)) i u, Kd.R_set h.go h.b (types_ne (by decide)) i u⟩
def ofZero : Value := .agg #[.int .i64 0, .int .i64 0, .int .i64 0, .slice none 0 0, .slice none 0 0, .slice none 0 0]
def OfPost (g : Gr) (w : World) (e : Ending) (w' : World) : Prop := Below w.heap.size w w' ∧
  ((checkI g ≠ 0 ∧ e = .returned (.tuple #[ofZero, .int .i64 (checkI g)])) ∨ (checkI g = 0 ∧ (statesM g).full = true ∧ e = .returned (.tuple #[ofZero, .int .i64 3])) ∨
   (checkI g = 0 ∧ (statesM g).full = false ∧ ∃ vP vA vG, e = .returned (.tuple #[.agg #[.int .i64 g.T, .int .i64 g.S, .int .i64 g.st, vP, vA, vG], .int .i64 0]) ∧ kPr.R 49 w' w.heap.size (fun _ => True) vP g.ps ∧
     kRow.R 37 w' w.heap.size (fun _ => True) vA ((statesM g).sts.map (actsM g (firstEnd g))) ∧ kInts.R 44 w' w.heap.size (fun _ => True) vG ((statesM g).sts.map StD.led)))
structure OW (g : Gr) (A : Option Addr) (c : Nat) (w wr : World) : Prop where
  bw : Below w.heap.size w wr
  bg : Blk wr w.heap.size 24 #[.int .i64 g.T, .int .i64 g.S, .int .i64 g.st, .slice A g.ps.length c]
  rs : Blk wr (w.heap.size + 1) 30 #[.int .i64 0, .int .i64 0, .int .i64 0, .slice none 0 0, .slice none 0 0, .slice none 0 0]
theorem OW.below {g : Gr} {A : Option Addr} {c : Nat} {w wr w' : World} (h : OW g A c w wr) (hb : Below wr.heap.size wr w') : OW g A c w w' := ⟨below_step h.bw hb h.bw.size, h.bg.below hb h.bg.lt, h.rs.below hb h.rs.lt⟩
theorem OW.low {g : Gr} {A : Option Addr} {c : Nat} {w wr w' : World} {B : Nat} (h : OW g A c w wr) (hb : Below B wr w') (hB : w.heap.size + 2 ≤ B) : OW g A c w w' := ⟨h.bw.trans (hb.mono (by omega)), (hb.block _ (by omega)).trans h.bg, (hb.block _ (by omega)).trans h.rs⟩
theorem OW.there {g : Gr} {A : Option Addr} {c : Nat} {w wr : World} (h : OW g A c w wr) : wr.there (w.heap.size + 1) 0 6 := fun j hj => by
  rw [Nat.zero_add, h.rs.cell j, h.rs.frozen j]
  refine ⟨?_, rfl⟩
  rcases j with _ | _ | _ | _ | _ | _ | j <;> first | rfl | omega
theorem OW.ret {g : Gr} {A : Option Addr} {c : Nat} {w wr : World} (h : OW g A c w wr) (u0 u1 u2 u3 u4 u5 : Value) : Blk (wr.setCells (w.heap.size + 1) 0 [u0, u1, u2, u3, u4, u5]) (w.heap.size + 1) 30 #[u0, u1, u2, u3, u4, u5] ∧ Below w.heap.size w (wr.setCells (w.heap.size + 1) 0 [u0, u1, u2, u3, u4, u5]) := by
  have l : w.heap.size ≤ w.heap.size + 1 := Nat.le_succ _
  exact ⟨((((((h.rs.set_ 0 u0).set_ 1 u1).set_ 2 u2).set_ 3 u3).set_ 4 u4).set_ 5 u5), (((((h.bw.setCell l u0).setCell l u1).setCell l u2).setCell l u3).setCell l u4).setCell l u5⟩
set_option maxHeartbeats 8000000 in
theorem of_tab (g : Gr) (A : Option Addr) (c : Nat) (w : World) (h : GrIn w g A c) (hL : Laid w) : Calls Tryd.prog 12 #[grV g A c] w (OfPost g w) := by
  have H0 := Keep.mk h
  have HL := Keep.mk hL
  have KCh : Keep (∀ W, Below w.heap.size w W → Calls Tryd.prog 32 #[grV g A c] W fun e w' => e = .returned (.int .i64 (checkI g)) ∧ Below W.heap.size W w') := ⟨fun W hW => check_any g A c W (H0.out.below hW)⟩
  have KBe : Keep (checkI g = 0 → ∀ W, Below w.heap.size w W → Calls Tryd.prog 33 #[grV g A c] W fun e w' => ∃ mB gF nB gS cs, e = .returned (.pointer (some ⟨mB, 0, none⟩)) ∧ Begun ⟨g, A, c, firstEnd g, mB, gF, nB, gS, cs, W.heap.size⟩ w' ∧ Below W.heap.size W w') := ⟨fun h0 W hW =>
    begun_tab g A c W (H0.out.below hW).r (GrIn.ok h0) H0.out.l (checkI_zero h0).2.1⟩
  clear h hL
  unfold grV at *
  go_enter Tryd.func12, Tryd.ntmps12
  go_upto_region 1 with fail
  obtain ⟨wb, hwb⟩ : ∃ W : World, W = (w.alloc (.cells #[.int .i64 g.T, .int .i64 g.S, .int .i64 g.st, .slice A g.ps.length c] 24)).alloc (.cells #[.int .i64 0, .int .i64 0, .int .i64 0, .slice none 0 0, .slice none 0 0, .slice none 0 0] 30) := ⟨_, rfl⟩
  have O0 : Keep (OW g A c w wb) := ⟨by
    rw [hwb]
    exact ⟨((Below.refl _ _).alloc (Nat.le_refl _) _).alloc (by simp) _, (Blk.new _ _ _).alloc _, Blk.newAt (by simp)⟩⟩
  rw [← hwb]
  clear hwb
  have g0 := O0.out.bg.cell 0
  have g1 := O0.out.bg.cell 1
  have g2 := O0.out.bg.cell 2
  have g3 := O0.out.bg.cell 3
  simp at g0 g1 g2 g3
  go_wp2_with fail
  refine (KCh.out _ O0.out.bw).mono ?_
  rintro e w1 ⟨rfl, hb⟩
  have O1 := Keep.mk (O0.out.below hb)
  clear O0 hb g0 g1 g2 g3 KCh
  obtain ⟨C, hC⟩ : ∃ C, C = checkI g := ⟨_, rfl⟩
  rw [← hC] at KBe ⊢
  have HC := Keep.mk hC
  clear hC
  by_cases h0 : C = 0
  rotate_left
  · have t1 : (C != 0) = true := by simp [h0]
    have TH := Keep.mk O1.out.there
    have RT := Keep.mk (O1.out.ret (.int .i64 0) (.int .i64 0) (.int .i64 0) (.slice none 0 0) (.slice none 0 0) (.slice none 0 0))
    have FIN : Keep (checkI g ≠ 0 ∧ C = checkI g) := ⟨by rw [← HC.out]; exact ⟨h0, rfl⟩⟩
    clear KBe h0 HC O1
    go_upto_region 3 with fail
    go_step
    iterate 2 (go_step; go_simp; go_step)
    refine wpList_store_mid rfl _ _ _ rfl (w.heap.size + 1) 0 #[.int .i64 0, .int .i64 0, .int .i64 0, .slice none 0 0, .slice none 0 0, .slice none 0 0] rfl rfl TH.out (by kernel_rfl) (by simp [Value.oneCell']) ?_
    go_wp2
    refine bodyPost_ret (results_list (rs := [.cell 2 30, .tmp 3]) rfl (by simp) (.cell (w.heap.size + 1) 30 _ (0, 0) _ rfl RT.out.1 Tryd.underlying30 rfl (by kernel_rfl) (.tmp .nil))) rfl ?_
    exact ⟨RT.out.2, .inl ⟨FIN.out.1, by rw [← FIN.out.2]; rfl⟩⟩
  · subst h0
    have hck := HC.out.symm
    have HCK := Keep.mk hck
    have GF := Keep.mk (GrFit.of hck)
    have KBe1 := Keep.mk (KBe.out rfl w1 O1.out.bw)
    have lw : w.heap.size + 2 ≤ w1.heap.size := by have := O1.out.rs.lt; omega
    clear hck HC KBe
    have g0 := O1.out.bg.cell 0
    have g1 := O1.out.bg.cell 1
    have g2 := O1.out.bg.cell 2
    have g3 := O1.out.bg.cell 3
    simp at g0 g1 g2 g3
    dsimp only
    go_wp2_with fail
    refine KBe1.out.mono ?_
    rintro e w2 ⟨mB, gF, nB, gS, cs, rfl, hBe, hb⟩
    have O2 := Keep.mk (O1.out.below hb)
    have B12 := Keep.mk hb
    clear O1 hb KBe1 g0 g1 g2 g3
    obtain ⟨x, hx⟩ : ∃ x : Mx, x = ⟨g, A, c, firstEnd g, mB, gF, nB, gS, cs, w1.heap.size⟩ := ⟨_, rfl⟩
    rw [← hx] at hBe
    have e1 : x.g = g := by rw [hx]
    have e2 : x.F = firstEnd g := by rw [hx]
    have e3 : x.mB = mB := by rw [hx]
    have e4 : x.B0 = w1.heap.size := by rw [hx]
    clear hx
    subst e1
    subst e3
    have HF := Keep.mk e2
    have HB0 := Keep.mk e4
    have BE := Keep.mk hBe
    clear e2 e4 hBe gF nB gS cs
    obtain ⟨tN, hT⟩ : ∃ tN : Nat, x.g.T = (tN : Int) := Int.eq_ofNat_of_zero_le (by have := GF.out.ok.t0; omega)
    obtain ⟨sN, hS⟩ : ∃ sN : Nat, x.g.S = (sN : Int) := Int.eq_ofNat_of_zero_le (by have := GF.out.ok.s0; have := GF.out.ok.t0; omega)
    have hT1 : tN ≤ 32 := by have := GF.out.ok.t1; omega
    have hS1 : sN ≤ 64 := by have := GF.out.ok.s1; omega
    have hS0 : 0 < sN := by have := GF.out.ok.s0; have := GF.out.ok.t0; omega
    have g0 := O2.out.bg.cell 0
    have g1 := O2.out.bg.cell 1
    have g3 := O2.out.bg.cell 3
    simp at g0 g1 g3
    rw [hT] at g0
    rw [hS] at g1
    have HTN := Keep.mk hT
    have HSN := Keep.mk hS
    have q5 := BE.out.mkr.c5
    have c7 := BE.out.c7
    have z7 := BE.out.fz
    obtain ⟨N, hN⟩ : ∃ N, N = x.g.ps.length := ⟨_, rfl⟩
    have hN64 : N ≤ 64 := by have := GF.out.ok.n1; omega
    have LK : ∀ W, MapI spotE 3 (spots x.g) W x.nB (numOf x.g) → (Instr.lookup 78 (.map (some x.nB)) (.agg #[.int .i64 (N : Nat), .int .i64 0]) false).run Tryd.prog W = .ok (.int .i64 (offS x.g N : Nat)) W := fun W hW => by
      have := hW.look spot_law Tryd.underlying78 Tryd.underlying3 (zero_int _) (N, 0) ⟨i64_small (by simp <;> omega) (by simp <;> omega), i64_small (by simp) (by simp)⟩
      simp only [spotE, spV] at this
      have e : (((0 : Nat) : Int)) = 0 := rfl
      rw [e] at this
      rw [this]
      unfold numOf
      rw [if_pos ⟨by rw [hN]; exact Nat.le_refl _, Nat.zero_le _⟩]
      rfl
    rw [← hN] at g3
    have HN := Keep.mk hN
    obtain ⟨oN, hoN⟩ : ∃ o, o = offS x.g N := ⟨_, rfl⟩
    rw [← hoN] at LK
    have HON := Keep.mk hoN
    have gb2 : w.heap.size < w2.heap.size := O2.out.bg.lt
    have nbm : w.heap.size ≠ x.mB := by have := BE.out.lo; have := HB0.out; omega
    have lm2 := BE.out.mkr.lm
    obtain ⟨v7, hv7⟩ : ∃ f : World → Value, ∀ W, f W = (W.cell? ⟨x.mB, 7, none⟩).getD undef := ⟨_, fun _ => rfl⟩
    have HT : Keep (∀ W : World, Below w2.heap.size w2 W → W.cell? ⟨x.mB, 5, none⟩ = some (.map (some x.nB)) ∧ W.cell? ⟨w.heap.size, 0, none⟩ = some (.int .i64 (tN : Nat)) ∧ W.cell? ⟨w.heap.size, 1, none⟩ = some (.int .i64 (sN : Nat)) ∧ W.cell? ⟨w.heap.size, 3, none⟩ = some (.slice A N c) ∧ (Instr.lookup 78 (.map (some x.nB)) (.agg #[.int .i64 (N : Nat), .int .i64 0]) false).run Tryd.prog W = .ok (.int .i64 (oN : Nat)) W ∧ W.cell? ⟨x.mB, 7, none⟩ = some (v7 W) ∧ W.frozen? ⟨x.mB, 7, none⟩ = false) := ⟨fun W hW =>
      ⟨cell_below q5 hW lm2, cell_below g0 hW gb2, cell_below g1 hW gb2, cell_below g3 hW gb2, LK W (BE.out.mkr.below hW).nm, by rw [hv7, cell_below c7 hW lm2]; rfl, (World.frozen?_of_block (hW.block _ lm2)).trans z7⟩⟩
    have HT7 : Keep (∀ W : World, Below w2.heap.size w2 W → ∀ v, (W.setCell ⟨x.mB, 7, none⟩ v).cell? ⟨x.mB, 5, none⟩ = some (.map (some x.nB)) ∧ (W.setCell ⟨x.mB, 7, none⟩ v).cell? ⟨w.heap.size, 0, none⟩ = some (.int .i64 (tN : Nat)) ∧ (W.setCell ⟨x.mB, 7, none⟩ v).cell? ⟨w.heap.size, 1, none⟩ = some (.int .i64 (sN : Nat)) ∧ (W.setCell ⟨x.mB, 7, none⟩ v).cell? ⟨w.heap.size, 3, none⟩ = some (.slice A N c) ∧ (Instr.lookup 78 (.map (some x.nB)) (.agg #[.int .i64 (N : Nat), .int .i64 0]) false).run Tryd.prog (W.setCell ⟨x.mB, 7, none⟩ v) = .ok (.int .i64 (oN : Nat)) (W.setCell ⟨x.mB, 7, none⟩ v) ∧ (W.setCell ⟨x.mB, 7, none⟩ v).cell? ⟨x.mB, 7, none⟩ = some (v7 (W.setCell ⟨x.mB, 7, none⟩ v)) ∧ (W.setCell ⟨x.mB, 7, none⟩ v).frozen? ⟨x.mB, 7, none⟩ = false) := ⟨fun W hW v => by
      obtain ⟨a1, a2, a3, a4, _, a6, a7⟩ := HT.out W hW
      refine ⟨(World.cell?_setCell_other _ _ _ _ (by intro e; injection e with _ e1; cases e1)).trans a1, (World.cell?_setCell_far _ _ _ _ (Ne.symm nbm)).trans a2, (World.cell?_setCell_far _ _ _ _ (Ne.symm nbm)).trans a3, (World.cell?_setCell_far _ _ _ _ (Ne.symm nbm)).trans a4, LK _ ((BE.out.mkr.below hW).nm.far BE.out.mN v), by rw [hv7, World.cell?_setCell_same _ _ _ a6]; rfl, by rw [World.frozen?_setCell]; exact a7⟩⟩
    have KNW : Keep (∀ W : World, Calls Tryd.prog 34 #[.int .i64 (sN : Nat)] W fun e w' => ∃ g, e = .returned (.slice (some ⟨g, 0, none⟩) sN sN) ∧ Blk w' g 3 (ints .i64 (List.replicate sN (-1))) ∧ W.heap.size ≤ g ∧ Below W.heap.size W w') := ⟨fun W => nowhere_ sN hS0 (by omega) W⟩
    clear q5 c7 z7 g0 g1 g3 LK hT hS hN hoN hv7
    go_upto_region 5 with fail
    go_cut [17] (fun s17 wx => s17 = .pointer (some ⟨x.mB, 0, none⟩) ∧ ∃ gL q, Keep (MkS x wx gL 1 [q] (start0 x.g).sts) ∧ Keep (Below x.B0 w2 wx))
    case first =>
      go_region_held3 (fun W => W.cell? ⟨x.mB, 5, none⟩ = some (.map (some x.nB)) ∧ W.cell? ⟨w.heap.size, 0, none⟩ = some (.int .i64 (tN : Nat)) ∧ W.cell? ⟨w.heap.size, 1, none⟩ = some (.int .i64 (sN : Nat)) ∧ W.cell? ⟨w.heap.size, 3, none⟩ = some (.slice A N c) ∧ (Instr.lookup 78 (.map (some x.nB)) (.agg #[.int .i64 (N : Nat), .int .i64 0]) false).run Tryd.prog W = .ok (.int .i64 (oN : Nat)) W ∧ W.cell? ⟨x.mB, 7, none⟩ = some (v7 W) ∧ W.frozen? ⟨x.mB, 7, none⟩ = false)
        (first | (refine HT7.out _ ?_ _; · (repeat (first | exact Z9.out | exact Below.refl _ _ | apply below_alloc | apply below_drew1))) | (refine HT.out _ ?_; · (repeat (first | exact Z9.out | exact Below.refl _ _ | apply below_alloc | apply below_drew1)))) (first
        | (go_at_call 34; refine (KNW.out _).mono ?_; rintro e w9 ⟨gt, rfl, hbt, hlt9, hb9⟩; have Z9 : Keep (Below w2.heap.size w2 w9) := ⟨below_st (by (repeat (first | exact Below.refl _ _ | apply below_alloc | apply below_drew1))) hb9⟩; have HBT := Keep.mk hbt; have HLT9 := Keep.mk hlt9; have HB9 := Keep.mk hb9; clear hbt hlt9 hb9))
      all_goals (
        have e2T : IntKind.u64.wrap ((2 : Int) ^ tN) = ((2 ^ x.g.T.toNat : Nat) : Int) := by rw [HTN.out, Int.toNat_natCast]; exact wrap_pow tN (by omega)
        rw [e2T]
        have eO : oN = offS x.g x.g.ps.length := by rw [HON.out, HN.out]
        have l9 := Z9.out.size
        have lt9 := HLT9.out
        have ltg := HBT.out.lt
        have lb9 := HB9.out.size
        simp only [World.size_alloc, World.size_drew] at l9 lt9 lb9
        go_wp2_with fail
        go_meet
        refine ⟨rfl, _, _, ⟨Begun.first2 BE.out ?_ ?_ ?_ (by rw [HSN.out]; exact (Int.toNat_natCast _).symm) ?_ ?_ ?_ ?_ ?_ ?_ ?_⟩, ⟨?_⟩⟩
        · (repeat (first | exact Z9.out | apply below_alloc))
        · first | rfl | simp
        · first | rfl | simp
        · rw [← eO]
          (repeat (first | (refine Blk.newAt ?_; · (first | rfl | (simp; done))) | exact HBT.out | (refine Blk.alloc ?_ _) | (refine Blk.below ?_ HB9.out ?_; rotate_left; · (simp only [World.size_alloc, World.size_drew]; omega))))
        · rw [← e2T]
          (repeat (first | (refine Blk.newAt ?_; · (first | rfl | (simp; done))) | exact HBT.out | (refine Blk.alloc ?_ _) | (refine Blk.below ?_ HB9.out ?_; rotate_left; · (simp only [World.size_alloc, World.size_drew]; omega))))
        · (repeat (first | (refine Blk.newAt ?_; · (first | rfl | (simp; done))) | exact HBT.out | (refine Blk.alloc ?_ _) | (refine Blk.below ?_ HB9.out ?_; rotate_left; · (simp only [World.size_alloc, World.size_drew]; omega))))
        · omega
        · omega
        · omega
        · omega
        · refine Below.setCell ?_ BE.out.lo _
          refine Below.mono (B := w2.heap.size) ?_ BE.out.mkr.l0
          (repeat (first | exact Z9.out | apply below_alloc)))
    case rest =>
      obtain ⟨rfl, gL, q, MS, BX⟩ := hcut
      clear HT HT7 KNW gb2 nbm lm2 HN HON HTN HSN hN64 hT1 hS1 hS0 v7 oN N sN tN
      have hF64 : ∀ y ∈ x.F, y < 2 ^ 64 := by rw [HF.out]; exact (first_spec GF.out).2.1
      have HF64 := Keep.mk hF64
      have L0 := Keep.mk (OfL.start GF.out.ok MS.out BX.out)
      have R0 : Keep (ofRun x.g x.F (ofMu x.g (start0 x.g)) (start0 x.g) = statesM x.g) := ⟨by rw [HF.out]; rfl⟩
      have S0 := Keep.mk (start0_bits GF.out.ok)
      have XOK := Keep.mk BE.out.ok
      have HLB : Keep (w.heap.size + 2 ≤ x.B0) := ⟨by rw [HB0.out]; exact lw⟩
      have KO : Keep (∀ W, Below x.B0 w2 W → OW x.g A c w W) := ⟨fun W hW => O2.out.low hW HLB.out⟩
      have KL : Keep (∀ W, Below x.B0 w2 W → Laid W) := ⟨fun W hW => HL.out.below (KO.out W hW).bw⟩
      have M0 : Keep (∀ k, ofMu x.g (start0 x.g) ≤ k → ofRun x.g x.F k (start0 x.g) = statesM x.g) := ⟨fun k hk => by
        obtain ⟨d, rfl⟩ : ∃ d, k = ofMu x.g (start0 x.g) + d := ⟨k - ofMu x.g (start0 x.g), by omega⟩
        induction d with
        | zero => exact R0.out
        | succ d ih =>
          rw [← Nat.add_assoc, ofRun_more GF.out.ok HF64.out _ _ (by omega) (start0_ok GF.out.ok)]
          exact ih (by omega)⟩
      obtain ⟨MU, hMU⟩ : ∃ m, m = ofMu x.g (start0 x.g) := ⟨_, rfl⟩
      have HMU := Keep.mk hMU
      have R1 : Keep (ofRun x.g x.F MU (start0 x.g) = statesM x.g) := ⟨by rw [hMU]; exact R0.out⟩
      have M1 : Keep (ofMu x.g (start0 x.g) ≤ MU) := ⟨by rw [hMU]; exact Nat.le_refl _⟩
      have F0 : Keep ((start0 x.g).full = false) := ⟨rfl⟩
      have MB0 : Keep (ofMu x.g (start0 x.g) ≤ 100000000) := ⟨start_mu XOK.out⟩
      clear MS BX R0 M0 hMU O2 B12 HL hF64 lw HMU BE
      go_wp2
      go_loopg [6] MU (fun gg s6 wr => ∃ u gL cL qs, Keep (ofMu x.g u ≤ gg) ∧ Keep (OfL x w2 wr gL cL qs u s6) ∧ Keep (u.full = false) ∧ Keep (ofRun x.g x.F gg u = statesM x.g) ∧ Keep (BitsS x.g u.sts) ∧ Keep (ofMu x.g u ≤ 100000000))
      case atStart => exact ⟨start0 x.g, gL, 1, [q], M1, L0, F0, R1, S0, MB0⟩
      case round =>
        clear L0 R1 S0 M1 F0 MB0
        obtain ⟨u, gL, cL, qs, MU1, I, FU, RU, BU, MB⟩ := hrel
        obtain ⟨sts, todo, full⟩ := u
        obtain ⟨A6, c6, e6, l6⟩ := I.out.q.slice
        rw [ints_len] at e6 l6
        (try dsimp only at e6 l6)
        subst e6
        have FU2 : full = false := FU.out
        subst FU2
        cases todo with
        | nil =>
          have HE : Keep (statesM x.g = ⟨sts, [], false⟩) := ⟨by rw [← RU.out]; exact ofRun_done (.inr rfl) _⟩
          have OWr := Keep.mk (KO.out wr I.out.low)
          have KT : Keep (Calls Tryd.prog 36 #[.pointer (some ⟨x.mB, 0, none⟩)] wr fun e w' => ∃ vP vA vG, e = .returned (.agg #[.int .i64 x.g.T, .int .i64 x.g.S, .int .i64 x.g.st, vP, vA, vG]) ∧ kPr.R 49 w' wr.heap.size (fun _ => True) vP x.g.ps ∧ kRow.R 37 w' wr.heap.size (fun _ => True) vA (sts.map (actsM x.g x.F)) ∧ kInts.R 44 w' wr.heap.size (fun _ => True) vG (sts.map StD.led) ∧ Below wr.heap.size wr w') := ⟨
            table_tab x XOK.out gL cL qs sts wr I.out.ms I.out.ok.ok (KL.out wr I.out.low) I.out.ok.l (fun s hs n a ha => close_bits GF.out.ok HF64.out (by rw [HF.out]; exact first_bits GF.out) (I.out.ok.ok s hs).1 (BU.out s hs) n a ha)⟩
          clear I RU BU MU1 FU
          have lz : ¬ ((0 : Int) > 0) := by omega
          go_upto_region 12 with fail
          go_wp2_with fail
          refine KT.out.mono ?_
          rintro e w5 ⟨vP, vA, vG, rfl, hP, hA, hG, hb⟩
          obtain ⟨AP, kP, eP⟩ := Kd.R_slice hP
          obtain ⟨AA, kA, eA⟩ := Kd.R_slice hA
          obtain ⟨AG, kG, eG⟩ := Kd.R_slice hG
          subst eP eA eG
          have OW5 := OWr.out.below hb
          have TH := Keep.mk OW5.there
          have RT := Keep.mk (OW5.ret (.int .i64 x.g.T) (.int .i64 x.g.S) (.int .i64 x.g.st) (.slice AP x.g.ps.length kP) (.slice AA (sts.map (actsM x.g x.F)).length kA) (.slice AG (sts.map StD.led).length kG))
          have hle := OWr.out.bw.size
          have TGF : Keep (TG w w5 (w.heap.size + 1) #[.int .i64 0, .int .i64 0, .int .i64 0, .slice none 0 0, .slice none 0 0, .slice none 0 0] (.slice AP x.g.ps.length kP) (.slice AA (sts.map (actsM x.g x.F)).length kA) (.slice AG (sts.map StD.led).length kG) x.g.ps (sts.map (actsM x.g x.F)) (sts.map StD.led)) := ⟨⟨OW5.rs, Kd.R_lower hP hle, Kd.R_lower hA hle, Kd.R_lower hG hle⟩⟩
          have ONE : Keep ((#[.int .i64 x.g.T, .int .i64 x.g.S, .int .i64 x.g.st, .slice AP x.g.ps.length kP, .slice AA (sts.map (actsM x.g x.F)).length kA, .slice AG (sts.map StD.led).length kG] : Array Value).all (·.oneCell') = true) := ⟨by simp [Value.oneCell']⟩
          have HEM : Keep ((statesM x.g).full = false ∧ (statesM x.g).sts.map (actsM x.g (firstEnd x.g)) = sts.map (actsM x.g x.F) ∧ (statesM x.g).sts.map StD.led = sts.map StD.led) := ⟨by rw [HE.out, HF.out]; exact ⟨rfl, rfl, rfl⟩⟩
          have TGE := Keep.mk ((((((TGF.out.set 0 (.int .i64 x.g.T)).set 1 (.int .i64 x.g.S)).set 2 (.int .i64 x.g.st)).set 3 (.slice AP x.g.ps.length kP)).set 4 (.slice AA (sts.map (actsM x.g x.F)).length kA)).set 5 (.slice AG (sts.map StD.led).length kG))
          clear hP hA hG hb OW5 hle TGF KT OWr HE
          generalize sts.map (actsM x.g x.F) = AL at *
          generalize sts.map StD.led = GL at *
          go_wp2_with (refine wpList_store_mid rfl _ _ _ rfl (w.heap.size + 1) 0 #[.int .i64 x.g.T, .int .i64 x.g.S, .int .i64 x.g.st, .slice AP x.g.ps.length kP, .slice AA AL.length kA, .slice AG GL.length kG] rfl rfl TH.out (by kernel_rfl) ONE.out ?_)
          refine bodyPost_ret (results_list (rs := [.cell 2 30, .tmp 3]) rfl (by simp) (.cell (w.heap.size + 1) 30 _ (0, 0) _ rfl RT.out.1 Tryd.underlying30 rfl (by kernel_rfl) (.tmp .nil))) rfl ?_
          exact ⟨RT.out.2, .inr (.inr ⟨HCK.out, HEM.out.1, _, _, _, rfl, TGE.out.pr, by rw [HEM.out.2.1]; exact TGE.out.ac, by rw [HEM.out.2.2]; exact TGE.out.go⟩)⟩
        | cons n rest =>
          have hne : (n :: rest) ≠ [] := by simp
          obtain ⟨fu, rfl⟩ : ∃ f, gk = f + 1 := ⟨gk - 1, by have h := MU1.out; have e : ofMu x.g ⟨sts, n :: rest, false⟩ = 2 * ((512 - sts.length) * (64 * nSp x.g + 1) + lacks sts) + (rest.length + 1) := rfl; omega⟩
          obtain ⟨so1, so2, _⟩ := ofStep_ok GF.out.ok HF64.out I.out.ok hne
          have RU2 : Keep (ofRun x.g x.F fu (ofStep x.g x.F ⟨sts, n :: rest, false⟩) = statesM x.g) := ⟨by rw [← RU.out]; exact (ofRun_go rfl hne fu).symm⟩
          have BU2 := Keep.mk (ofStep_bits GF.out.ok HF64.out (by rw [HF.out]; exact first_bits GF.out) I.out.ok BU.out hne)
          have MU2 : Keep (ofMu x.g (ofStep x.g x.F ⟨sts, n :: rest, false⟩) ≤ fu) := ⟨by have := MU1.out; omega⟩
          have MB2 : Keep (ofMu x.g (ofStep x.g x.F ⟨sts, n :: rest, false⟩) ≤ 100000000) := ⟨by have := MB.out; omega⟩
          have SO1 := Keep.mk so1
          have EST : Keep (ofStep x.g x.F ⟨sts, n :: rest, false⟩ = ⟨(growM x.g x.F n sts).sts, rest ++ (growM x.g x.F n sts).fresh, (growM x.g x.F n sts).full⟩) := ⟨rfl⟩
          have hat : n < sts.length := I.out.ok.t n List.mem_cons_self
          have KG := Keep.mk (grow_tab x XOK.out n gL cL qs sts wr I.out.ms I.out.ok.ok hat I.out.ok.l)
          clear RU BU MU1 MB FU so1 so2
          have hq := I.out.q
          have eints : ints_ (n :: rest) = (n : Int) :: ints_ rest := rfl
          dsimp only at hq
          rw [eints] at hq
          obtain ⟨ad, rfl, hcell, hspot⟩ := hq.head
          obtain ⟨_, hcap, hqt⟩ := hq.tail
          rw [ints_len] at hqt
          have hcl6 : rest.length + 1 ≤ c6 := by simpa using l6
          generalize hL : (n :: rest).length = L at *
          have hL2 : L = rest.length + 1 := by rw [← hL]; rfl
          have hLn : 0 < L := by omega
          have hLi : (0 : Int) < (L : Int) := by omega
          have hLc : L ≤ c6 := by omega
          have LL := Keep.mk hL2
          have HQ := Keep.mk hq
          have HSP := Keep.mk hspot
          clear hL hL2 hcl6 l6 eints hqt hcap hspot
          go_wp2_with fail
          refine KG.out.mono ?_
          rintro e w3 hG
          unfold GrowPost at hG
          obtain ⟨hf, ⟨v, rfl⟩, hb⟩ | ⟨hf, v, gL2, cL2, qs2, rfl, hMS, hOK, hl, hO, hb, hkept, ⟨more, hqs, hmore⟩, _⟩ := hG
          · have OW3 := KO.out w3 (I.out.low.trans hb)
            have TH := Keep.mk OW3.there
            have RT := Keep.mk (OW3.ret (.int .i64 0) (.int .i64 0) (.int .i64 0) (.slice none 0 0) (.slice none 0 0) (.slice none 0 0))
            have FUL : Keep ((statesM x.g).full = true) := ⟨by rw [← RU2.out, ofRun_done (.inl (by rw [EST.out]; exact hf))]; rw [EST.out]; exact hf⟩
            clear OW3 hb hf I RU2 KG HQ
            dsimp only
            go_wp2_with (refine wpList_store_mid rfl _ _ _ rfl (w.heap.size + 1) 0 #[.int .i64 0, .int .i64 0, .int .i64 0, .slice none 0 0, .slice none 0 0, .slice none 0 0] rfl rfl TH.out (by kernel_rfl) (by simp [Value.oneCell']) ?_)
            refine bodyPost_ret (results_list (rs := [.cell 2 30, .tmp 3]) rfl (by simp) (.cell (w.heap.size + 1) 30 _ (0, 0) _ rfl RT.out.1 Tryd.underlying30 rfl (by kernel_rfl) (.tmp .nil))) rfl ?_
            exact ⟨RT.out.2, .inr (.inl ⟨HCK.out, FUL.out, rfl⟩)⟩
          · obtain ⟨Av, cv, ev, _, _, hrv, _, _⟩ := hO.open_
            subst ev
            have ownB : ∀ b, (Value.slice (some ad) L c6).ownBlock = some b → b = ad.block := fun b hb => (Option.some.inj hb).symm
            have tdI := I.out.td
            obtain ⟨hBlo, hBlt, csB, hBblk⟩ := HQ.out.block ad.block rfl
            obtain ⟨hOut, hqs0⟩ := tdI ad.block rfl
            have hsame : w3.heap[ad.block]? = wr.heap[ad.block]? := by
              refine hkept _ hBlt hOut.m ?_ fun q hq => ⟨?_, (hqs0 q hq).1⟩
              · obtain ⟨_, _, c9, hc9⟩ := I.out.ms.lst.block gL rfl
                exact hBblk.ne_of_type hc9 (by decide)
              · obtain ⟨i, hi, rfl⟩ := List.getElem_of_mem hq
                obtain ⟨_, _, ⟨_, b3, _⟩, _, _⟩ := I.out.ms.fam.sta i hi
                exact hBblk.ne_of_type b3 (by decide)
            have hq3 : QI w3 x.B0 (.slice (some ad) L c6) ((n : Int) :: ints_ rest) := HQ.out.move fun k hk => by rw [ownB k hk]; exact hsame
            obtain ⟨_, hcap, hqt⟩ := hq3.tail
            have hsp := HSP.out
            have hq4 : QI w3 x.B0 (.slice (if c6 = 1 then some ad else some ⟨ad.block, ad.off + 1, none⟩) (ints_ rest).length (c6 - 1)) (ints_ rest) := by
              have e : (if c6 = 1 then some ad else (some ad).map (·.add 1)) = (if c6 = 1 then some ad else some ⟨ad.block, ad.off + 1, none⟩) := by
                obtain ⟨a1, a2, a3⟩ := ad
                have a3' : a3 = none := hsp
                subst a3'
                split
                · rfl
                · simp [Addr.add]
              rw [e] at hqt
              exact hqt
            have HQ4 := Keep.mk hq4
            have hown4 : ∀ b, (Value.slice (if c6 = 1 then some ad else some ⟨ad.block, ad.off + 1, none⟩) (ints_ rest).length (c6 - 1)).ownBlock = some b → b = ad.block := fun b hb => by
              split at hb <;> exact (Option.some.inj hb).symm
            have HOW4 := Keep.mk hown4
            have hB3 : x.B0 ≤ w3.heap.size := Nat.le_trans I.out.ms.mkr.l0 hb.size
            have HRV := Keep.mk hrv
            have HMS := Keep.mk hMS
            have LOW := Keep.mk (I.out.low.trans hb)
            have TD3 : Keep (∀ b, (Value.slice (if c6 = 1 then some ad else some ⟨ad.block, ad.off + 1, none⟩) (ints_ rest).length (c6 - 1)).ownBlock = some b → Out x b ∧ (∀ q ∈ qs2, b ≠ q.gt ∧ b ≠ q.gc) ∧ ∃ cs, Blk w3 b 3 cs) := ⟨fun b hb => by
              rw [hown4 b hb]
              refine ⟨hOut, fun q hq => ?_, csB, hsame.trans hBblk⟩
              rw [hqs] at hq
              rcases List.mem_append.1 hq with hq | hq
              · exact hqs0 q hq
              · obtain ⟨_, h1, h2⟩ := hmore q hq
                exact ⟨by omega, by omega⟩⟩
            have HLN : Keep ((ints_ rest).length + (ints_ (growM x.g x.F n sts).fresh).length < 8796093022208) := ⟨by
              have h1 := MB2.out
              rw [EST.out] at h1
              unfold ofMu at h1
              dsimp only at h1
              rw [List.length_append] at h1
              rw [ints_len, ints_len]
              omega⟩
            have HB3 := Keep.mk hB3
            have HF3 := Keep.mk hf
            clear hq3 hqt hq4 hown4 ownB tdI hBlo hBlt csB hBblk hOut hqs0 hsame hmore hqs hkept hO hrv hMS hOK hl hb hf hsp hB3 I HQ hq hcell KG
            dsimp only
            go_upto_region 11 with fail
            go_step
            iterate 4 (go_step; go_simp; go_step)
            refine wpl_append_q2 w3 rfl (.tmp 57) (.tmp 58) rfl x.B0 (.slice (if c6 = 1 then some ad else some ⟨ad.block, ad.off + 1, none⟩) (ints_ rest).length (c6 - 1)) (ints_ rest) rfl HQ4.out Av (ints_ (growM x.g x.F n sts).fresh).length cv (ints_ (growM x.g x.F n sts).fresh) rfl rfl HRV.out HLN.out HB3.out ?_
            intro v' w4 hq' hg' hat'
            have LN : Keep (OfL x w2 w4 gL2 cL2 qs2 (ofStep x.g x.F ⟨sts, n :: rest, false⟩) v') := ⟨by
              have hms := HMS.out.aside TD3.out hg'
              refine ⟨by rw [EST.out]; exact hms, SO1.out, ?_, fun b hb => ?_, LOW.out.trans ((Below.refl _ _).grown hg' HB3.out (fun b hb => (TD3.out b hb).1.lo))⟩
              · rw [EST.out]
                show QI w4 x.B0 v' (ints_ (rest ++ (growM x.g x.F n sts).fresh))
                have e : ints_ (rest ++ (growM x.g x.F n sts).fresh) = ints_ rest ++ ints_ (growM x.g x.F n sts).fresh := by simp [ints_]
                rw [e]
                exact hq'
              · rcases hat' with h1 | ⟨b2, h1, h2⟩
                · rw [h1] at hb
                  obtain ⟨a1, a2, _⟩ := TD3.out b hb
                  exact ⟨a1, a2⟩
                · rw [h1] at hb
                  have e : b2 = b := Option.some.inj hb
                  subst e
                  refine ⟨HMS.out.mkr.out h2, fun q hq => ?_⟩
                  obtain ⟨i, hi, rfl⟩ := List.getElem_of_mem hq
                  obtain ⟨l1, l2, l3, l4⟩ := (HMS.out.fam.sta i hi).lt
                  exact ⟨by omega, by omega⟩⟩
            have FN : Keep ((ofStep x.g x.F ⟨sts, n :: rest, false⟩).full = false) := ⟨by rw [EST.out]; exact HF3.out⟩
            obtain ⟨A8, c8, e8, _⟩ := hq'.slice
            rw [List.length_append] at e8
            subst e8
            clear hq' hg' hat' HQ4 HRV HMS LOW TD3 HLN HB3 HF3 HOW4
            go_wp2
            all_goals (
              go_roundg fu
              case measure => omega
              case rel => exact ⟨_, gL2, cL2, qs2, MU2, LN, FN, RU2, BU2, MB2⟩)
end Go.Proofs.YtaooejidkeojjaaDoor.H
namespace Go.Proofs.YtaooejidkeojjaaDoor.H
def sumsG : Gr := ⟨2, 3, 2, [⟨2, [2, 1, 2], false⟩, ⟨2, [0], false⟩]⟩
theorem sums_check : checkI sumsG = 0 := by decide +kernel
theorem sums_full : (statesM sumsG).full = false := by decide +kernel
theorem sums_led : (statesM sumsG).sts.map StD.led = [[1, -1, 2], [-1, -1, -1], [-1, 3, -1], [1, -1, 4], [-1, 3, -1]] := by decide +kernel
theorem sums_acts : (statesM sumsG).sts.map (fun s => (actsM sumsG (firstEnd sumsG) s).map fun a => (a.sh, a.rd, a.ac)) = [[(1, [], false), (-1, [], false), (-1, [], false)], [(-1, [], false), (-1, [1], false), (-1, [1], false)], [(-1, [], false), (3, [], false), (-1, [], true)], [(1, [], false), (-1, [], false), (-1, [], false)], [(-1, [], false), (3, [0], false), (-1, [0], false)]] := by decide +kernel
end Go.Proofs.YtaooejidkeojjaaDoor.H
