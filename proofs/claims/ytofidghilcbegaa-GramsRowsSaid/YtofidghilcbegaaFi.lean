/-
  grams.firsts and the list of a set of terminals, walked.
-/
import Derived.Test.YtofidghilcbegaaCh
import Derived.Test.YtofidghilcbegaaAp
namespace Go.Proofs.Ytofidghilcbegaa.H
open Go.RowKit
set_option linter.unusedVariables false
set_option linter.unusedSimpArgs false

def tlist (x : Nat) : List Int := ((List.range 64).filter x.testBit).map Int.ofNat
theorem tlist_step (x k : Nat) : (((List.range (k + 1)).filter x.testBit).map Int.ofNat) = if x.testBit k then ((List.range k).filter x.testBit).map Int.ofNat ++ [(k : Int)] else ((List.range k).filter x.testBit).map Int.ofNat := by
  rw [List.range_succ, List.filter_append]
  by_cases h : x.testBit k <;> simp [h]

set_option maxRecDepth 100000 in
set_option maxHeartbeats 2000000 in
theorem list_any (x : Nat) (w : World) (hx : x < 2 ^ 64) :
    Calls Try.prog 43 #[.int .u64 x] w fun e w' => ∃ v, e = .returned v ∧ OwnI w' w.heap.size v (tlist x) ∧ Below w.heap.size w w' := by
  have HX := Keep.mk hx
  obtain ⟨i0, hi0, hz0, hz1, hz2⟩ := info_parts info_int
  go_enter Try.func43, Try.ntmps43
  go_wp2
  go_loopg [3, 5] 64 (fun gg s3 s5 wr => ∃ k : Nat, k ≤ 64 ∧ 64 - k ≤ gg ∧ s5 = .int .i64 k ∧ Keep (OwnI wr w.heap.size s3 (((List.range k).filter x.testBit).map Int.ofNat)) ∧ Keep (Below w.heap.size w wr))
  case atStart => exact ⟨0, by omega, by omega, rfl, ⟨OwnI.nil _ _⟩, ⟨Below.refl _ _⟩⟩
  case round =>
    obtain ⟨k, hk, hg, rfl, HO, HB⟩ := hrel
    by_cases hlt : k < 64
    · have tb := testBit64 x k hx
      have hst := Keep.mk (tlist_step x k)
      have hlen : (((List.range k).filter x.testBit).map Int.ofNat).length ≤ k := by
        rw [List.length_map]
        exact Nat.le_trans (List.length_filter_le _ _) (by simp)
      generalize ((List.range k).filter x.testBit).map Int.ofNat = ys at *
      cases hb : x.testBit k with
      | false =>
        rw [hb] at tb hst
        clear hb
        go_wp2
        go_roundg (64 - (k + 1))
        case measure => omega
        case rel =>
          exact ⟨k + 1, by omega, by omega, by go_num, ⟨by rw [hst.out]; simpa using HO.out⟩, HB⟩
      | true =>
        rw [hb] at tb hst
        clear hb
        have hown := HO.out
        unfold OwnI at hown
        have hBs := HB.out.size
        have HW := Keep.mk hown
        clear hown
        go_wp2_with (at_builtin; refine wpList_append_own _ rfl (.tmp 13) (.tmp 15) _ rfl w.heap.size 3 i0 (.int .i64 0) 1 8 Try.underlying31 hi0 hz0 hz1 hz2 rfl (by decide) _ _ _ rfl (HW.out.alloc _) ⟨wr.heap.size, 0, none⟩ 1 1 [.int .i64 k] rfl rfl ?c1 ?c2 ?c3 ?c4 ?c5 ?_)
        case c2 => simp [Value.oneCell']
        case c3 => first | omega | (simp only [maxLen]; omega)
        case c4 => omega
        case c5 => first | omega | (simp; omega)
        intro v' w1 hown1 hgrow _
        have H2 : Keep (OwnI w1 w.heap.size v' (ys ++ [(k : Int)])) := ⟨by unfold OwnI; rw [List.map_append, List.length_append]; exact hown1⟩
        have H3 : Keep (Below w.heap.size w w1) := ⟨(HB.out.alloc hBs _).grown hgrow (by simp; omega) (fun g hg => HO.out.blk g hg)⟩
        clear hown1 hgrow
        go_wp2
        go_roundg (64 - (k + 1))
        case measure => omega
        case rel => exact ⟨k + 1, by omega, by omega, by go_num, ⟨by rw [hst.out]; simpa using H2.out⟩, H3⟩
    · have e : k = 64 := by omega
      subst e
      go_wp2
      go_ret
      exact ⟨u3, rfl, HO.out, HB.out⟩

theorem info_u64 : (Try.prog.info? 48).map (fun i => (i.zero, i.size, i.bytes)) = some (some (.int .u64 0), 1, 8) := by kernel_rfl

def gn (xs : List Nat) (i : Int) : Nat := xs.getD i.toNat 0
structure Fi where
  m : List Nat
  more : Bool
def firstX (u : List Nat) (p : Pr) : Nat := gn u p.head ||| gn u (p.body.getD 0 0)
def firstIn (u : Fi) (p : Pr) : Fi := if firstX u.m p = gn u.m p.head then u else ⟨u.m.set p.head.toNat (firstX u.m p), true⟩
def firstRound (ps : List Pr) (u : Fi) : Fi := ps.foldl firstIn ⟨u.m, false⟩
def firstLoop (ps : List Pr) : Nat → Fi → Fi
  | 0, u => u
  | k + 1, u => if u.more then firstLoop ps k (firstRound ps u) else u
def first0 (g : Gr) : List Nat := (List.range g.T.toNat).map (fun s => 2 ^ s) ++ List.replicate (g.S.toNat - g.T.toNat) 0
/-- How many bits of 64 are not in. -/
def lack (xs : List Nat) : Nat := (xs.map fun x => ((List.range 64).filter fun i => !x.testBit i).length).sum
def firstEnd (g : Gr) : List Nat := (firstLoop g.ps (64 * g.S.toNat + 1) ⟨first0 g, true⟩).m

theorem lack_one_le (x : Nat) : ((List.range 64).filter fun i => !x.testBit i).length ≤ 64 := Nat.le_trans (List.length_filter_le _ _) (by simp)
theorem lack_le (xs : List Nat) : lack xs ≤ 64 * xs.length := by
  induction xs with
  | nil => simp [lack]
  | cons x xs ih =>
    have := lack_one_le x
    simp only [lack, List.map_cons, List.sum_cons, List.length_cons] at ih ⊢
    omega
theorem filter_lt_of {α : Type} (p q : α → Bool) (l : List α) (h : ∀ a ∈ l, p a = true → q a = true) (a : α) (ha : a ∈ l) (hq : q a = true) (hp : p a = false) : (l.filter p).length < (l.filter q).length := by
  induction l with
  | nil => cases ha
  | cons b l ih =>
    have hle : (l.filter p).length ≤ (l.filter q).length := by
      rw [← List.countP_eq_length_filter, ← List.countP_eq_length_filter]
      exact List.countP_mono_left (fun x hx hp => h x (by simp [hx]) hp)
    rcases List.mem_cons.1 ha with rfl | ha'
    · rw [List.filter_cons, List.filter_cons, hp, hq]
      simp; omega
    · have ih' := ih (fun x hx => h x (by simp [hx])) ha'
      rw [List.filter_cons, List.filter_cons]
      by_cases hb : p b = true
      · have := h b (by simp) hb
        simp [hb, this]; omega
      · have e : (if p b = true then b :: List.filter p l else List.filter p l) = List.filter p l := if_neg hb
        rw [e]
        by_cases hq2 : q b = true
        · rw [if_pos hq2, List.length_cons]; omega
        · rw [if_neg hq2]; exact ih'
theorem lack_or (x y : Nat) (hy : y < 2 ^ 64) (h : x ||| y ≠ x) : ((List.range 64).filter fun i => !(x ||| y).testBit i).length < ((List.range 64).filter fun i => !x.testBit i).length := by
  have hex : ∃ i, (x ||| y).testBit i ≠ x.testBit i := by
    apply Classical.byContradiction
    intro hc
    exact h (Nat.eq_of_testBit_eq fun i => Classical.byContradiction fun hi => hc ⟨i, hi⟩)
  obtain ⟨i, hi⟩ := hex
  rw [Nat.testBit_or] at hi
  have hx : x.testBit i = false := by cases hxi : x.testBit i <;> simp [hxi] at hi ⊢
  have hyi : y.testBit i = true := by cases hyi : y.testBit i <;> simp [hx, hyi] at hi ⊢
  have hi64 : i < 64 := by
    apply Classical.byContradiction
    intro hc
    have := Nat.testBit_lt_two_pow (x := y) (i := i) (Nat.lt_of_lt_of_le hy (Nat.pow_le_pow_right (by decide) (by omega)))
    rw [this] at hyi; cases hyi
  refine filter_lt_of _ _ _ (fun a _ ha => ?_) i (List.mem_range.2 hi64) (by simp [hx]) (by simp [hyi])
  rw [Nat.testBit_or] at ha
  simp at ha ⊢
  exact ha.1
theorem lack_set (xs : List Nat) (i x : Nat) (hi : i < xs.length) (h : ((List.range 64).filter fun i => !x.testBit i).length < ((List.range 64).filter fun j => !(xs.getD i 0).testBit j).length) : lack (xs.set i x) < lack xs := by
  induction xs generalizing i with
  | nil => simp at hi
  | cons a xs ih =>
    cases i with
    | zero =>
      simp only [lack, List.set_cons_zero, List.map_cons, List.sum_cons]
      simp at h
      omega
    | succ i =>
      have := ih i (by simpa using hi) (by simpa using h)
      simp only [lack, List.set_cons_succ, List.map_cons, List.sum_cons] at this ⊢
      omega
structure FiLe (n : Nat) (u v : Fi) : Prop where
  c : v.m.length = n
  b : ∀ x ∈ v.m, x < 2 ^ 64
  le : lack v.m ≤ lack u.m
  new : v.more = true → u.more = true ∨ lack v.m < lack u.m
theorem FiLe.trans {n : Nat} {a b c : Fi} (h : FiLe n a b) (k : FiLe n b c) : FiLe n a c := by
  refine ⟨k.c, k.b, Nat.le_trans k.le h.le, fun hm => ?_⟩
  rcases k.new hm with h1 | h1
  · rcases h.new h1 with h2 | h2
    · exact .inl h2
    · exact .inr (Nat.lt_of_le_of_lt k.le h2)
  · exact .inr (Nat.lt_of_lt_of_le h1 h.le)
theorem gn_lt {xs : List Nat} (h : ∀ x ∈ xs, x < 2 ^ 64) (i : Int) : gn xs i < 2 ^ 64 := by
  unfold gn
  rw [List.getD_eq_getElem?_getD]
  cases hx : xs[i.toNat]? with
  | none => simp
  | some x => exact h x (List.mem_of_getElem? hx)
theorem set_lt {xs : List Nat} (h : ∀ x ∈ xs, x < 2 ^ 64) (i y : Nat) (hy : y < 2 ^ 64) : ∀ x ∈ xs.set i y, x < 2 ^ 64 := by
  intro x hx
  rcases List.mem_or_eq_of_mem_set hx with h1 | h1
  · exact h x h1
  · omega
theorem firstX_lt {u : List Nat} {p : Pr} (h : ∀ x ∈ u, x < 2 ^ 64) : firstX u p < 2 ^ 64 := Nat.or_lt_two_pow (gn_lt h _) (gn_lt h _)
theorem firstIn_le {n : Nat} {p : Pr} {u : Fi} (hc : u.m.length = n) (hb : ∀ x ∈ u.m, x < 2 ^ 64) (hp : p.head.toNat < n) : FiLe n u (firstIn u p) := by
  unfold firstIn
  split
  · exact ⟨hc, hb, Nat.le_refl _, fun h => .inl h⟩
  · rename_i ht
    have h1 := lack_or (gn u.m p.head) (gn u.m (p.body.getD 0 0)) (gn_lt hb _) ht
    have h2 := lack_set u.m p.head.toNat (firstX u.m p) (by omega) h1
    exact ⟨by simp [hc], set_lt hb _ _ (firstX_lt hb), Nat.le_of_lt h2, fun _ => .inr h2⟩
theorem firstAll_le {n : Nat} (l : List Pr) : ∀ {u : Fi}, u.m.length = n → (∀ x ∈ u.m, x < 2 ^ 64) → (∀ p ∈ l, p.head.toNat < n) → FiLe n u (l.foldl firstIn u) := by
  induction l with
  | nil => intro u hc hb _; exact ⟨hc, hb, Nat.le_refl _, fun h => .inl h⟩
  | cons p l ih =>
    intro u hc hb hs
    have h1 := firstIn_le hc hb (hs p (by simp))
    exact h1.trans (ih h1.c h1.b (fun s hs' => hs s (by simp [hs'])))
theorem firstRound_le {n : Nat} {ps : List Pr} {u : Fi} (hc : u.m.length = n) (hb : ∀ x ∈ u.m, x < 2 ^ 64) (hp : ∀ p ∈ ps, p.head.toNat < n) :
    (firstRound ps u).m.length = n ∧ (∀ x ∈ (firstRound ps u).m, x < 2 ^ 64) ∧ ((firstRound ps u).more = true → lack (firstRound ps u).m < lack u.m) := by
  have h := firstAll_le (n := n) ps (u := ⟨u.m, false⟩) hc hb hp
  refine ⟨h.c, h.b, fun hm => ?_⟩
  rcases h.new hm with h1 | h1
  · cases h1
  · exact h1
theorem firstLoop_done (ps : List Pr) (k : Nat) (u : Fi) (h : u.more = false) : firstLoop ps k u = u := by
  cases k with
  | zero => rfl
  | succ k => simp [firstLoop, h]
theorem firstLoop_go (ps : List Pr) (k : Nat) (u : Fi) (h : u.more = true) : firstLoop ps (k + 1) u = firstLoop ps k (firstRound ps u) := by simp [firstLoop, h]
theorem u64s_gn (xs : List Nat) (i : Nat) (h : i < xs.length) : (u64s xs)[i]? = some (.int .u64 ((gn xs (i : Int) : Nat) : Int)) := u64s_at xs i h
end Go.Proofs.Ytofidghilcbegaa.H
