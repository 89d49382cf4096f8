/-
  What the library's slices functions answer at this program's types: Equal at []int, IndexFunc and ContainsFunc at []int and []Prod, Index and Contains at []bool.
-/
import Derived.Test.YtadabkkkalgehaaProg
import Derived.Test.YtadabkkkalgehaaBase
namespace Go.Proofs.Ytadabkkkalgehaa.H
open Go.RowKit
set_option linter.unusedVariables false
set_option linter.unusedSimpArgs false

theorem slicesEqual (A1 A2 : Option Addr) (n1 n2 c1 c2 : Nat) (xs ys : List Int) (w : World)
    (hn1 : n1 = xs.length) (hn2 : n2 = ys.length) (hl1 : xs.length ≤ 9223372036854775807)
    (h1 : Rd eI 1 w w.heap.size A1 xs) (h2 : Rd eI 1 w w.heap.size A2 ys) :
    Calls Try.prog 62 #[.slice A1 n1 c1, .slice A2 n2 c2] w fun e w' => e = .returned (.bool (decide (xs = ys))) ∧ ∃ n, w' = w.drewN n := by
  subst hn1 hn2
  by_cases hne : xs.length = ys.length
  · have hne' : ((xs.length : Int) != (ys.length : Int)) = false := by simp [hne]
    have Hne := Lib.hid hne
    clear hne
    go_enter Try.func62, Try.ntmps62
    go_wp2
    go_loopg [5, 13] xs.length (fun gg _ s13 wr => ∃ k : Nat, k ≤ xs.length ∧ xs.length - k ≤ gg ∧ s13 = .int .i64 k ∧ (∃ n, wr = w.drewN n) ∧ Keep (∀ j, j < k → xs[j]? = ys[j]?))
    case atStart => exact ⟨0, Nat.zero_le _, by omega, rfl, ⟨0, rfl⟩, ⟨fun j hj => absurd hj (Nat.not_lt_zero _)⟩⟩
    case round =>
      obtain ⟨k, hk, hg, rfl, ⟨n, rfl⟩, HA⟩ := hrel
      by_cases hlt : k < xs.length
      · have hlt2 : k < ys.length := by have := Hne.out; omega
        obtain ⟨a1, rfl, hb1, hc1⟩ := h1.int k hlt
        obtain ⟨a2, rfl, hb2, hc2⟩ := h2.int k hlt2
        clear h1 h2
        generalize hx : xs[k] = x at *
        generalize hy : ys[k] = y at *
        have Hx := Lib.hid hx
        have Hy := Lib.hid hy
        clear hx hy
        have i1 : (0:Int) ≤ k := by omega
        have i2 : (k : Int) < xs.length := by omega
        have i3 : (k : Int) < ys.length := by omega
        by_cases hxy : x = y
        · have t : ((x : Int) != y) = false := by simp [hxy]
          have Hxy := Lib.hid hxy
          clear hxy
          go_wp2
          go_quiet (fail)
          go_wp2
          go_roundg (xs.length - (k + 1))
          case measure => omega
          case rel =>
            refine ⟨k + 1, by omega, by omega, by go_num, ⟨_, rfl⟩, ⟨fun j hj => ?_⟩⟩
            by_cases e : j = k
            · subst e
              rw [List.getElem?_eq_getElem hlt, List.getElem?_eq_getElem hlt2, Hx.out, Hy.out, Hxy.out]
            · exact HA.out j (by omega)
        · have t : ((x : Int) != y) = true := by simp [hxy]
          have Hxy := Lib.hid hxy
          clear hxy
          go_wp2
          go_quiet (fail)
          go_wp2
          go_ret
          refine ⟨?_, ⟨_, World.drewN_drewN ..⟩⟩
          have : ¬ xs = ys := by
            rintro rfl
            exact Hxy.out (by rw [← Hx.out, ← Hy.out])
          simp [this]
      · go_wp2
        go_ret
        refine ⟨?_, ⟨_, rfl⟩⟩
        have : xs = ys := List.ext_getElem? (fun j => by
          by_cases hj : j < k
          · exact HA.out j hj
          · rw [List.getElem?_eq_none (by omega), List.getElem?_eq_none (by have := Hne.out; omega)])
        simp [this]
  · have hne' : ((xs.length : Int) != (ys.length : Int)) = true := by simp; omega
    have hxy : decide (xs = ys) = false := by simp; intro h; exact hne (by rw [h])
    clear hne
    go_enter Try.func62, Try.ntmps62
    go_wp2
    go_ret
    exact ⟨by rw [hxy]; rfl, 0, rfl⟩

/-- What a predicate must do: in each later world, at each of the list's elements. -/
def PredI (g : Nat) (lb : Array Value) (p : Int → Bool) (xs : List Int) (w : World) : Prop :=
  ∀ x ∈ xs, ∀ W, Below w.heap.size w W → Calls Try.prog g (#[.int .i64 x] ++ lb) W fun e w' => e = .returned (.bool (p x)) ∧ Below w.heap.size w w'

def idxOf {α : Type} (p : α → Bool) (xs : List α) : Int := if xs.any p then (xs.findIdx p : Int) else -1
theorem idxOf_hit {α : Type} {p : α → Bool} {xs : List α} {k : Nat} (hk : k < xs.length) (hp : p xs[k] = true) (h : ∀ j (hj : j < k), p (xs[j]'(by omega)) = false) : idxOf p xs = k := by
  unfold idxOf
  have ha : xs.any p = true := List.any_eq_true.2 ⟨_, List.getElem_mem hk, hp⟩
  rw [if_pos ha]
  congr 1
  rw [List.findIdx_eq hk]
  exact ⟨hp, fun j hj => h j hj⟩
theorem idxOf_miss {α : Type} {p : α → Bool} {xs : List α} (h : ∀ j (hj : j < xs.length), p xs[j] = false) : idxOf p xs = -1 := by
  unfold idxOf
  rw [if_neg]
  rw [List.any_eq_true]
  rintro ⟨x, hx, hp⟩
  obtain ⟨j, hj, rfl⟩ := List.getElem_of_mem hx
  rw [h j hj] at hp
  cases hp
theorem idxOf_ge {α : Type} (p : α → Bool) (xs : List α) : decide (idxOf p xs ≥ 0) = xs.any p := by
  unfold idxOf
  split
  · rename_i h; rw [h]; simp
  · rename_i h; simp only [Bool.not_eq_true] at h; rw [h]; rfl

theorem indexFuncI (A : Option Addr) (n c : Nat) (xs : List Int) (g : Nat) (lb : Array Value) (p : Int → Bool) (w : World)
    (hn : n = xs.length) (hl : xs.length ≤ 9223372036854775807) (h : Rd eI 1 w w.heap.size A xs)
    (eg : ∀ args w, (callFunc g args).run Try.prog w = .ok (.enter g args) w) (hp : PredI g lb p xs w) :
    Calls Try.prog 72 #[.slice A n c, .func (.func g) #[] lb] w fun e w' => e = .returned (.int .i64 (idxOf p xs)) ∧ Below w.heap.size w w' := by
  subst hn
  go_enter Try.func72, Try.ntmps72
  go_wp2
  go_loopg [5, 8] xs.length (fun gg _ s8 wr => ∃ k : Nat, k ≤ xs.length ∧ xs.length - k ≤ gg ∧ s8 = .int .i64 k ∧ Keep (Below w.heap.size w wr) ∧ Keep (∀ j (hj : j < xs.length), j < k → p xs[j] = false))
  case atStart => exact ⟨0, Nat.zero_le _, by omega, rfl, ⟨Below.refl _ w⟩, ⟨fun j _ hj => absurd hj (Nat.not_lt_zero _)⟩⟩
  case round =>
    obtain ⟨k, hk, hg, rfl, BW, HA⟩ := hrel
    by_cases hlt : k < xs.length
    · obtain ⟨ad, rfl, hb, hc⟩ := h.int k hlt
      have hc' := cell_below hc BW.out (by rw [add_block]; exact hb)
      have hcall := hp xs[k] (List.getElem_mem hlt) wr BW.out
      clear hc h hp
      generalize hx : xs[k] = x at *
      have Hx := Lib.hid hx
      clear hx
      have i1 : (0:Int) ≤ k := by omega
      have i2 : (k : Int) < xs.length := by omega
      cases hq : p x with
      | true =>
        rw [hq] at hcall
        have Hq := Lib.hid hq
        clear hq
        go_wp2_with (go_at_fn g; refine hcall.mono ?_; rintro e w' ⟨rfl, hb'⟩)
        go_ret
        refine ⟨?_, hb'⟩
        rw [idxOf_hit hlt (by rw [Hx.out]; exact Hq.out) (fun j hj => HA.out j (by omega) hj)]
        rfl
      | false =>
        rw [hq] at hcall
        have Hq := Lib.hid hq
        clear hq
        go_wp2_with (go_at_fn g; refine hcall.mono ?_; rintro e w' ⟨rfl, hb'⟩)
        go_roundg (xs.length - (k + 1))
        case measure => omega
        case rel =>
          refine ⟨k + 1, by omega, by omega, by go_num, ⟨hb'⟩, ⟨fun j hj hjk => ?_⟩⟩
          by_cases e : j = k
          · subst e; rw [Hx.out]; exact Hq.out
          · exact HA.out j hj (by omega)
    · go_wp2
      go_ret
      refine ⟨?_, BW.out⟩
      rw [idxOf_miss (fun j hj => HA.out j hj (by omega))]
      rfl

theorem containsFuncI (A : Option Addr) (n c : Nat) (xs : List Int) (g : Nat) (lb : Array Value) (p : Int → Bool) (w : World)
    (hn : n = xs.length) (hl : xs.length ≤ 9223372036854775807) (h : Rd eI 1 w w.heap.size A xs)
    (eg : ∀ args w, (callFunc g args).run Try.prog w = .ok (.enter g args) w) (hp : PredI g lb p xs w) :
    Calls Try.prog 64 #[.slice A n c, .func (.func g) #[] lb] w fun e w' => e = .returned (.bool (xs.any p)) ∧ Below w.heap.size w w' := by
  rw [← idxOf_ge]
  subst hn
  go_enter Try.func64, Try.ntmps64
  go_wp2_with (go_at_call 72; refine (indexFuncI A _ c xs g lb p _ rfl hl h eg hp).mono ?_; rintro e w' ⟨rfl, hb'⟩)
  go_ret
  exact ⟨by simp, hb'⟩

/-- A production as one value. -/
def prV (p : Pr) (A : Option Addr) (c : Nat) : Value := .agg #[.int .i64 p.head, .slice A p.body.length c, .bool p.right]
def PredP (g : Nat) (lb : Array Value) (q : Pr → Bool) (ps : List Pr) (w : World) : Prop :=
  ∀ p ∈ ps, ∀ A c, Rd eI 1 w w.heap.size A p.body → ∀ W, Below w.heap.size w W → Calls Try.prog g (#[prV p A c] ++ lb) W fun e w' => e = .returned (.bool (q p)) ∧ Below w.heap.size w w'

theorem indexFuncP (A : Option Addr) (n c : Nat) (ps : List Pr) (g : Nat) (lb : Array Value) (q : Pr → Bool) (w : World)
    (hn : n = ps.length) (hl : ps.length ≤ 9223372036854775807) (h : RdP w w.heap.size A ps)
    (eg : ∀ args w, (callFunc g args).run Try.prog w = .ok (.enter g args) w) (hp : PredP g lb q ps w) :
    Calls Try.prog 63 #[.slice A n c, .func (.func g) #[] lb] w fun e w' => e = .returned (.int .i64 (idxOf q ps)) ∧ Below w.heap.size w w' := by
  subst hn
  go_enter Try.func63, Try.ntmps63
  go_wp2
  go_loopg [5, 8] ps.length (fun gg _ s8 wr => ∃ k : Nat, k ≤ ps.length ∧ ps.length - k ≤ gg ∧ s8 = .int .i64 k ∧ Keep (Below w.heap.size w wr) ∧ Keep (∀ j (hj : j < ps.length), j < k → q ps[j] = false))
  case atStart => exact ⟨0, Nat.zero_le _, by omega, rfl, ⟨Below.refl _ w⟩, ⟨fun j _ hj => absurd hj (Nat.not_lt_zero _)⟩⟩
  case round =>
    obtain ⟨k, hk, hg, rfl, BW, HA⟩ := hrel
    by_cases hlt : k < ps.length
    · obtain ⟨ad, Ab, cb, rfl, hb, c0, c1, c2, hlb, hr⟩ := h k hlt
      replace c0 := cell_below c0 BW.out (by rw [add_block]; exact hb)
      replace c1 := cell_below c1 BW.out (by show (ad.add _).block < _; rw [add_block]; exact hb)
      replace c2 := cell_below c2 BW.out (by show (ad.add _).block < _; rw [add_block]; exact hb)
      have hcall := hp ps[k] (List.getElem_mem hlt) Ab cb hr wr BW.out
      clear h hp hr
      unfold prV at hcall
      generalize hx : ps[k] = x at *
      have Hx := Lib.hid hx
      clear hx
      have i1 : (0:Int) ≤ k := by omega
      have i2 : (k : Int) < ps.length := by omega
      cases hq : q x with
      | true =>
        rw [hq] at hcall
        have Hq := Lib.hid hq
        clear hq
        go_wp2_with (go_at_fn g; refine hcall.mono ?_; rintro e w' ⟨rfl, hb'⟩)
        go_ret
        refine ⟨?_, hb'⟩
        rw [idxOf_hit hlt (by rw [Hx.out]; exact Hq.out) (fun j hj => HA.out j (by omega) hj)]
        rfl
      | false =>
        rw [hq] at hcall
        have Hq := Lib.hid hq
        clear hq
        go_wp2_with (go_at_fn g; refine hcall.mono ?_; rintro e w' ⟨rfl, hb'⟩)
        go_roundg (ps.length - (k + 1))
        case measure => omega
        case rel =>
          refine ⟨k + 1, by omega, by omega, by go_num, ⟨hb'⟩, ⟨fun j hj hjk => ?_⟩⟩
          by_cases e : j = k
          · subst e; rw [Hx.out]; exact Hq.out
          · exact HA.out j hj (by omega)
    · go_wp2
      go_ret
      refine ⟨?_, BW.out⟩
      rw [idxOf_miss (fun j hj => HA.out j hj (by omega))]
      rfl

theorem containsFuncP (A : Option Addr) (n c : Nat) (ps : List Pr) (g : Nat) (lb : Array Value) (q : Pr → Bool) (w : World)
    (hn : n = ps.length) (hl : ps.length ≤ 9223372036854775807) (h : RdP w w.heap.size A ps)
    (eg : ∀ args w, (callFunc g args).run Try.prog w = .ok (.enter g args) w) (hp : PredP g lb q ps w) :
    Calls Try.prog 49 #[.slice A n c, .func (.func g) #[] lb] w fun e w' => e = .returned (.bool (ps.any q)) ∧ Below w.heap.size w w' := by
  rw [← idxOf_ge]
  subst hn
  go_enter Try.func49, Try.ntmps49
  go_wp2_with (go_at_call 63; refine (indexFuncP A _ c ps g lb q _ rfl hl h eg hp).mono ?_; rintro e w' ⟨rfl, hb'⟩)
  go_ret
  exact ⟨by simp, hb'⟩

theorem indexB (A : Option Addr) (n c : Nat) (xs : List Bool) (b : Bool) (w : World)
    (hn : n = xs.length) (hl : xs.length ≤ 9223372036854775807) (h : Rd eB 1 w w.heap.size A xs) :
    Calls Try.prog 73 #[.slice A n c, .bool b] w fun e w' => e = .returned (.int .i64 (idxOf (fun x => b == x) xs)) ∧ w = w' := by
  subst hn
  go_enter Try.func73, Try.ntmps73
  go_wp2
  go_loopg [5, 8] xs.length (fun gg _ s8 wr => ∃ k : Nat, k ≤ xs.length ∧ xs.length - k ≤ gg ∧ s8 = .int .i64 k ∧ Keep (wr = w) ∧ Keep (∀ j (hj : j < xs.length), j < k → (b == xs[j]) = false))
  case atStart => exact ⟨0, Nat.zero_le _, by omega, rfl, ⟨rfl⟩, ⟨fun j _ hj => absurd hj (Nat.not_lt_zero _)⟩⟩
  case round =>
    obtain ⟨k, hk, hg, rfl, ⟨rfl⟩, HA⟩ := hrel
    by_cases hlt : k < xs.length
    · obtain ⟨ad, rfl, hb, hc⟩ := h.bool k hlt
      clear h
      generalize hx : xs[k] = x at *
      have Hx := Lib.hid hx
      clear hx
      have i1 : (0:Int) ≤ k := by omega
      have i2 : (k : Int) < xs.length := by omega
      cases hq : (b == x) with
      | true =>
        go_wp2
        go_ret
        refine ⟨?_, rfl⟩
        rw [idxOf_hit hlt (by rw [Hx.out]; exact hq) (fun j hj => HA.out j (by omega) hj)]
        rfl
      | false =>
        go_wp2
        go_roundg (xs.length - (k + 1))
        case measure => omega
        case rel =>
          refine ⟨k + 1, by omega, by omega, by go_num, ⟨rfl⟩, ⟨fun j hj hjk => ?_⟩⟩
          by_cases e : j = k
          · subst e; rw [Hx.out]; exact hq
          · exact HA.out j hj (by omega)
    · go_wp2
      go_ret
      refine ⟨?_, rfl⟩
      rw [idxOf_miss (fun j hj => HA.out j hj (by omega))]
      rfl

theorem containsB (A : Option Addr) (n c : Nat) (xs : List Bool) (b : Bool) (w : World)
    (hn : n = xs.length) (hl : xs.length ≤ 9223372036854775807) (h : Rd eB 1 w w.heap.size A xs) :
    Calls Try.prog 66 #[.slice A n c, .bool b] w fun e w' => e = .returned (.bool (xs.any (fun x => b == x))) ∧ w = w' := by
  rw [← idxOf_ge]
  subst hn
  go_enter Try.func66, Try.ntmps66
  go_wp2_with (go_at_call 73; refine (indexB A _ c xs b _ rfl hl h).mono ?_; rintro e w' ⟨rfl, rfl⟩)
  go_ret
  exact ⟨rfl, rfl⟩
end Go.Proofs.Ytadabkkkalgehaa.H
