import Derived.Test.YtadabkkkalgehaaDm
import Derived.Outline
/-
  derive: symbol and body, walked.
-/
namespace Go.Proofs.Ytadabkkkalgehaa.H
open Go.RowKit
set_option linter.unusedVariables false
set_option linter.unusedSimpArgs false

attribute [local go_sem] min_ints min_pair
/-- What is known is true. -/
def Kn (x : Cx) (k : K4 → Option Int) : Prop := ∀ q v, k q = some v → ∃ p d f t : Nat, q = ⟨p, d, f, t⟩ ∧ p < x.g.ps.length ∧ d ≤ (bodyAt x.g p).length ∧ f ≤ t ∧ t ≤ x.row.length ∧ v = cap (numB x.g x.row p d f t)
def RetN (x : Cx) (n : Nat) (a : K4 → Option Int) (w : World) (e : Ending) (w' : World) : Prop :=
  e = .returned (.int .i64 (cap n)) ∧ ∃ k', Ch x w' k' a ∧ Kn x k' ∧ Gk x w w'
def SymC (x : Cx) (D : Nat) : Prop := ∀ (r : Nat) (s : Int) (f t : Nat) (w : World) (k a : K4 → Option Int), Rk x.g r s → r ≤ rankOf x.g → 0 ≤ s → s < x.g.S → f ≤ t → t ≤ x.row.length → depS (rankOf x.g) r f t ≤ D → Ch x w k a → Kn x k →
  Calls Try.prog 32 #[.pointer (some ⟨x.cB, 0, none⟩), .int .i64 s, .int .i64 f, .int .i64 t] w (RetN x (numS x.g x.row s f t) a w)
def BodyC (x : Cx) (D : Nat) : Prop := ∀ (r p d f t : Nat) (w : World) (k a : K4 → Option Int), (d = 0 → Rk x.g r (headAt x.g p)) → r ≤ rankOf x.g → p < x.g.ps.length → d ≤ (bodyAt x.g p).length → f ≤ t → t ≤ x.row.length → depB (rankOf x.g) r d f t ≤ D → Ch x w k a → Kn x k →
  Calls Try.prog 43 #[.pointer (some ⟨x.cB, 0, none⟩), .int .i64 p, .int .i64 d, .int .i64 f, .int .i64 t] w (RetN x (numB x.g x.row p d f t) a w)

theorem times_any (m n : Nat) (w : World) : Calls Try.prog 58 #[.int .i64 (cap m), .int .i64 (cap n)] w fun e w' => e = .returned (.int .i64 (cap (m * n))) ∧ w = w' := by
  have hm := cap_range m
  have hn := cap_range n
  have hmul : cap (m * n) = if cap m * cap n < 1073741825 then cap m * cap n else 1073741825 := by
    rw [cap_mul]
    have e : cap m * cap n = ((min m 1073741825 * min n 1073741825 : Nat) : Int) := by unfold cap; rw [Int.natCast_mul]
    rw [e]
    split <;> omega
  generalize cap (m * n) = z at *
  generalize cap m = a at *
  generalize cap n = b at *
  by_cases hb : 0 < b
  · by_cases h : 1073741825 / b < a
    · have hz : z = 1073741825 := by
        rw [hmul, if_neg]
        intro hlt
        have h1 : 1073741825 / b * b + 1073741825 % b = 1073741825 := by rw [Int.mul_comm]; exact Int.mul_ediv_add_emod 1073741825 b
        have h2 := Int.emod_lt_of_pos 1073741825 hb
        have h3 : (1073741825 / b + 1) * b ≤ a * b := Int.mul_le_mul_of_nonneg_right (by omega) (by omega)
        rw [Int.add_mul] at h3
        omega
      subst hz
      clear hmul
      have hq0 : 0 ≤ 1073741825 / b := Int.ediv_nonneg (by omega) (by omega)
      have hq1 : 1073741825 / b ≤ 1073741825 := Int.ediv_le_self _ (by omega)
      go_enter Try.func58, Try.ntmps58
      go_wp2
      go_ret
      exact ⟨rfl, rfl⟩
    · have hz : z = a * b := by
        rw [hmul]
        have h3 : a * b ≤ 1073741825 / b * b := Int.mul_le_mul_of_nonneg_right (by omega) (by omega)
        have h4 := Int.ediv_mul_le 1073741825 (show b ≠ 0 by omega)
        split <;> omega
      have hz2 : 0 ≤ a * b ∧ a * b ≤ 1073741825 := by
        have h3 : a * b ≤ 1073741825 / b * b := Int.mul_le_mul_of_nonneg_right (by omega) (by omega)
        have h4 := Int.ediv_mul_le 1073741825 (show b ≠ 0 by omega)
        have := Int.mul_nonneg (show 0 ≤ a by omega) (show 0 ≤ b by omega)
        omega
      subst hz
      clear hmul
      have hq0 : 0 ≤ 1073741825 / b := Int.ediv_nonneg (by omega) (by omega)
      have hq1 : 1073741825 / b ≤ 1073741825 := Int.ediv_le_self _ (by omega)
      obtain ⟨hz3, hz4⟩ := hz2
      go_enter Try.func58, Try.ntmps58
      go_wp2
      go_ret
      exact ⟨rfl, rfl⟩
  · obtain rfl : b = 0 := by omega
    have hz : z = 0 := by rw [hmul, Int.mul_zero]; rfl
    subst hz
    clear hmul
    go_enter Try.func58, Try.ntmps58
    go_wp2
    go_ret
    exact ⟨by simp, rfl⟩

set_option maxRecDepth 100000 in
set_option maxHeartbeats 4000000 in
theorem symbol_term (x : Cx) (hg : GrD x.g (rankOf x.g)) (hrow : x.row.length ≤ 64) (s : Int) (f t : Nat) (w : World) (k a : K4 → Option Int) (h0 : 0 ≤ s) (h1 : s < x.g.S) (hft : f ≤ t) (ht : t ≤ x.row.length) (HC : Ch x w k a) (HK : Kn x k) (hT : s < x.g.T) :
    Calls Try.prog 32 #[.pointer (some ⟨x.cB, 0, none⟩), .int .i64 s, .int .i64 f, .int .i64 t] w (RetN x (numS x.g x.row s f t) a w) := by
  have e := numS_eq (row := x.row) hg h0 h1 hft ht
  unfold symEq at e
  rw [if_pos hT] at e
  have q0 := HC.cell 0
  have q4 := HC.cell 4
  simp [Cx.cells] at q0 q4
  have HC' := Keep.mk HC
  have HK' := Keep.mk HK
  clear HK
  by_cases h2 : t = f + 1
  · subst h2
    obtain ⟨ad, ea, hb, hc⟩ := HC.rr.int f (by omega)
    rw [ea] at q4
    have hrf : x.row[f]? = some x.row[f] := List.getElem?_eq_getElem _
    rw [hrf] at e
    generalize x.row[f] = y at *
    have t1 : (((f + 1 : Nat) : Int) - (f : Int) == 1) = true := by simp; omega
    have i1 : (0 : Int) ≤ f := by omega
    have i2 : (f : Int) < x.row.length := by omega
    clear HC hrf
    by_cases h3 : y = s
    · subst h3
      have HE : Keep (numS x.g x.row y f (f + 1) = 1) := ⟨by rw [e]; simp⟩
      clear e
      go_enter Try.func32, Try.ntmps32
      go_wp2
      go_ret
      refine ⟨?_, k, HC'.out, HK'.out, Gk.refl _ _⟩
      rw [HE.out, cap_one]; rfl
    · have t2 : (y == s) = false := by simpa using h3
      have HE : Keep (numS x.g x.row s f (f + 1) = 0) := ⟨by rw [e, if_neg]; rintro ⟨_, h⟩; injection h with h; exact h3 h⟩
      clear e h3
      go_enter Try.func32, Try.ntmps32
      go_wp2
      go_ret
      refine ⟨?_, k, HC'.out, HK'.out, Gk.refl _ _⟩
      rw [HE.out, cap_zero]; rfl
  · have t1 : ((t : Int) - (f : Int) == 1) = false := by simp; omega
    have HE : Keep (numS x.g x.row s f t = 0) := ⟨by rw [e, if_neg]; rintro ⟨h, _⟩; exact h2 h⟩
    clear e h2 HC
    go_enter Try.func32, Try.ntmps32
    go_wp2
    go_ret
    refine ⟨?_, k, HC'.out, HK'.out, Gk.refl _ _⟩
    rw [HE.out, cap_zero]; rfl

noncomputable def sumTo (g : Gr) (row : List Int) (s : Int) (f t m : Nat) : Nat := ((List.range m).map fun p => if headAt g p = s then numB g row p 0 f t else 0).sum
theorem sumTo_succ (g : Gr) (row : List Int) (s : Int) (f t m : Nat) : sumTo g row s f t (m + 1) = sumTo g row s f t m + (if headAt g m = s then numB g row m 0 f t else 0) := by
  unfold sumTo
  rw [List.range_succ, List.map_append, List.sum_append]
  simp
set_option maxRecDepth 100000 in
set_option maxHeartbeats 4000000 in
theorem symbol_head (x : Cx) (hg : GrD x.g (rankOf x.g)) (hrow : x.row.length ≤ 64) (D : Nat) (ih : ∀ D', D' < D → BodyC x D') (r : Nat) (s : Int) (f t : Nat) (w : World) (k a : K4 → Option Int) (hr : Rk x.g r s) (hrR : r ≤ rankOf x.g) (h0 : 0 ≤ s) (h1 : s < x.g.S) (hft : f ≤ t) (ht : t ≤ x.row.length) (hD : depS (rankOf x.g) r f t ≤ D) (HC : Ch x w k a) (HK : Kn x k) (hT : ¬ s < x.g.T) :
    Calls Try.prog 32 #[.pointer (some ⟨x.cB, 0, none⟩), .int .i64 s, .int .i64 f, .int .i64 t] w (RetN x (numS x.g x.row s f t) a w) := by
  have e : numS x.g x.row s f t = sumTo x.g x.row s f t x.g.ps.length := by rw [numS_eq (row := x.row) hg h0 h1 hft ht]; unfold symEq; rw [if_neg hT]; rfl
  have HE := Keep.mk e
  clear e
  have IH : Keep (∀ m, m < x.g.ps.length → headAt x.g m = s → ∀ W k', Ch x W k' a → Kn x k' → Calls Try.prog 43 #[.pointer (some ⟨x.cB, 0, none⟩), .int .i64 m, .int .i64 0, .int .i64 f, .int .i64 t] W (RetN x (numB x.g x.row m 0 f t) a W)) :=
    ⟨fun m hm hh W k' hC hK => (ih (depB (rankOf x.g) r 0 f t) (by unfold depS at hD; unfold depB; simp only [if_true]; omega)) r m 0 f t W k' a (fun _ => by rw [hh]; exact hr) hrR hm (Nat.zero_le _) hft ht (Nat.le_refl _) hC hK⟩
  have hTd : decide (s < x.g.T) = false := decide_eq_false hT
  have q0 := HC.cell 0
  have q3 := HC.cell 3
  simp [Cx.cells] at q0 q3
  obtain ⟨ad, eA0⟩ : ∃ ad, x.A = some ad := by obtain ⟨ad, _, _, e, _⟩ := HC.rp 0 hg.ok.n0; exact ⟨ad, e⟩
  rw [eA0] at q3
  have HA := Keep.mk eA0
  clear eA0
  have R0 := Keep.mk HC
  have hn64 : x.g.ps.length ≤ 64 := hg.ok.n1
  have HK' := Keep.mk HK
  have HNU := Keep.mk hg
  clear HK HC hr hD hg ih
  go_enter Try.func32, Try.ntmps32
  go_wp2
  go_loopg [9, 40] x.g.ps.length (fun gg s9 s40 wr => ∃ (m : Nat) (k' : K4 → Option Int), m ≤ x.g.ps.length ∧ x.g.ps.length - m ≤ gg ∧ s9 = .int .i64 (cap (sumTo x.g x.row s f t m)) ∧ s40 = .int .i64 (m : Int) ∧ Keep (Ch x wr k' a) ∧ Keep (Kn x k') ∧ Keep (Gk x w wr))
  case atStart => exact ⟨0, k, Nat.zero_le _, by omega, rfl, rfl, R0, HK', ⟨Gk.refl _ _⟩⟩
  case round =>
    clear R0 HK' q0 q3
    obtain ⟨m, k', hm, hgm, rfl, rfl, HC, HK, HG⟩ := hrel
    by_cases hlt : m < x.g.ps.length
    · obtain ⟨ad', Ab, cb, eA, hb, c0, c1, c2, hlb, hrb⟩ := HC.out.rp m hlt
      rw [HA.out] at eA
      injection eA with eA
      subst eA
      have hs := Keep.mk (sumTo_succ x.g x.row s f t m)
      have IHm := Keep.mk (IH.out m hlt)
      have hhd : headAt x.g m = x.g.ps[m].head := headAt_get hlt
      rw [hhd] at hs IHm
      generalize x.g.ps[m] = p at *
      obtain ⟨hd, bd, rt⟩ := p
      dsimp only at *
      have i1 : (0 : Int) ≤ m := by omega
      have i2 : (m : Int) < x.g.ps.length := by omega
      have hc1 := cap_range (sumTo x.g x.row s f t m)
      obtain ⟨wo, rfl⟩ : ∃ wo : World, wo = wr := ⟨_, rfl⟩
      have CA := Keep.mk (HC.out.alloc (.cells #[.int .i64 hd, .slice Ab bd.length cb, .bool rt] 55))
      have GA : Keep (Gk x wo (wo.alloc (.cells #[.int .i64 hd, .slice Ab bd.length cb, .bool rt] 55))) := ⟨Gk.below ((Below.refl _ _).alloc (Nat.le_refl _) _)⟩
      clear hhd
      by_cases hh : hd = s
      · subst hh
        have K1 := Keep.mk (IHm.out rfl _ k' CA.out HK.out)
        have hcb := cap_range (numB x.g x.row m 0 f t)
        have HS : Keep ((if cap (sumTo x.g x.row hd f t m) + cap (numB x.g x.row m 0 f t) < 1073741825 then cap (sumTo x.g x.row hd f t m) + cap (numB x.g x.row m 0 f t) else 1073741825) = cap (sumTo x.g x.row hd f t (m + 1))) := ⟨by rw [cap_add, hs.out, if_pos rfl]⟩
        unfold RetN at K1
        generalize cap (numB x.g x.row m 0 f t) = cb' at *
        generalize cap (sumTo x.g x.row hd f t m) = ca' at *
        go_wp2_with fail
        refine K1.out.mono ?_
        rintro e w' ⟨rfl, k2, C2, K2, G2⟩
        have CC2 := Keep.mk C2
        have KK2 := Keep.mk K2
        have GG2 : Keep (Gk x w w') := ⟨(HG.out.trans GA.out).trans G2⟩
        clear C2 K2 G2
        go_wp2
        all_goals
          go_roundg (x.g.ps.length - (m + 1))
          case measure => omega
          case rel => exact ⟨m + 1, k2, by omega, by omega, by rw [← HS.out]; first | rw [if_pos ‹_›] | rw [if_neg (by omega)], by go_num, CC2, KK2, GG2⟩
      · have tf : (hd == s) = false := by simpa using hh
        have HS : Keep (cap (sumTo x.g x.row s f t m) = cap (sumTo x.g x.row s f t (m + 1))) := ⟨by rw [hs.out, if_neg hh, Nat.add_zero]⟩
        go_wp2
        go_roundg (x.g.ps.length - (m + 1))
        case measure => omega
        case rel => exact ⟨m + 1, k', by omega, by omega, by rw [← HS.out], by go_num, CA, HK, ⟨HG.out.trans GA.out⟩⟩
    · obtain rfl : m = x.g.ps.length := by omega
      go_wp2
      go_ret
      exact ⟨by rw [HE.out]; rfl, k', HC.out, HK.out, HG.out⟩
theorem symbol_walk (x : Cx) (hg : GrD x.g (rankOf x.g)) (hrow : x.row.length ≤ 64) (D : Nat) (ih : ∀ D', D' < D → BodyC x D') : SymC x D := by
  intro r s f t w k a hr hrR h0 h1 hft ht hD HC HK
  by_cases hT : s < x.g.T
  · exact symbol_term x hg hrow s f t w k a h0 h1 hft ht HC HK hT
  · exact symbol_head x hg hrow D ih r s f t w k a hr hrR h0 h1 hft ht hD HC HK hT
end Go.Proofs.Ytadabkkkalgehaa.H
/-
  derive: body, walked.
-/
namespace Go.Proofs.Ytadabkkkalgehaa.H
open Go.RowKit
set_option linter.unusedVariables false
set_option linter.unusedSimpArgs false
attribute [local go_sem] min_ints min_pair

theorem bodyEq_short {g : Gr} {S : Int → Nat → Nat → Nat} {B : Nat → Nat → Nat → Nat → Nat} {p d f t : Nat} (h : t - f < (bodyAt g p).length - d) : bodyEq g S B p d f t = 0 := by unfold bodyEq; rw [if_pos h]
theorem bodyEq_end {g : Gr} {S : Int → Nat → Nat → Nat} {B : Nat → Nat → Nat → Nat → Nat} {p d f t : Nat} (h : ¬ t - f < (bodyAt g p).length - d) (h0 : (bodyAt g p).length - d = 0) : bodyEq g S B p d f t = if f = t then 1 else 0 := by unfold bodyEq; rw [if_neg h, if_pos h0]
theorem bodyEq_one {g : Gr} {S : Int → Nat → Nat → Nat} {B : Nat → Nat → Nat → Nat → Nat} {p d f t : Nat} (h : ¬ t - f < (bodyAt g p).length - d) (h1 : (bodyAt g p).length - d = 1) : bodyEq g S B p d f t = S ((bodyAt g p).getD d 0) f t := by unfold bodyEq; rw [if_neg h, if_neg (by omega), if_pos h1]
def cutTo (S : Int → Nat → Nat → Nat) (B : Nat → Nat → Nat → Nat → Nat) (y : Int) (p d f t m : Nat) : Nat := ((List.range m).map fun i => S y f (f + 1 + i) * B p (d + 1) (f + 1 + i) t).sum
theorem cutTo_succ (S : Int → Nat → Nat → Nat) (B : Nat → Nat → Nat → Nat → Nat) (y : Int) (p d f t m : Nat) : cutTo S B y p d f t (m + 1) = cutTo S B y p d f t m + S y f (f + 1 + m) * B p (d + 1) (f + 1 + m) t := by
  unfold cutTo
  rw [List.range_succ, List.map_append, List.sum_append]
  simp
theorem bodyEq_cut {g : Gr} {S : Int → Nat → Nat → Nat} {B : Nat → Nat → Nat → Nat → Nat} {p d f t : Nat} (h : ¬ t - f < (bodyAt g p).length - d) (h1 : 2 ≤ (bodyAt g p).length - d) : bodyEq g S B p d f t = cutTo S B ((bodyAt g p).getD d 0) p d f t (t + 1 - ((bodyAt g p).length - d) - f) := by
  unfold bodyEq cutTo; rw [if_neg h, if_neg (by omega), if_neg (by omega)]

/-- What memory holds of production p. -/
theorem Ch.prod {x : Cx} {w : World} {k a : K4 → Option Int} (h : Ch x w k a) {p : Nat} (hp : p < x.g.ps.length) : ∃ ad Ab cb, x.A = some ad ∧ w.cell? ⟨(ad.add (p * 3)).block, (ad.add (p * 3)).off + 1, none⟩ = some (.slice Ab (bodyAt x.g p).length cb) ∧ (bodyAt x.g p).length ≤ cb ∧ Rd eI 1 w x.B0 Ab (bodyAt x.g p) := by
  obtain ⟨ad, Ab, cb, e, _, _, c1, _, hl, hr⟩ := h.rp p hp
  rw [bodyAt_get hp]
  exact ⟨ad, Ab, cb, e, c1, hl, hr⟩

set_option maxRecDepth 100000 in
set_option maxHeartbeats 4000000 in
theorem body_easy (x : Cx) (hg : GrD x.g (rankOf x.g)) (hrow : x.row.length ≤ 64) (hb8 : ∀ q ∈ x.g.ps, q.body.length ≤ 8) (p d f t : Nat) (w : World) (k a : K4 → Option Int) (hp : p < x.g.ps.length) (hd : d ≤ (bodyAt x.g p).length) (hft : f ≤ t) (ht : t ≤ x.row.length) (HC : Ch x w k a) (HK : Kn x k) (he : t - f < (bodyAt x.g p).length - d ∨ (bodyAt x.g p).length - d = 0) :
    Calls Try.prog 43 #[.pointer (some ⟨x.cB, 0, none⟩), .int .i64 p, .int .i64 d, .int .i64 f, .int .i64 t] w (RetN x (numB x.g x.row p d f t) a w) := by
  have e := numB_eq (row := x.row) hg hp hd hft ht
  have q3 := HC.cell 3
  simp [Cx.cells] at q3
  obtain ⟨ad, Ab, cb, eA, c1, hlb, hrb⟩ := HC.prod hp
  have hl8 : (bodyAt x.g p).length ≤ 8 := by rw [bodyAt_get hp]; exact hb8 _ (List.getElem_mem hp)
  rw [eA] at q3
  have HC' := Keep.mk HC
  have HK' := Keep.mk HK
  have i1 : (0 : Int) ≤ p := by omega
  have i2 : (p : Int) < x.g.ps.length := by omega
  by_cases h1 : t - f < (bodyAt x.g p).length - d
  · rw [bodyEq_short h1] at e
    have HE := Keep.mk e
    generalize bodyAt x.g p = b at *
    have t1 : decide ((t : Int) - (f : Int) < (b.length : Int) - (d : Int)) = true := decide_eq_true (by omega)
    have t2 : (t : Int) - (f : Int) < (b.length : Int) - (d : Int) := by omega
    clear e HC HK hrb he h1 hlb
    go_enter Try.func43, Try.ntmps43
    go_wp2
    go_ret
    refine ⟨?_, k, HC'.out, HK'.out, Gk.refl _ _⟩
    rw [HE.out, cap_zero]; rfl
  · have h0 : (bodyAt x.g p).length - d = 0 := by omega
    rw [bodyEq_end h1 h0] at e
    generalize bodyAt x.g p = b at *
    have t1 : decide ((t : Int) - (f : Int) < (b.length : Int) - (d : Int)) = false := decide_eq_false (by omega)
    have t2 : ¬ (t : Int) - (f : Int) < (b.length : Int) - (d : Int) := by omega
    have t3 : ((b.length : Int) - (d : Int) == 0) = true := by simp; omega
    by_cases h2 : f = t
    · rw [if_pos h2] at e
      have HE := Keep.mk e
      have t4 : ((f : Int) == (t : Int)) = true := by simp [h2]
      clear e HC HK hrb he h1 hlb h0 h2
      go_enter Try.func43, Try.ntmps43
      go_wp2
      go_ret
      refine ⟨?_, k, HC'.out, HK'.out, Gk.refl _ _⟩
      rw [HE.out, cap_one]; rfl
    · rw [if_neg h2] at e
      have HE := Keep.mk e
      have t4 : ((f : Int) == (t : Int)) = false := by simp; omega
      clear e HC HK hrb he h1 hlb h0 h2
      go_enter Try.func43, Try.ntmps43
      go_wp2
      go_ret
      refine ⟨?_, k, HC'.out, HK'.out, Gk.refl _ _⟩
      rw [HE.out, cap_zero]; rfl

/-- What a key asks of a body. -/
theorem key_ok {x : Cx} (hg : GrD x.g (rankOf x.g)) (hrow : x.row.length ≤ 64) {p d f t : Nat} (hp : p < x.g.ps.length) (hd : d ≤ 8) (hf : f ≤ 64) (ht : t ≤ 64) : stretchE.ok ⟨(p : Int), (d : Int), (f : Int), (t : Int)⟩ ∧ (⟨(p : Int), (d : Int), (f : Int), (t : Int)⟩ : K4) ∈ boxK := by
  have := hg.ok.n1
  have z : I64 (p : Int) ∧ I64 (d : Int) ∧ I64 (f : Int) ∧ I64 (t : Int) := ⟨i64_small (by omega) (by omega), i64_small (by omega) (by omega), i64_small (by omega) (by omega), i64_small (by omega) (by omega)⟩
  exact ⟨z, mem_boxK (by omega) (by omega) (by omega) (by omega)⟩
theorem Kn.get {x : Cx} {k : K4 → Option Int} (h : Kn x k) {p d f t : Nat} {v : Int} (hv : k ⟨p, d, f, t⟩ = some v) : v = cap (numB x.g x.row p d f t) := by
  obtain ⟨p', d', f', t', e, _, _, _, _, e2⟩ := h _ _ hv
  simp only [K4.mk.injEq, Int.natCast_inj] at e
  obtain ⟨rfl, rfl, rfl, rfl⟩ := e
  exact e2
theorem Kn.put {x : Cx} {k : K4 → Option Int} (h : Kn x k) {p d f t : Nat} (hp : p < x.g.ps.length) (hd : d ≤ (bodyAt x.g p).length) (hft : f ≤ t) (ht : t ≤ x.row.length) : Kn x (put k ⟨p, d, f, t⟩ (some (cap (numB x.g x.row p d f t)))) := by
  intro q v hv
  by_cases e : q = ⟨p, d, f, t⟩
  · subst e
    rw [put_same] at hv
    injection hv with hv
    exact ⟨p, d, f, t, rfl, hp, hd, hft, ht, hv.symm⟩
  · rw [put_other _ _ e] at hv
    exact h q v hv

set_option maxRecDepth 100000 in
set_option maxHeartbeats 8000000 in
theorem body_hard (x : Cx) (hg : GrD x.g (rankOf x.g)) (hrow : x.row.length ≤ 64) (hb8 : ∀ q ∈ x.g.ps, q.body.length ≤ 8) (D : Nat) (ih : ∀ D', D' < D → SymC x D' ∧ BodyC x D') (r p d f t : Nat) (w : World) (k a : K4 → Option Int) (hr : d = 0 → Rk x.g r (headAt x.g p)) (hrR : r ≤ rankOf x.g) (hp : p < x.g.ps.length) (hd : d ≤ (bodyAt x.g p).length) (hft : f ≤ t) (ht : t ≤ x.row.length) (hD : depB (rankOf x.g) r d f t ≤ D) (HC : Ch x w k a) (HK : Kn x k) (h1 : ¬ t - f < (bodyAt x.g p).length - d) (h2 : 1 ≤ (bodyAt x.g p).length - d) :
    Calls Try.prog 43 #[.pointer (some ⟨x.cB, 0, none⟩), .int .i64 p, .int .i64 d, .int .i64 f, .int .i64 t] w (RetN x (numB x.g x.row p d f t) a w) := by
  have hl8 : (bodyAt x.g p).length ≤ 8 := by rw [bodyAt_get hp]; exact hb8 _ (List.getElem_mem hp)
  obtain ⟨hkey, hbox⟩ := key_ok hg hrow hp (show d ≤ 8 by omega) (show f ≤ 64 by omega) (show t ≤ 64 by omega)
  have q3 := HC.cell 3
  have q2 := HC.cell 5
  simp [Cx.cells] at q3 q2
  obtain ⟨ad, Ab, cb, eA, c1, hlb, hrb⟩ := HC.prod hp
  rw [eA] at q3
  obtain ⟨ad2, e2, hb2, hc2⟩ := hrb.int d (by omega)
  have hy : (bodyAt x.g p).getD d 0 = (bodyAt x.g p)[d]'(by omega) := by rw [List.getD_eq_getElem?_getD, List.getElem?_eq_getElem (by omega)]; rfl
  have hyr := hg.body hp (show d < (bodyAt x.g p).length by omega)
  rw [← hy] at hc2
  clear hy
  subst e2
  have i1 : (0 : Int) ≤ p := by omega
  have i2 : (p : Int) < x.g.ps.length := by omega
  have i3 : (0 : Int) ≤ d := by omega
  have i4 : (d : Int) < (bodyAt x.g p).length := by omega
  have t1 : decide ((t : Int) - (f : Int) < ((bodyAt x.g p).length : Int) - (d : Int)) = false := decide_eq_false (by omega)
  have t2 : ¬ (t : Int) - (f : Int) < ((bodyAt x.g p).length : Int) - (d : Int) := by omega
  have t3 : (((bodyAt x.g p).length : Int) - (d : Int) == 0) = false := by simp; omega
  have CA := Keep.mk (HC.alloc (.cells #[.int .i64 p, .int .i64 d, .int .i64 f, .int .i64 t] 74))
  have HK' := Keep.mk HK
  have LK := CA.out.drew.mpk.look_ok stretch_law Try.underlying69 Try.underlying3 (zero_int _) ⟨p, d, f, t⟩ hkey
  simp only [stretchE, K4.v] at LK
  have nB : x.cB < w.heap.size := HC.blk.lt
  cases hm : k ⟨p, d, f, t⟩ with
  | some v =>
    have hv := Keep.mk (HK.get hm)
    rw [hm] at LK
    simp only [Option.getD_some, Option.isSome_some] at LK
    generalize bodyAt x.g p = b at *
    clear HC HK ih hg hb8 hrb hm h1 h2 hD
    go_enter Try.func43, Try.ntmps43
    go_wp2
    go_region_held3 (fun w' => w'.cell? ⟨x.cB, 5, none⟩ = some (.map (some x.kB)) ∧ w'.cell? ⟨w.heap.size, 0, none⟩ = some (.int .i64 p) ∧ w'.cell? ⟨w.heap.size, 1, none⟩ = some (.int .i64 d) ∧ w'.cell? ⟨w.heap.size, 2, none⟩ = some (.int .i64 f) ∧ w'.cell? ⟨w.heap.size, 3, none⟩ = some (.int .i64 t) ∧ (Instr.lookup 69 (.map (some x.kB)) (.agg #[.int .i64 p, .int .i64 d, .int .i64 f, .int .i64 t]) true).run Try.prog w' = .ok (.tuple #[.int .i64 v, .bool true]) w')
      (go_keep) (fail)
    go_wp2
    go_ret
    exact ⟨by rw [hv.out]; rfl, k, CA.out.drew, HK'.out, Gk.below (below_drew1 ((Below.refl _ _).alloc (Nat.le_refl _) _))⟩
  | none =>
    rw [hm] at LK
    simp only [Option.getD_none, Option.isSome_none] at LK
    have HE := numB_eq (row := x.row) hg hp hd hft ht
    have H1 : Keep ((bodyAt x.g p).length - d = 1 → ∀ W k', Ch x W k' a → Kn x k' → Calls Try.prog 32 #[.pointer (some ⟨x.cB, 0, none⟩), .int .i64 ((bodyAt x.g p).getD d 0), .int .i64 f, .int .i64 t] W (RetN x (numS x.g x.row ((bodyAt x.g p).getD d 0) f t) a W)) := ⟨fun hl W k' hC hK => by
      by_cases hd0 : d = 0
      · subst hd0
        obtain ⟨r', rfl, hr'⟩ := hg.unit hp (hr rfl) (by omega)
        exact (ih (depS (rankOf x.g) r' f t) (by unfold depB at hD; simp only [if_true] at hD; unfold depS; omega)).1 r' _ f t W k' a hr' (by omega) hyr.1 hyr.2 hft ht (Nat.le_refl _) hC hK
      · exact (ih (depS (rankOf x.g) (rankOf x.g) f t) (by unfold depB at hD; rw [if_neg hd0] at hD; unfold depS; omega)).1 (rankOf x.g) _ f t W k' a (hg.rk _ hyr.1 hyr.2) (Nat.le_refl _) hyr.1 hyr.2 hft ht (Nat.le_refl _) hC hK⟩
    have hbase : depB (rankOf x.g) 0 d f t ≤ D := by unfold depB at hD ⊢; split at hD <;> rename_i hd0 <;> simp only [hd0, if_true, if_false] <;> omega
    have H2 : Keep (∀ c, f < c → c < t → ∀ W k', Ch x W k' a → Kn x k' → Calls Try.prog 32 #[.pointer (some ⟨x.cB, 0, none⟩), .int .i64 ((bodyAt x.g p).getD d 0), .int .i64 f, .int .i64 c] W (RetN x (numS x.g x.row ((bodyAt x.g p).getD d 0) f c) a W)) := ⟨fun c hc1 hc2 W k' hC hK => by
      have hlt := (dep_short (R := rankOf x.g) (r := rankOf x.g) (d := d) (f := f) (t := t) (f' := f) (t' := c) (by omega) (Nat.le_refl _)).1
      exact (ih (depS (rankOf x.g) (rankOf x.g) f c) (by omega)).1 (rankOf x.g) _ f c W k' a (hg.rk _ hyr.1 hyr.2) (Nat.le_refl _) hyr.1 hyr.2 (by omega) (by omega) (Nat.le_refl _) hC hK⟩
    have H3 : Keep (∀ c, f < c → c ≤ t → d + 1 ≤ (bodyAt x.g p).length → ∀ W k', Ch x W k' a → Kn x k' → Calls Try.prog 43 #[.pointer (some ⟨x.cB, 0, none⟩), .int .i64 p, .int .i64 ((d : Int) + 1), .int .i64 c, .int .i64 t] W (RetN x (numB x.g x.row p (d + 1) c t) a W)) := ⟨fun c hc1 hc2 hd1 W k' hC hK => by
      have hlt : depB (rankOf x.g) 0 (d + 1) c t < D := by
        have h1 : (t - c) * (2 * rankOf x.g + 4) + (2 * rankOf x.g + 4) ≤ (t - f) * (2 * rankOf x.g + 4) := by
          have := Nat.mul_le_mul_right (2 * rankOf x.g + 4) (show t - c + 1 ≤ t - f by omega)
          rw [Nat.add_mul] at this
          omega
        unfold depB at hbase ⊢
        rw [if_neg (by omega)]
        split at hbase <;> omega
      exact (ih _ hlt).2 0 p (d + 1) c t W k' a (fun h => by omega) (Nat.zero_le _) hp hd1 (by omega) ht (Nat.le_refl _) hC hK⟩
    have HP : Keep (∀ k', Kn x k' → Kn x (put k' ⟨p, d, f, t⟩ (some (cap (numB x.g x.row p d f t))))) := ⟨fun k' h => h.put hp hd hft ht⟩
    have HL : Keep (Maps.Keyed Try.prog 74 ∧ stretchE.ok ⟨(p : Int), (d : Int), (f : Int), (t : Int)⟩ ∧ (⟨(p : Int), (d : Int), (f : Int), (t : Int)⟩ : K4) ∈ boxK) := ⟨stretch_law, hkey, hbox⟩
    have HE1 : Keep ((bodyAt x.g p).length - d = 1 → numB x.g x.row p d f t = numS x.g x.row ((bodyAt x.g p).getD d 0) f t) := ⟨fun hl => by rw [HE, bodyEq_one h1 hl]⟩
    have HE2 : Keep (2 ≤ (bodyAt x.g p).length - d → numB x.g x.row p d f t = cutTo (numS x.g x.row) (numB x.g x.row) ((bodyAt x.g p).getD d 0) p d f t (t + 1 - ((bodyAt x.g p).length - d) - f)) := ⟨fun hl => by rw [HE, bodyEq_cut h1 hl]⟩
    have HS : Keep (∀ m, cutTo (numS x.g x.row) (numB x.g x.row) ((bodyAt x.g p).getD d 0) p d f t (m + 1) = cutTo (numS x.g x.row) (numB x.g x.row) ((bodyAt x.g p).getD d 0) p d f t m + numS x.g x.row ((bodyAt x.g p).getD d 0) f (f + 1 + m) * numB x.g x.row p (d + 1) (f + 1 + m) t) := ⟨fun m => cutTo_succ _ _ _ _ _ _ _ _⟩
    have HRd := Keep.mk hrb
    have hsz := CA.out.drew
    have BK : Keep (Blk ((w.alloc (.cells #[.int .i64 p, .int .i64 d, .int .i64 f, .int .i64 t] 74)).drew) w.heap.size 74 #[.int .i64 p, .int .i64 d, .int .i64 f, .int .i64 t]) := ⟨(Blk.new _ _ _).drew⟩
    have GA : Keep (Gk x w ((w.alloc (.cells #[.int .i64 p, .int .i64 d, .int .i64 f, .int .i64 t] 74)).drew)) := ⟨Gk.below (below_drew1 ((Below.refl _ _).alloc (Nat.le_refl _) _))⟩
    have hkk : x.kB ≠ w.heap.size := by have := HC.mpk.lt; omega
    have hce : Keep (w.cell? (ad2.add d) = some (.int .i64 ((bodyAt x.g p).getD d 0)) ∧ ad2.block < x.B0) := ⟨hc2, hb2⟩
    generalize hbb : bodyAt x.g p = b at *
    have HBB := Keep.mk hbb
    generalize b.getD d 0 = y at *
    generalize hN : numB x.g x.row p d f t = N at *
    have HN := Keep.mk hN
    clear HC HK ih hg hb8 hrb hm hD HE hbase hbb hN hyr hr hbox hkey hsz
    go_enter Try.func43, Try.ntmps43
    go_upto_region 10 with fail
    go_region_held3 (fun w' => w'.cell? ⟨x.cB, 5, none⟩ = some (.map (some x.kB)) ∧ w'.cell? ⟨w.heap.size, 0, none⟩ = some (.int .i64 p) ∧ w'.cell? ⟨w.heap.size, 1, none⟩ = some (.int .i64 d) ∧ w'.cell? ⟨w.heap.size, 2, none⟩ = some (.int .i64 f) ∧ w'.cell? ⟨w.heap.size, 3, none⟩ = some (.int .i64 t) ∧ (Instr.lookup 69 (.map (some x.kB)) (.agg #[.int .i64 p, .int .i64 d, .int .i64 f, .int .i64 t]) true).run Try.prog w' = .ok (.tuple #[.int .i64 0, .bool false]) w')
      (go_keep) (fail)
    generalize hw1 : (w.alloc (.cells #[.int .i64 p, .int .i64 d, .int .i64 f, .int .i64 t] 74)).drew = w1 at *
    generalize hkA : w.heap.size = kA at *
    have HW1 := Keep.mk hw1
    clear LK q2 q3 c1 hc2 hw1
    have R1 := Keep.mk (HRd.out.below (show Below x.B0 w w1 from by
      have hh := CA.out.size
      rw [← HW1.out]
      exact (below_drew1 ((Below.refl _ _).alloc (Nat.le_refl _) _)).mono (by rw [hkA]; exact Nat.le_of_lt (Nat.lt_of_le_of_lt CA.out.nc nB))))
    have C1 : Keep (Ch x w1 k a) := ⟨by rw [← HW1.out]; exact CA.out.drew⟩
    have hc1 := cell_below hce.out.1 (show Below x.B0 w w1 from by
      rw [← HW1.out]
      exact (below_drew1 ((Below.refl _ _).alloc (Nat.le_refl _) _)).mono (by rw [hkA]; exact Nat.le_of_lt (Nat.lt_of_le_of_lt CA.out.nc nB))) (by rw [add_block]; exact hce.out.2)
    clear CA
    go_upto_if 61 with fail
    go_cut [16] (fun s16 wx => s16 = .int .i64 (cap N) ∧ Keep (∃ k', Ch x wx k' a ∧ Kn x k' ∧ Gk x w wx ∧ Blk wx kA 74 #[.int .i64 p, .int .i64 d, .int .i64 f, .int .i64 t]))
    case first =>
      by_cases h3 : b.length - d = 1
      · have t4 : ((b.length : Int) - (d : Int) == 1) = true := by simp; omega
        have K1 := Keep.mk (H1.out h3 w1 k C1.out HK'.out)
        rw [← HE1.out h3] at K1
        unfold RetN at K1
        generalize cap N = cN at *
        clear H1 H2 H3 HE1 HE2 HS h3
        go_wp2_with fail
        refine K1.out.mono ?_
        rintro e w2 ⟨rfl, k2, C2, K2, G2⟩
        have Z : Keep (∃ k', Ch x w2 k' a ∧ Kn x k' ∧ Gk x w w2 ∧ Blk w2 kA 74 #[.int .i64 p, .int .i64 d, .int .i64 f, .int .i64 t]) := ⟨k2, C2, K2, GA.out.trans G2, G2.blk BK.out (fun e => hkk e.symm)⟩
        clear C2 K2 G2
        go_wp2_with fail
        go_meet
        exact ⟨rfl, Z⟩
      · have t4 : ((b.length : Int) - (d : Int) == 1) = false := by simp; omega
        have hle2 : 2 ≤ b.length - d := by omega
        have HE3 := Keep.mk (HE2.out hle2)
        clear H1 HE1 HE2
        have hBk : Keep (x.B0 ≤ x.kB ∧ x.B0 ≤ w.heap.size) := ⟨C1.out.nk, by have := C1.out.nc; omega⟩
        have Z0 : Keep (Ch x w1 k a ∧ Kn x k ∧ Gk x w w1 ∧ Blk w1 kA 74 #[.int .i64 p, .int .i64 d, .int .i64 f, .int .i64 t]) := ⟨C1.out, HK'.out, GA.out, BK.out⟩
        go_wp2_with fail
        clear hc1
        go_loopg [16, 17] 66 (fun gg s16 s17 wr => ∃ (c : Nat) (k' : K4 → Option Int), f + 1 ≤ c ∧ c + (b.length - d) ≤ t + 2 ∧ 66 - c ≤ gg ∧ s16 = .int .i64 (cap (cutTo (numS x.g x.row) (numB x.g x.row) y p d f t (c - (f + 1)))) ∧ s17 = .int .i64 (c : Int) ∧ Keep (Ch x wr k' a ∧ Kn x k' ∧ Gk x w wr ∧ Blk wr kA 74 #[.int .i64 p, .int .i64 d, .int .i64 f, .int .i64 t]))
        case atStart => exact ⟨f + 1, k, Nat.le_refl _, by omega, by omega, by rw [Nat.sub_self]; rfl, by go_num, Z0⟩
        case round =>
          clear Z0 C1 HK' BK R1
          obtain ⟨c, k', hc1, hc2, hgc, rfl, rfl, HZ⟩ := hrel
          by_cases hgo : c + (b.length - d) ≤ t + 1
          · have u1 : (c : Int) ≤ (t : Int) - ((b.length : Int) - (d : Int)) + 1 := by omega
            have hcy := cell_below hce.out.1 (HZ.out.2.2.1.low hBk.out.1 hBk.out.2) (by rw [add_block]; exact hce.out.2)
            have K2 := Keep.mk (H2.out c (by omega) (by omega) wr k' HZ.out.1 HZ.out.2.1)
            have hs := HS.out (c - (f + 1))
            rw [show f + 1 + (c - (f + 1)) = c from by omega, show c - (f + 1) + 1 = c + 1 - (f + 1) from by omega] at hs
            have Hs := Keep.mk hs
            clear hs
            unfold RetN at K2
            have hca := cap_range (cutTo (numS x.g x.row) (numB x.g x.row) y p d f t (c - (f + 1)))
            have hcs := cap_range (numS x.g x.row y f c)
            by_cases hpos : 0 < numS x.g x.row y f c
            · have hpc := (cap_pos _).2 hpos
              have KT := Keep.mk fun W => times_any (numS x.g x.row y f c) (numB x.g x.row p (d + 1) c t) W
              have HF : Keep ((if cap (cutTo (numS x.g x.row) (numB x.g x.row) y p d f t (c - (f + 1))) + cap (numS x.g x.row y f c * numB x.g x.row p (d + 1) c t) < 1073741825 then cap (cutTo (numS x.g x.row) (numB x.g x.row) y p d f t (c - (f + 1))) + cap (numS x.g x.row y f c * numB x.g x.row p (d + 1) c t) else 1073741825) = cap (cutTo (numS x.g x.row) (numB x.g x.row) y p d f t (c + 1 - (f + 1)))) := ⟨by rw [cap_add, Hs.out]⟩
              have hcm := cap_range (numS x.g x.row y f c * numB x.g x.row p (d + 1) c t)
              have K3 := Keep.mk (H3.out c (by omega) (by omega) (by omega))
              unfold RetN at K3
              clear Hs hpos
              generalize cap (numS x.g x.row y f c * numB x.g x.row p (d + 1) c t) = cm at *
              generalize cap (numS x.g x.row y f c) = cs at *
              generalize cap (numB x.g x.row p (d + 1) c t) = cn at *
              generalize cap (cutTo (numS x.g x.row) (numB x.g x.row) y p d f t (c - (f + 1))) = ca at *
              go_wp2_with fail
              refine K2.out.mono ?_
              rintro e w2 ⟨rfl, k2, C2, KK2, G2⟩
              have Z2 : Keep (Ch x w2 k2 a ∧ Kn x k2 ∧ Gk x w w2 ∧ Blk w2 kA 74 #[.int .i64 p, .int .i64 d, .int .i64 f, .int .i64 t]) := ⟨C2, KK2, HZ.out.2.2.1.trans G2, G2.blk HZ.out.2.2.2 (fun e => hkk e.symm)⟩
              clear C2 KK2 G2 HZ hcy
              go_wp2_with fail
              refine (K3.out w2 k2 Z2.out.1 Z2.out.2.1).mono ?_
              rintro e w3 ⟨rfl, k3, C3, KK3, G3⟩
              have Z3 : Keep (Ch x w3 k3 a ∧ Kn x k3 ∧ Gk x w w3 ∧ Blk w3 kA 74 #[.int .i64 p, .int .i64 d, .int .i64 f, .int .i64 t]) := ⟨C3, KK3, Z2.out.2.2.1.trans G3, G3.blk Z2.out.2.2.2 (fun e => hkk e.symm)⟩
              clear C3 KK3 G3 Z2
              go_wp2_with fail
              refine (KT.out w3).mono ?_
              rintro e w4 ⟨rfl, rfl⟩
              go_wp2_with fail
              all_goals
                go_roundg (66 - (c + 1))
                case measure => omega
                case rel => exact ⟨c + 1, k3, by omega, by omega, by omega, by rw [← HF.out]; first | rw [if_pos ‹_›] | rw [if_neg (by omega)], by go_num, Z3⟩
            · have hz : numS x.g x.row y f c = 0 := by omega
              have HF : Keep (cap (cutTo (numS x.g x.row) (numB x.g x.row) y p d f t (c - (f + 1))) = cap (cutTo (numS x.g x.row) (numB x.g x.row) y p d f t (c + 1 - (f + 1)))) := ⟨by rw [Hs.out, hz, Nat.zero_mul]; rfl⟩
              rw [hz, cap_zero] at K2
              clear Hs hpos hz
              generalize cap (cutTo (numS x.g x.row) (numB x.g x.row) y p d f t (c - (f + 1))) = ca at *
              go_wp2_with fail
              refine K2.out.mono ?_
              rintro e w2 ⟨rfl, k2, C2, KK2, G2⟩
              have Z2 : Keep (Ch x w2 k2 a ∧ Kn x k2 ∧ Gk x w w2 ∧ Blk w2 kA 74 #[.int .i64 p, .int .i64 d, .int .i64 f, .int .i64 t]) := ⟨C2, KK2, HZ.out.2.2.1.trans G2, G2.blk HZ.out.2.2.2 (fun e => hkk e.symm)⟩
              clear C2 KK2 G2 HZ hcy
              go_wp2_with fail
              go_roundg (66 - (c + 1))
              case measure => omega
              case rel => exact ⟨c + 1, k2, by omega, by omega, by omega, by rw [← HF.out], by go_num, Z2⟩
          · have u1 : ¬ (c : Int) ≤ (t : Int) - ((b.length : Int) - (d : Int)) + 1 := by omega
            have HN2 : Keep (cap (cutTo (numS x.g x.row) (numB x.g x.row) y p d f t (c - (f + 1))) = cap N) := ⟨by rw [HE3.out, show c - (f + 1) = t + 1 - (b.length - d) - f from by omega]⟩
            go_wp2_with fail
            go_meet
            exact ⟨by rw [← HN2.out], ⟨k', HZ.out⟩⟩
    case rest =>
      clear H1 H2 H3 HE1 HE2 HS
      obtain ⟨rfl, HZ⟩ := hcut
      obtain ⟨k', CZ, KZ, GZ, BZ⟩ := HZ.out
      obtain ⟨HL1, HL2, HL3⟩ := HL.out
      have HR1 := cap_range N
      obtain ⟨w9, hrun, M9, G9⟩ := CZ.drew.mpk.store HL1 Try.underlying69 Try.underlying3 boxK_len ⟨p, d, f, t⟩ HL2 HL3 (cap N) (i64_small (by omega) (by omega))
      have C9 := Keep.mk (CZ.drew.setK M9 G9)
      have K9 := Keep.mk (HP.out k' KZ)
      simp only [stretchE, K4.v] at hrun
      have Gd : Keep (Gk x w w9) := ⟨(GZ.trans (Gk.below (below_drew1 (Below.refl _ _)))).trans G9⟩
      have q2 := CZ.cell 5
      simp [Cx.cells] at q2
      have b0 := BZ.cell 0
      have b1 := BZ.cell 1
      have b2 := BZ.cell 2
      have b3 := BZ.cell 3
      simp at b0 b1 b2 b3
      have r2 := C9.out.cell 5
      simp [Cx.cells] at r2
      have B9 := Gk.blk (x := x) G9 BZ.drew (fun e => hkk e.symm)
      have d0 := B9.cell 0
      have d1 := B9.cell 1
      have d2 := B9.cell 2
      have d3 := B9.cell 3
      simp at d0 d1 d2 d3
      clear B9
      generalize hcn : cap N = cN at *
      have Hcn := Keep.mk hcn
      clear hcn
      clear HZ CZ KZ GZ BZ M9 G9 HL HP HRd HBB hce
      go_wp2_with fail
      go_region_held3 (fun w' => w'.cell? ⟨x.cB, 5, none⟩ = some (.map (some x.kB)) ∧ w'.cell? ⟨kA, 0, none⟩ = some (.int .i64 p) ∧ w'.cell? ⟨kA, 1, none⟩ = some (.int .i64 d) ∧ w'.cell? ⟨kA, 2, none⟩ = some (.int .i64 f) ∧ w'.cell? ⟨kA, 3, none⟩ = some (.int .i64 t))
        (first | exact ⟨q2, b0, b1, b2, b3⟩ | exact ⟨r2, d0, d1, d2, d3⟩) (fail)
      go_wp2
      go_ret
      exact ⟨by rw [Hcn.out]; rfl, _, C9.out, K9.out, Gd.out⟩
theorem body_walk (x : Cx) (hg : GrD x.g (rankOf x.g)) (hrow : x.row.length ≤ 64) (hb8 : ∀ q ∈ x.g.ps, q.body.length ≤ 8) (D : Nat) (ih : ∀ D', D' < D → SymC x D' ∧ BodyC x D') : BodyC x D := by
  intro r p d f t w k a hr hrR hp hd hft ht hD HC HK
  by_cases he : t - f < (bodyAt x.g p).length - d ∨ (bodyAt x.g p).length - d = 0
  · exact body_easy x hg hrow hb8 p d f t w k a hp hd hft ht HC HK he
  · exact body_hard x hg hrow hb8 D ih r p d f t w k a hr hrR hp hd hft ht hD HC HK (fun h => he (.inl h)) (by omega)
theorem derive_walk (x : Cx) (hg : GrD x.g (rankOf x.g)) (hrow : x.row.length ≤ 64) (hb8 : ∀ q ∈ x.g.ps, q.body.length ≤ 8) (D : Nat) : SymC x D ∧ BodyC x D := by
  induction D using Nat.strongRecOn with
  | _ D ih => exact ⟨symbol_walk x hg hrow D (fun D' h => (ih D' h).2), body_walk x hg hrow hb8 D ih⟩
/-- How many trees a symbol has of a stretch. -/
theorem symbol_any (x : Cx) (hg : GrD x.g (rankOf x.g)) (hrow : x.row.length ≤ 64) (hb8 : ∀ q ∈ x.g.ps, q.body.length ≤ 8) (s : Int) (f t : Nat) (w : World) (k a : K4 → Option Int) (h0 : 0 ≤ s) (h1 : s < x.g.S) (hft : f ≤ t) (ht : t ≤ x.row.length) (HC : Ch x w k a) (HK : Kn x k) :
    Calls Try.prog 32 #[.pointer (some ⟨x.cB, 0, none⟩), .int .i64 s, .int .i64 f, .int .i64 t] w (RetN x (numS x.g x.row s f t) a w) :=
  (derive_walk x hg hrow hb8 (depS (rankOf x.g) (rankOf x.g) f t)).1 (rankOf x.g) s f t w k a (hg.rk s h0 h1) (Nat.le_refl _) h0 h1 hft ht (Nat.le_refl _) HC HK
end Go.Proofs.Ytadabkkkalgehaa.H
