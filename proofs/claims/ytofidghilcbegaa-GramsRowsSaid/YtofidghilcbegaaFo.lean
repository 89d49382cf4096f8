/-
  grams.Of and grams.First, walked.
-/
import Derived.Test.YtofidghilcbegaaFj
namespace Go.Proofs.Ytofidghilcbegaa.H
open Go.RowKit
set_option linter.unusedVariables false
set_option linter.unusedSimpArgs false

theorem checkI_zero {g : Gr} (h : checkI g = 0) : numbersB g = true ∧ (∀ p ∈ g.ps, 0 < p.body.length ∧ p.body.length ≤ 8) ∧ usedB g = true ∧ roundB g = false := by
  unfold checkI at h
  by_cases h1 : numbersB g = false
  · rw [if_pos h1] at h; cases h
  rw [if_neg h1] at h
  by_cases h2 : g.ps.any (fun p => decide (8 < p.body.length)) = true
  · rw [if_pos h2] at h; cases h
  rw [if_neg h2] at h
  by_cases h3 : g.ps.any (fun p => decide (p.body.length = 0)) = true
  · rw [if_pos h3] at h; cases h
  rw [if_neg h3] at h
  by_cases h4 : usedB g = false
  · rw [if_pos h4] at h; cases h
  rw [if_neg h4] at h
  by_cases h5 : roundB g = true
  · rw [if_pos h5] at h; cases h
  refine ⟨by simpa using h1, fun p hp => ?_, by simpa using h4, by simpa using h5⟩
  simp only [List.any_eq_true, decide_eq_true_eq, not_exists, not_and] at h2 h3
  have := h2 p hp
  have := h3 p hp
  omega
theorem checkI_cases (g : Gr) : 0 ≤ checkI g ∧ checkI g ≤ 132 := by
  unfold checkI
  repeat (split <;> first | decide | skip)
theorem GrIn.ok {g : Gr} (h : checkI g = 0) : GrOk g := (numbersB_ok (checkI_zero h).1).1

def ofL (g : Gr) (s : Int) : List Int := ((List.range g.ps.length).filter fun i => decide ((g.ps.getD i ⟨0, [], false⟩).head = s)).map Int.ofNat
def ofR (g : Gr) (s : Int) : List Int × Int := if checkI g = 0 then (if g.T ≤ s ∧ s < g.S then (ofL g s, 0) else ([], 2)) else ([], checkI g)
def firstR (g : Gr) (s : Int) : List Int × Int := if checkI g = 0 then (if 0 ≤ s ∧ s < g.S then (tlist (gn (firstEnd g) s), 0) else ([], 2)) else ([], checkI g)

/-- What Of, First, Follow hand back. -/
def ListErr (w : World) (r : List Int × Int) (e : Ending) (w' : World) : Prop :=
  ∃ v, e = .returned (.tuple #[v, .int .i64 r.2]) ∧ OwnI w' w.heap.size v r.1 ∧ Below w.heap.size w w'

set_option maxRecDepth 100000 in
set_option maxHeartbeats 2000000 in
theorem first_any (g : Gr) (s : Int) (A : Option Addr) (c : Nat) (w : World) (h : GrIn w g A c) :
    Calls Try.prog 18 #[grV g A c, .int .i64 s] w (ListErr w (firstR g s)) := by
  have H0 := Keep.mk h
  clear h
  have K1 := Keep.mk fun W (hW : Below w.heap.size w W) => check_any g A c W (H0.out.below hW)
  have K2 : Keep (checkI g = 0 → ∀ W, Below w.heap.size w W → Calls Try.prog 42 #[grV g A c] W _) := ⟨fun hz W hW => firsts_any g A c W (H0.out.below hW).r (GrIn.ok hz)
    (fun p hp => ⟨((checkI_zero hz).2.1 p hp).1, H0.out.b p hp⟩)⟩
  have HS : Keep (checkI g = 0 → GrOk g) := ⟨GrIn.ok⟩
  have HR : Keep (firstR g s = if checkI g = 0 then (if 0 ≤ s ∧ s < g.S then (tlist (gn (firstEnd g) s), 0) else ([], 2)) else ([], checkI g)) := ⟨rfl⟩
  generalize checkI g = E at *
  generalize firstR g s = R at *
  generalize firstEnd g = F at *
  obtain ⟨T, S, st, ps⟩ := g
  unfold grV at *
  dsimp only at *
  have B0 : Keep (Below w.heap.size w (w.alloc (.cells #[.int .i64 T, .int .i64 S, .int .i64 st, .slice A ps.length c] 24))) := ⟨(Below.refl _ _).alloc (Nat.le_refl _) _⟩
  have BG : Keep (Blk (w.alloc (.cells #[.int .i64 T, .int .i64 S, .int .i64 st, .slice A ps.length c] 24)) w.heap.size 24 #[.int .i64 T, .int .i64 S, .int .i64 st, .slice A ps.length c]) := ⟨Blk.new _ _ _⟩
  go_enter Try.func18, Try.ntmps18
  go_wp2_with fail
  refine (K1.out _ B0.out).mono ?_
  rintro e w1 ⟨rfl, hb⟩
  have B1 : Keep (Below w.heap.size w w1) := ⟨below_step B0.out hb B0.out.size⟩
  have BG1 := Keep.mk (BG.out.below hb BG.out.lt)
  clear BG B0 hb
  by_cases hE : E = 0
  · subst hE
    have q0 := BG1.out.cell 0
    have q1 := BG1.out.cell 1
    have q2 := BG1.out.cell 2
    have q3 := BG1.out.cell 3
    simp at q0 q1 q2 q3
    by_cases hs : 0 ≤ s ∧ s < S
    · obtain ⟨hs0, hs1⟩ := hs
      have HR2 : Keep (R = (tlist (gn F s), 0)) := ⟨by rw [HR.out, if_pos rfl, if_pos ⟨hs0, hs1⟩]⟩
      have ok := HS.out rfl
      obtain ⟨n, rfl⟩ := Int.eq_ofNat_of_zero_le (show 0 ≤ S by have := ok.t0; have := ok.s0; dsimp only at *; omega)
      obtain ⟨y, rfl⟩ := Int.eq_ofNat_of_zero_le hs0
      clear ok HS HR
      go_wp2_with fail
      refine (K2.out (by first | rfl | trivial) _ B1.out).mono ?_
      rintro e w2 ⟨gF, rfl, hF, hl, hlt, hg, hb⟩
      have cF := hF.cell y
      have B2 : Keep (Below w.heap.size w w2) := ⟨below_step B1.out hb B1.out.size⟩
      simp only [Int.toNat_natCast] at hl
      rw [u64s_gn _ y (by omega)] at cF
      have KL := Keep.mk (list_any (gn F y) w2 (gn_lt hlt _))
      clear hF hlt hg hb hl q0 q1 q2 q3
      simp only [Int.toNat_natCast]
      generalize gn F y = v at *
      go_wp2_with fail
      refine KL.out.mono ?_
      rintro e w3 ⟨v3, rfl, ho, hb⟩
      have B3 : Keep (Below w.heap.size w w3) := ⟨below_step B2.out hb B2.out.size⟩
      have HO := Keep.mk (ho.mono B2.out.size)
      clear ho hb
      go_wp2
      go_ret2
      rw [HR2.out]
      exact ⟨v3, rfl, HO.out, B3.out⟩
    · have HR2 : Keep (R = ([], 2)) := ⟨by rw [HR.out, if_pos rfl, if_neg hs]⟩
      clear HR
      go_wp2
      all_goals
        go_ret2
        rw [HR2.out]
        exact ⟨_, rfl, OwnI.nil _ _, B1.out⟩
  · have t : ((E : Int) != 0) = true := by simp [hE]
    have HR2 : Keep (R = ([], E)) := ⟨by rw [HR.out, if_neg hE]⟩
    clear HR hE
    go_wp2
    go_ret2
    rw [HR2.out]
    exact ⟨_, rfl, OwnI.nil _ _, B1.out⟩

theorem ofL_step (ps : List Pr) (s : Int) (k : Nat) (h : k < ps.length) : ((List.range (k + 1)).filter fun i => decide ((ps.getD i ⟨0, [], false⟩).head = s)).map Int.ofNat =
    if ps[k].head = s then ((List.range k).filter fun i => decide ((ps.getD i ⟨0, [], false⟩).head = s)).map Int.ofNat ++ [(k : Int)] else ((List.range k).filter fun i => decide ((ps.getD i ⟨0, [], false⟩).head = s)).map Int.ofNat := by
  rw [List.range_succ, List.filter_append]
  by_cases hh : ps[k].head = s
  · simp [h, hh]
  · simp [h, hh]

set_option maxRecDepth 100000 in
set_option maxHeartbeats 4000000 in
theorem of_any (g : Gr) (s : Int) (A : Option Addr) (c : Nat) (w : World) (h : GrIn w g A c) :
    Calls Try.prog 25 #[grV g A c, .int .i64 s] w (ListErr w (ofR g s)) := by
  have H0 := Keep.mk h
  clear h
  have K1 := Keep.mk fun W (hW : Below w.heap.size w W) => check_any g A c W (H0.out.below hW)
  have HS : Keep (checkI g = 0 → GrOk g) := ⟨GrIn.ok⟩
  have HR : Keep (ofR g s = if checkI g = 0 then (if g.T ≤ s ∧ s < g.S then (((List.range g.ps.length).filter fun i => decide ((g.ps.getD i ⟨0, [], false⟩).head = s)).map Int.ofNat, 0) else ([], 2)) else ([], checkI g)) := ⟨rfl⟩
  generalize checkI g = E at *
  generalize ofR g s = R at *
  obtain ⟨i0, hi0, hz0, hz1, hz2⟩ := info_parts info_int
  obtain ⟨T, S, st, ps⟩ := g
  unfold grV at *
  dsimp only at *
  have B0 : Keep (Below w.heap.size w (w.alloc (.cells #[.int .i64 T, .int .i64 S, .int .i64 st, .slice A ps.length c] 24))) := ⟨(Below.refl _ _).alloc (Nat.le_refl _) _⟩
  have BG : Keep (Blk (w.alloc (.cells #[.int .i64 T, .int .i64 S, .int .i64 st, .slice A ps.length c] 24)) w.heap.size 24 #[.int .i64 T, .int .i64 S, .int .i64 st, .slice A ps.length c]) := ⟨Blk.new _ _ _⟩
  go_enter Try.func25, Try.ntmps25
  go_wp2_with fail
  refine (K1.out _ B0.out).mono ?_
  rintro e w1 ⟨rfl, hb⟩
  have B1 : Keep (Below w.heap.size w w1) := ⟨below_step B0.out hb B0.out.size⟩
  have BG1 := Keep.mk (BG.out.below hb BG.out.lt)
  clear BG B0 hb
  by_cases hE : E = 0
  · subst hE
    have q0 := BG1.out.cell 0
    have q1 := BG1.out.cell 1
    have q3 := BG1.out.cell 3
    simp at q0 q1 q3
    by_cases hs : T ≤ s ∧ s < S
    · obtain ⟨hs0, hs1⟩ := hs
      have HR2 : Keep (R = (((List.range ps.length).filter fun i => decide ((ps.getD i ⟨0, [], false⟩).head = s)).map Int.ofNat, 0)) := ⟨by rw [HR.out, if_pos rfl, if_pos ⟨hs0, hs1⟩]⟩
      have ok := HS.out rfl
      have n1 := ok.n1
      dsimp only at n1
      clear ok HS HR
      have hB1 := B1.out.size
      go_wp2
      go_loopg [7, 28] ps.length (fun gg s7 s28 wr => ∃ k : Nat, k ≤ ps.length ∧ ps.length - k ≤ gg ∧ s28 = .int .i64 k ∧ Keep (OwnI wr w.heap.size s7 (((List.range k).filter fun i => decide ((ps.getD i ⟨0, [], false⟩).head = s)).map Int.ofNat)) ∧ Keep (Below w.heap.size w wr))
      case atStart => exact ⟨0, by omega, by omega, rfl, ⟨OwnI.nil _ _⟩, B1⟩
      case round =>
        obtain ⟨k, hk, hg, rfl, HO, HB⟩ := hrel
        by_cases hlt : k < ps.length
        · obtain ⟨ad, Ab, cb, rfl, hb, c0, c1, c2, hlb, hrb⟩ := H0.out.r k hlt
          replace c0 := cell_below c0 HB.out (by rw [add_block]; exact hb)
          replace c1 := cell_below c1 HB.out (by show (ad.add _).block < _; rw [add_block]; exact hb)
          replace c2 := cell_below c2 HB.out (by show (ad.add _).block < _; rw [add_block]; exact hb)
          have hst := Keep.mk (ofL_step ps s k hlt)
          have hlen : (((List.range k).filter fun i => decide ((ps.getD i ⟨0, [], false⟩).head = s)).map Int.ofNat).length ≤ k := by
            rw [List.length_map]
            exact Nat.le_trans (List.length_filter_le _ _) (by simp)
          dsimp only at c0 c1 c2
          generalize (((List.range k).filter fun i => decide ((ps.getD i ⟨0, [], false⟩).head = s)).map Int.ofNat) = ys at *
          clear hrb hlb
          generalize ps[k] = p at *
          obtain ⟨hd, bd, rt⟩ := p
          dsimp only at *
          have i1 : (0:Int) ≤ k := by omega
          have i2 : (k : Int) < ps.length := by omega
          have hBs := HB.out.size
          by_cases hh : hd = s
          · have t : ((hd : Int) == s) = true := by simp [hh]
            rw [if_pos hh] at hst
            clear hh
            have HO2 := Keep.mk ((HO.out.below ((Below.refl _ _).alloc (Nat.le_refl _) (.cells #[Value.int .i64 hd, .slice Ab bd.length cb, .bool rt] 38))).below ((Below.refl _ _).alloc (Nat.le_refl _) (.cells #[.int .i64 k] 3)))
            go_wp2_with (at_builtin; refine wpl_append_int _ rfl (.tmp 37) (.tmp 39) rfl w.heap.size _ ys rfl HO2.out (wr.heap.size + 1) k rfl ?c1 ?c2 ?c3 ?_)
            case c1 => simp [World.cell?_alloc_at]
            case c2 => omega
            case c3 => simp; omega
            intro v' w2 hG
            have HG := Keep.mk hG
            have HB2 : Keep (Below w.heap.size w w2) := ⟨below_step ((HB.out.alloc hBs _).alloc (by simp; omega) _) hG.low (Nat.le_refl _)⟩
            clear hG
            go_wp2
            go_roundg (ps.length - (k + 1))
            case measure => omega
            case rel => exact ⟨k + 1, by omega, by omega, by go_num, ⟨by rw [hst.out]; exact HG.out.own⟩, HB2⟩
          · have t : ((hd : Int) == s) = false := by simp [hh]
            rw [if_neg hh] at hst
            clear hh
            go_wp2
            go_roundg (ps.length - (k + 1))
            case measure => omega
            case rel => exact ⟨k + 1, by omega, by omega, by go_num, ⟨by rw [hst.out]; exact HO.out.below ((Below.refl _ _).alloc (Nat.le_refl _) _)⟩, ⟨HB.out.alloc hBs _⟩⟩
        · have ek : k = ps.length := by omega
          subst ek
          go_wp2
          go_ret2
          rw [HR2.out]
          exact ⟨u7, rfl, HO.out, HB.out⟩
    · have HR2 : Keep (R = ([], 2)) := ⟨by rw [HR.out, if_pos rfl, if_neg hs]⟩
      clear HR
      go_wp2
      all_goals
        go_ret2
        rw [HR2.out]
        exact ⟨_, rfl, OwnI.nil _ _, B1.out⟩
  · have t : ((E : Int) != 0) = true := by simp [hE]
    have HR2 : Keep (R = ([], E)) := ⟨by rw [HR.out, if_neg hE]⟩
    clear HR hE
    go_wp2
    go_ret2
    rw [HR2.out]
    exact ⟨_, rfl, OwnI.nil _ _, B1.out⟩
end Go.Proofs.Ytofidghilcbegaa.H
