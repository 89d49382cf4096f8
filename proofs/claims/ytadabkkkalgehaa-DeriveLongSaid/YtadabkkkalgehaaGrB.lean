/-
  grams.numbers: where its head may be, each production is asked.
-/
import Derived.Test.YtadabkkkalgehaaGrA
namespace Go.Proofs.Ytadabkkkalgehaa.H
open Go.RowKit
set_option linter.unusedVariables false
set_option linter.unusedSimpArgs false

set_option maxRecDepth 100000 in
set_option maxHeartbeats 4000000 in
theorem numbers_yes (g : Gr) (A : Option Addr) (c : Nat) (w : World) (hl : g.ps.length ≤ c) (hbl : ∀ p ∈ g.ps, p.body.length ≤ 9223372036854775807) (hr : RdP w w.heap.size A g.ps) (hh : headB g = true) :
    Calls Try.prog 48 #[grV g A c] w fun e w' => e = .returned (.bool (numbersB g)) ∧ Below w.heap.size w w' := by
  have Hh := Lib.hid hh
  generalize hg : g = G0 at Hh ⊢
  have Hg := Lib.hid hg
  have HP : Keep (∀ i, okAt G0 i = match g.ps[i]? with | some p => prodB g.T g.S (g.ps.take i) p | none => true) := ⟨fun i => by rw [← hg]; rfl⟩
  have HL : Keep (G0.ps.length = g.ps.length) := ⟨by rw [hg]⟩
  rw [show grV G0 A c = grV g A c from by rw [hg]]
  clear hg
  obtain ⟨T, S, st, ps⟩ := g
  simp only [headB, decide_eq_true_eq] at hh
  obtain ⟨h1, h2, h3, h4, h5, h6, h7, h8⟩ := hh
  have h9 : ((ps.length : Int) == 0) = false := by simp; intro e; simp [e] at h7
  unfold grV
  dsimp only at *
  have R0 : Keep (RdP w w.heap.size A ps) := ⟨hr⟩
  have B0 : Keep (∀ p ∈ ps, p.body.length ≤ 9223372036854775807) := ⟨hbl⟩
  clear hr hbl
  go_enter Try.func48, Try.ntmps48
  go_wp2
  go_loopg [56] ps.length (fun gg s56 wr => ∃ k : Nat, k ≤ ps.length ∧ ps.length - k ≤ gg ∧ s56 = .int .i64 k ∧ Keep (Below w.heap.size w wr) ∧ Keep (Blk wr w.heap.size 24 #[.int .i64 T, .int .i64 S, .int .i64 st, .slice A ps.length c]) ∧ Keep (∀ j, j < k → okAt G0 j = true))
  case atStart =>
    refine ⟨0, Nat.zero_le _, by omega, rfl, ⟨(Below.refl _ _).alloc (Nat.le_refl _) _⟩, ⟨?_⟩, ⟨fun j hj => absurd hj (Nat.not_lt_zero _)⟩⟩
    exact Blk.new _ _ _
  case round =>
    obtain ⟨k, hk, hg, rfl, BW, BK, HA⟩ := hrel
    obtain ⟨wo, rfl⟩ : ∃ wo : World, wo = wr := ⟨_, rfl⟩
    by_cases hlt : k < ps.length
    · obtain ⟨ad, Ab, cb, rfl, hb, c0, c1, c2, hlb, hrb⟩ := R0.out k hlt
      replace c0 := cell_below c0 BW.out (by rw [add_block]; exact hb)
      replace c1 := cell_below c1 BW.out (by show (ad.add _).block < _; rw [add_block]; exact hb)
      replace c2 := cell_below c2 BW.out (by show (ad.add _).block < _; rw [add_block]; exact hb)
      have hbl := B0.out _ (List.getElem_mem hlt)
      have HO : Keep (okAt G0 k = prodB T S (ps.take k) ps[k]) := ⟨by rw [HP.out, List.getElem?_eq_getElem hlt]⟩
      generalize hx : ps[k] = p at *
      clear hx
      obtain ⟨hd, bd, rt⟩ := p
      dsimp only at *
      have i1 : (0:Int) ≤ k := by omega
      have i2 : (k : Int) < ps.length := by omega
      have g0 := BK.out.cell 0
      have g1 := BK.out.cell 1
      have g2 := BK.out.cell 2
      have g3 := BK.out.cell 3
      simp at g0 g1 g2 g3
      have hsz := BK.out.lt
      by_cases hhd : T ≤ hd ∧ hd < S
      · obtain ⟨hd1, hd2⟩ := hhd
        go_wp2
        go_loopg [76] bd.length (fun gg s76 w2 => ∃ m : Nat, m ≤ bd.length ∧ bd.length - m ≤ gg ∧ s76 = .int .i64 m ∧ Keep (Below wo.heap.size wo w2) ∧
          Keep (Blk w2 wo.heap.size 55 #[.int .i64 hd, .slice Ab bd.length cb, .bool rt]) ∧ Keep (∀ j (hj : j < bd.length), j < m → symB S bd[j] = true))
        case atStart =>
          exact ⟨0, Nat.zero_le _, by omega, rfl, ⟨(Below.refl _ _).alloc (Nat.le_refl _) _⟩, ⟨Blk.new _ _ _⟩, ⟨fun j _ hj => absurd hj (Nat.not_lt_zero _)⟩⟩
        case round =>
          obtain ⟨m, hm, hgm, rfl, BW2, BP, HS⟩ := hrel
          have BK2 := BK.out.below BW2.out BK.out.lt
          have BW3 : Keep (Below w.heap.size w _) := ⟨below_step BW.out BW2.out BW.out.size⟩
          by_cases hltm : m < bd.length
          · obtain ⟨a2, e2, hb2, hc2⟩ := hrb.int m hltm
            subst e2
            replace hc2 := cell_below hc2 BW3.out (by rw [add_block]; exact hb2)
            generalize hy : bd[m] = y at *
            have Hy := Lib.hid hy
            clear hy
            have j1 : (0:Int) ≤ m := by omega
            have j2 : (m : Int) < bd.length := by omega
            have q1 := BK2.cell 1
            simp at q1
            clear c0 c1 c2 g0 g1 g2 g3
            by_cases hsy : 0 ≤ y ∧ y < S
            · obtain ⟨y1, y2⟩ := hsy
              go_wp2
              go_roundg (bd.length - (m + 1))
              case measure => omega
              case rel =>
                refine ⟨m + 1, by omega, by omega, by go_num, BW2, BP, ⟨fun j hj hjm => ?_⟩⟩
                by_cases e : j = m
                · subst e; rw [Hy.out]; simp [symB, y1, y2]
                · exact HS.out j hj (by omega)
            · go_wp2
              all_goals
                go_ret
                refine ⟨?_, BW3.out⟩
                have hs : symB S y = false := by
                  simp only [symB]
                  rw [← Bool.decide_and]; simp only [decide_eq_false_iff_not]; exact hsy
                have hall : bd.all (symB S) = false := List.all_eq_false.2 ⟨y, by rw [← Hy.out]; exact List.getElem_mem _, by rw [hs]; simp⟩
                have : okAt G0 k = false := by
                  rw [HO.out]
                  simp only [prodB]
                  rw [hall]
                  simp
                rw [numbersB_at (by have := HL.out; omega) this]
                rfl
          · have hall : Keep (bd.all (symB S) = true) := ⟨List.all_eq_true.2 (fun y hy => by
              obtain ⟨j, hj, rfl⟩ := List.getElem_of_mem hy
              exact HS.out j hj (by omega))⟩
            have hany : Keep (okAt G0 k = !((ps.take k).any (sameP ⟨hd, bd, rt⟩))) := ⟨by
              rw [HO.out]
              simp only [prodB, hall.out]
              simp [hd1, hd2]⟩
            have hcall := containsFuncP (some ad) k c (ps.take k) 61 #[.pointer (some ⟨wo.heap.size, 0, none⟩)] (sameP ⟨hd, bd, rt⟩) wr (by rw [List.length_take]; omega) (by rw [List.length_take]; omega)
              (((R0.out.take k).below BW3.out).mono BW3.out.size) (enters_of Try.func61 rfl rfl)
              (fun p' hp' A' c' hr' W hW => (numbers1 ⟨hd, bd, rt⟩ p' A' Ab c' cb wo.heap.size W (B0.out p' (List.mem_of_mem_take hp')) (BP.out.below hW BP.out.lt)
                ((hr'.below hW).mono hW.size) (((hrb.below BW3.out).below (hW.mono BW3.out.size)).mono (Nat.le_trans BW3.out.size hW.size))).mono fun _ _ ⟨he, hb⟩ => ⟨he, below_step hW hb hW.size⟩)
            clear c0 c1 c2 g0 g1 g2 g3
            have q0 := BK2.cell 0
            have q1 := BK2.cell 1
            have q3 := BK2.cell 3
            simp at q0 q1 q3
            have hkc : k ≤ c := by omega
            cases hq : (ps.take k).any (sameP ⟨hd, bd, rt⟩) with
            | true =>
              rw [hq] at hcall
              have HO2 : Keep (okAt G0 k = false) := ⟨by rw [hany.out, hq]; rfl⟩
              clear hq
              go_wp2_with (go_at_call 49; refine hcall.mono ?_; rintro e w' ⟨rfl, hb'⟩)
              go_ret
              refine ⟨?_, below_step BW3.out hb' BW3.out.size⟩
              rw [numbersB_at (by have := HL.out; omega) HO2.out]
              rfl
            | false =>
              rw [hq] at hcall
              have HO2 : Keep (okAt G0 k = true) := ⟨by rw [hany.out, hq]; rfl⟩
              clear hq
              go_wp2_with (go_at_call 49; refine hcall.mono ?_; rintro e w' ⟨rfl, hb'⟩)
              go_roundg (ps.length - (k + 1))
              case measure => omega
              case rel =>
                refine ⟨k + 1, by omega, by omega, by go_num, ⟨below_step BW3.out hb' BW3.out.size⟩, ⟨BK2.below hb' BK2.lt⟩, ⟨fun j hj => ?_⟩⟩
                by_cases e : j = k
                · subst e; exact HO2.out
                · exact HA.out j (by omega)
      · go_wp2
        all_goals
          go_ret
          refine ⟨?_, below_step BW.out ((Below.refl _ _).alloc (Nat.le_refl _) _) BW.out.size⟩
          have : okAt G0 k = false := by
            rw [HO.out]
            simp only [prodB]
            rw [show (decide (T ≤ hd) && decide (hd < S)) = false from by rw [← Bool.decide_and]; simp only [decide_eq_false_iff_not]; exact hhd]
            rfl
          rw [numbersB_at (by have := HL.out; omega) this]
          rfl
    · go_wp2
      go_ret
      refine ⟨?_, BW.out⟩
      rw [numbersB_all Hh.out (fun i hi => HA.out i (by have := HL.out; omega))]
      rfl

end Go.Proofs.Ytadabkkkalgehaa.H
