/-
  GramsWhy, walked: up to its loops.
-/
import Derived.Test.YtofidghilcbegaaPlW
import Derived.Test.YtofidghilcbegaaAq
import Derived.Test.YtofidghilcbegaaAl
import Derived.StillTailTactics
namespace Go.Proofs.Ytofidghilcbegaa
open Go.RowKit
set_option linter.unusedVariables false
set_option linter.unusedSimpArgs false

/-- A row of a world that has grown since, from block B on, is still readable. -/
theorem OwnI.low {w w' : World} {B B2 : Nat} {v : Value} {xs : List Int} (h : OwnI w B v xs) (hb : Below B2 w w') (hB : w.heap.size ≤ B2) : OwnI w' B v xs := h.below (hb.mono hB)

set_option maxRecDepth 100000 in
set_option maxHeartbeats 8000000 in
theorem why_any (g : Gr) (s : Int) (A : Option Addr) (c : Nat) (w : World) (h : GrIn w g A c) :
    Calls Try.prog 7 #[grV g A c, .int .i64 s] w fun e w' => e = .returned (.bool true) ∧ Below w.heap.size w w' := by
  have H0 := Keep.mk h
  clear h
  have KB := Keep.mk fun W (hW : Below w.heap.size w W) => big_any g A c W (H0.out.below hW)
  have KF := Keep.mk fun W z (hW : Below w.heap.size w W) => first_any g z A c W (H0.out.below hW)
  have KL := Keep.mk fun W z (hW : Below w.heap.size w W) => follow_any g z A c W (H0.out.below hW)
  generalize hbig : bigB g = B at *
  generalize hg : g = g0 at *
  have HG := Keep.mk hg
  obtain ⟨T, S, st, ps⟩ := g
  subst hg
  unfold grV at *
  dsimp only at *
  have B0 : Keep (Below w.heap.size w (w.alloc (.cells #[.int .i64 T, .int .i64 S, .int .i64 st, .slice A ps.length c] 24))) := ⟨(Below.refl _ _).alloc (Nat.le_refl _) _⟩
  have BG : Keep (Blk (w.alloc (.cells #[.int .i64 T, .int .i64 S, .int .i64 st, .slice A ps.length c] 24)) w.heap.size 24 #[.int .i64 T, .int .i64 S, .int .i64 st, .slice A ps.length c]) := ⟨Blk.new _ _ _⟩
  clear HG hbig
  go_enter Try.func7, Try.ntmps7
  go_wp2_with fail
  refine (KB.out _ B0.out).mono ?_
  rintro e w1 ⟨rfl, hb⟩
  have B1 : Keep (Below w.heap.size w w1) := ⟨below_step B0.out hb B0.out.size⟩
  have BG1 := Keep.mk (BG.out.below hb BG.out.lt)
  clear BG B0 hb KB
  cases B with
  | true =>
    go_wp2
    go_ret
    exact ⟨rfl, B1.out⟩
  | false =>
    have q0 := BG1.out.cell 0
    have q1 := BG1.out.cell 1
    have q2 := BG1.out.cell 2
    have q3 := BG1.out.cell 3
    simp at q0 q1 q2 q3
    go_wp2_with fail
    refine (KL.out _ s B1.out).mono ?_
    rintro e w2 ⟨v5, rfl, o5, hb⟩
    have B2 : Keep (Below w.heap.size w w2) := ⟨below_step B1.out hb B1.out.size⟩
    have BG2 := Keep.mk (BG1.out.below hb BG1.out.lt)
    have O5 := Keep.mk o5
    clear BG1 B1 hb q0 q1 q2 q3 o5
    generalize hE : (followR ⟨T, S, st, ps⟩ s).2 = E at *
    have HE := Keep.mk hE
    clear hE
    by_cases hz : E = 0
    · subst hz
      have hz := err_zero (g := ⟨T, S, st, ps⟩) (s := s) HE.out
      have HC := Keep.mk hz.1
      have hs0 : 0 ≤ s := hz.2.1
      have hs1 : s < S := hz.2.2
      have okk := (fit_of hz.1).ok
      have n1 : ps.length ≤ 64 := okk.n1
      have HP8 : Keep (∀ p ∈ ps, p.body.length ≤ 8) := ⟨fun p hp => ((checkI_zero hz.1).2.1 p hp).2⟩
      have HPW : Keep (∀ p ∈ ps, T ≤ p.head ∧ p.head < S ∧ ∀ y ∈ p.body, 0 ≤ y ∧ y < S) := ⟨okk.pr⟩
      have W1 : Keep (∀ p ∈ ps, ∀ k z, p.body[k]? = some s → p.body[k + 1]? = some z → (firstR ⟨T, S, st, ps⟩ z).2 = 0 ∧ withinB (firstR ⟨T, S, st, ps⟩ z).1 (followR ⟨T, S, st, ps⟩ s).1 = true) :=
        ⟨fun p hp k z h1 h2 => by have := why_next hz.1 hs0 hs1 hp h1 h2; exact ⟨by rw [this.1], this.2⟩⟩
      have W2 : Keep (∀ p ∈ ps, ∀ k, p.body[k]? = some s → p.body.length ≤ k + 1 → (followR ⟨T, S, st, ps⟩ p.head).2 = 0 ∧ withinB (followR ⟨T, S, st, ps⟩ p.head).1 (followR ⟨T, S, st, ps⟩ s).1 = true) :=
        ⟨fun p hp k h1 h2 => by have := why_last hz.1 hs0 hs1 hp h1 h2; exact ⟨by rw [this.1], this.2⟩⟩
      have W3 := Keep.mk (why_all hz.1 hs0 hs1)
      have HA0 : Keep (whyAt ⟨T, S, st, ps⟩ s 0 = if s = st then [T] else []) := ⟨by simp [whyAt]⟩
      have HAS : Keep (∀ i (h : i < ps.length), whyAt ⟨T, S, st, ps⟩ s (i + 1) = whyAt ⟨T, S, st, ps⟩ s i ++ whyBody ⟨T, S, st, ps⟩ s ps[i] ps[i].body.length) := ⟨fun i h => whyAt_succ ⟨T, S, st, ps⟩ s i h⟩
      have HAL := Keep.mk (followR_len ⟨T, S, st, ps⟩ s)
      obtain ⟨A5, c5, rfl, _, _, rd5, _, _⟩ := O5.out.open_
      have R5 := Keep.mk rd5
      clear rd5 okk HE hz O5
      dsimp only at *
      have H0r : Keep (RdP w w.heap.size A ps) := ⟨H0.out.r⟩
      generalize hG : Gr.mk T S st ps = G at *
      clear hG
      generalize hAll : (followR G s).1 = ALL at *
      clear hAll
      have q0 := BG2.out.cell 0
      have q2 := BG2.out.cell 2
      simp at q0 q2
      go_upto_if 29 with fail
      go_cut [7] (fun s7 wx => Keep (OwnI wx w2.heap.size s7 (whyAt G s 0)) ∧ (whyAt G s 0).length ≤ 1 ∧ Keep (Below w2.heap.size w2 wx))
      case first =>
        by_cases hst : s = st
        · rw [if_pos hst] at HA0
          have t : ((s : Int) == st) = true := by simp [hst]
          clear hst
          go_wp2_with (at_builtin; refine wpl_append_int _ rfl (.tmp 30) (.tmp 33) rfl w2.heap.size _ [] rfl (OwnI.nil _ _) w2.heap.size T rfl ?c1 ?c2 ?c3 ?_)
          case c1 => simp
          case c2 => simp
          case c3 => simp
          intro v' w3 hG3
          have HG3 := Keep.mk hG3
          clear hG3
          go_wp2_with fail
          go_meet
          rw [HA0.out]
          exact ⟨⟨HG3.out.own⟩, by simp, ⟨below_step ((Below.refl _ _).alloc (Nat.le_refl _) _) HG3.out.low (Nat.le_refl _)⟩⟩
        · rw [if_neg hst] at HA0
          have t : ((s : Int) == st) = false := by simp [hst]
          clear hst
          go_wp2_with fail
          go_meet
          rw [HA0.out]
          exact ⟨⟨OwnI.nil _ _⟩, by simp, ⟨Below.refl _ _⟩⟩
      case rest =>
        obtain ⟨O7, hl7, BX⟩ := hcut
        clear q0 q2 HA0
        go_wp2
        go_loopg [7, 8] ps.length (fun gg s7 s8 wr => ∃ i : Nat, i ≤ ps.length ∧ ps.length - i ≤ gg ∧ s8 = .int .i64 i ∧ Keep (OwnI wr w2.heap.size s7 (whyAt G s i)) ∧ (whyAt G s i).length ≤ 1 + i * 512 ∧ Keep (Below w2.heap.size w2 wr))
        case atStart => exact ⟨0, Nat.zero_le _, by omega, rfl, O7, by omega, BX⟩
        case round =>
          clear O7 hl7 BX
          obtain ⟨i, hi, hg, rfl, O7, hl7, BX⟩ := hrel
          have BGr := Keep.mk (BG2.out.below BX.out BG2.out.lt)
          have B3 : Keep (Below w.heap.size w wr) := ⟨below_step B2.out BX.out B2.out.size⟩
          have q3 := BGr.out.cell 3
          simp at q3
          by_cases hlt : i < ps.length
          · obtain ⟨ad, Ab, cb, rfl, hb, c0, c1, c2, hlb, hrb⟩ := H0r.out i hlt
            have hbl := HP8.out _ (List.getElem_mem hlt)
            have hmem := Keep.mk (List.getElem_mem hlt)
            have HSi := Keep.mk (HAS.out i hlt)
            have C0 := Keep.mk c0
            have hadb : ad.block < w.heap.size := hb
            replace c1 := cell_below c1 B3.out (by show (ad.add _).block < _; rw [add_block]; exact hb)
            clear c0 c2
            generalize ps[i] = p at *
            have i1 : (0 : Int) ≤ i := by omega
            have i2 : (i : Int) < ps.length := by omega
            have OI : Keep (OwnI wr w2.heap.size u7 (whyAt G s i ++ whyBody G s p 0)) := ⟨by simpa [whyBody] using O7.out⟩
            have hl0 : (whyAt G s i ++ whyBody G s p 0).length ≤ 1 + i * 512 + 0 * 64 := by simpa [whyBody] using hl7
            clear O7 hl7
            go_wp2
            go_loopg [7, 10] p.body.length (fun gg s7 s10 wr => ∃ k : Nat, k ≤ p.body.length ∧ p.body.length - k ≤ gg ∧ s10 = .int .i64 k ∧ Keep (OwnI wr w2.heap.size s7 (whyAt G s i ++ whyBody G s p k)) ∧ (whyAt G s i ++ whyBody G s p k).length ≤ 1 + i * 512 + k * 64 ∧ Keep (Below w2.heap.size w2 wr))
            case atStart => exact ⟨0, Nat.zero_le _, by omega, rfl, OI, hl0, BX⟩
            case round =>
              clear OI hl0 BX B3 BGr q3 c1
              obtain ⟨k, hk, hgk, rfl, O7, hl7, BX⟩ := hrel
              have BGr := Keep.mk (BG2.out.below BX.out BG2.out.lt)
              have B3 : Keep (Below w.heap.size w wr) := ⟨below_step B2.out BX.out B2.out.size⟩
              have hB2s : w2.heap.size ≤ wr.heap.size := BX.out.size
              by_cases hltk : k < p.body.length
              · obtain ⟨a2, rfl, hb2, hc2⟩ := hrb.int k hltk
                replace hc2 := cell_below hc2 B3.out (by rw [add_block]; exact hb2)
                have hget : Keep (p.body[k]? = some p.body[k]) := ⟨List.getElem?_eq_getElem hltk⟩
                have HBS := Keep.mk (whyBody_succ G s p k)
                generalize p.body[k] = y at *
                have j1 : (0 : Int) ≤ k := by omega
                have j2 : (k : Int) < p.body.length := by omega
                by_cases hy : y = s
                · have t : ((y : Int) != s) = false := by simp [hy]
                  have hy' := hy.symm
                  subst hy'
                  rw [if_pos hget.out] at HBS
                  by_cases hnx : k + 1 < p.body.length
                  · have hz1 : p.body[k + 1]? = some p.body[k + 1] := List.getElem?_eq_getElem hnx
                    have hw := W1.out p hmem.out k _ hget.out hz1
                    rw [hz1] at HBS
                    obtain ⟨a3, e3, hb3, hc3⟩ := hrb.int (k + 1) hnx
                    cases e3
                    replace hc3 := cell_below hc3 B3.out (by rw [add_block]; exact hb3)
                    simp only [Addr.add, Nat.add_eq_zero_iff, Nat.one_ne_zero, and_false, if_false] at hc3
                    dsimp only at HBS
                    have KX := Keep.mk (KF.out wr.drew p.body[k + 1] (below_drew1 B3.out))
                    have HXL := firstR_len G p.body[k + 1]
                    generalize p.body[k + 1] = z at *
                    generalize firstR G z = X at *
                    obtain ⟨X, XE⟩ := X
                    obtain ⟨rfl, HWI⟩ := hw
                    dsimp only at *
                    have HWI := Keep.mk HWI
                    have j3 : (0 : Int) ≤ (k : Int) + 1 := by omega
                    have j4 : (k : Int) + 1 < p.body.length := by omega
                    have j5 : ((k : Int) + 1).toNat = k + 1 := by omega
                    have g0 := BGr.out.cell 0
                    have g1 := BGr.out.cell 1
                    have g2 := BGr.out.cell 2
                    have g3 := BGr.out.cell 3
                    simp at g0 g1 g2 g3
                    go_upto_region 18 with fail
                    go_cut [11, 12] (fun s11 s12 wx => s12 = .int .i64 0 ∧ Keep (OwnI wx wr.heap.size s11 X) ∧ Keep (Below wr.heap.size wr wx))
                    case first =>
                      have hwr : IntKind.i64.wrap ((k : Int) + 1) = (k : Int) + 1 := IntWalk.i64_in _ (by omega)
                      have nw : w.heap.size < wr.heap.size ∧ a2.block < wr.heap.size := ⟨BGr.out.lt, cell_lt (a := ⟨a2.block, a2.off + (k + 1), none⟩) hc3⟩
                      go_region_held3 (fun w' => w'.cell? ⟨w.heap.size, 0, none⟩ = some (.int .i64 T) ∧ w'.cell? ⟨w.heap.size, 1, none⟩ = some (.int .i64 S) ∧ w'.cell? ⟨w.heap.size, 2, none⟩ = some (.int .i64 st) ∧ w'.cell? ⟨w.heap.size, 3, none⟩ = some (.slice (some ad) ps.length c) ∧ w'.cell? ⟨a2.block, a2.off + (k + 1), none⟩ = some (.int .i64 z)) (go_keep)
                        (first | (go_at_call 18; refine KX.out.mono ?_; rintro e wy ⟨v11, rfl, o11, hb0⟩; have hby : Below wr.heap.size wr wy := below_step (below_drew1 (Below.refl _ _)) hb0 (Nat.le_refl _); have f0 := cell_below g0 hby nw.1; have f1 := cell_below g1 hby nw.1; have f2 := cell_below g2 hby nw.1; have f3 := cell_below g3 hby nw.1; have f4 := cell_below hc3 hby nw.2; have O11 := Keep.mk o11; have HBY := Keep.mk hby; clear o11 hby hb0))
                      all_goals (go_wp2_with fail; go_meet; exact ⟨rfl, O11, HBY⟩)
                    case rest =>
                      obtain ⟨rfl, O11, BY⟩ := hcut
                      obtain ⟨A11, c11, e11, _, _, rd11, _, _⟩ := O11.out.open_
                      have KW := Keep.mk (within_any A11 A5 c11 c5 X ALL wc (by omega) (by have := HAL.out; omega) rd11 (((R5.out.below BX.out).mono BX.out.size |>.below BY.out).mono BY.out.size))
                      rw [HWI.out] at KW
                      clear rd11 g0 g1 g2 g3 KX
                      have OW := Keep.mk (O7.out.below BY.out)
                      have BXc : Keep (Below w2.heap.size w2 wc) := ⟨below_step BX.out BY.out BX.out.size⟩
                      have hcs : w2.heap.size ≤ wc.heap.size := BXc.out.size
                      subst e11
                      go_wp2_with fail
                      refine KW.out.mono ?_
                      rintro e w5 ⟨rfl, m5, rfl⟩
                      have OW5 := Keep.mk (OW.out.below (below_drewN (Below.refl _ _) m5))
                      have O115 := Keep.mk (O11.out.below (below_drewN (Below.refl _ _) m5))
                      have B5 : Keep (Below w2.heap.size w2 (wc.drewN m5)) := ⟨below_drewN BXc.out m5⟩
                      clear OW O11 BXc
                      go_wp2_with (at_builtin; refine wpl_append_own2 _ rfl (.tmp 83) (.tmp 84) rfl w2.heap.size _ (whyAt G s i ++ whyBody G s p k) rfl OW5.out wr.heap.size _ X rfl O115.out ?c1 ?c2 ?_)
                      case c1 => omega
                      case c2 => exact hcs
                      intro v' w6 hG6
                      have HG6 := Keep.mk hG6
                      have B6 : Keep (Below w2.heap.size w2 w6) := ⟨below_step B5.out hG6.low (Nat.le_refl _)⟩
                      clear hG6
                      go_wp2
                      go_roundg (p.body.length - (k + 1))
                      case measure => omega
                      case rel => exact ⟨k + 1, by omega, by omega, by go_num, ⟨by rw [HBS.out]; simpa [List.append_assoc] using HG6.out.own⟩, by rw [HBS.out]; simp only [List.length_append] at hl7 ⊢; omega, B6⟩
                  · have hw := W2.out p hmem.out k hget.out (by omega)
                    rw [List.getElem?_eq_none (by omega)] at HBS
                    dsimp only at HBS
                    have c0 := cell_below C0.out B3.out (by rw [add_block]; exact hadb)
                    have q3 := BGr.out.cell 3
                    simp at q3
                    have KX := Keep.mk (KL.out wr.drew p.head (below_drew1 B3.out))
                    have HXL := followR_len G p.head
                    generalize followR G p.head = X at *
                    obtain ⟨X, XE⟩ := X
                    obtain ⟨rfl, HWI⟩ := hw
                    dsimp only at *
                    have HWI := Keep.mk HWI
                    have j4 : ¬ (k : Int) + 1 < p.body.length := by omega
                    have g0 := BGr.out.cell 0
                    have g1 := BGr.out.cell 1
                    have g2 := BGr.out.cell 2
                    have g3 := BGr.out.cell 3
                    simp at g0 g1 g2 g3
                    go_upto_region 22 with fail
                    go_cut [13, 14] (fun s11 s12 wx => s12 = .int .i64 0 ∧ Keep (OwnI wx wr.heap.size s11 X) ∧ Keep (Below wr.heap.size wr wx))
                    case first =>
                      have nw : w.heap.size < wr.heap.size ∧ (ad.add (i * 3)).block < wr.heap.size := ⟨BGr.out.lt, cell_lt (a := ad.add (i * 3)) c0⟩
                      go_region_held3 (fun w' => w'.cell? ⟨w.heap.size, 0, none⟩ = some (.int .i64 T) ∧ w'.cell? ⟨w.heap.size, 1, none⟩ = some (.int .i64 S) ∧ w'.cell? ⟨w.heap.size, 2, none⟩ = some (.int .i64 st) ∧ w'.cell? ⟨w.heap.size, 3, none⟩ = some (.slice (some ad) ps.length c) ∧ w'.cell? (ad.add (i * 3)) = some (.int .i64 p.head)) (go_keep)
                        (first | (go_at_call 22; refine KX.out.mono ?_; rintro e wy ⟨v11, rfl, o11, hb0⟩; have hby : Below wr.heap.size wr wy := below_step (below_drew1 (Below.refl _ _)) hb0 (Nat.le_refl _); have f0 := cell_below g0 hby nw.1; have f1 := cell_below g1 hby nw.1; have f2 := cell_below g2 hby nw.1; have f3 := cell_below g3 hby nw.1; have f4 := cell_below c0 hby nw.2; have O11 := Keep.mk o11; have HBY := Keep.mk hby; clear o11 hby hb0))
                      all_goals (go_wp2_with fail; go_meet; exact ⟨rfl, O11, HBY⟩)
                    case rest =>
                      obtain ⟨rfl, O11, BY⟩ := hcut
                      obtain ⟨A11, c11, e11, _, _, rd11, _, _⟩ := O11.out.open_
                      have KW := Keep.mk (within_any A11 A5 c11 c5 X ALL wc (by omega) (by have := HAL.out; omega) rd11 (((R5.out.below BX.out).mono BX.out.size |>.below BY.out).mono BY.out.size))
                      rw [HWI.out] at KW
                      clear rd11 g0 g1 g2 g3 KX
                      have OW := Keep.mk (O7.out.below BY.out)
                      have BXc : Keep (Below w2.heap.size w2 wc) := ⟨below_step BX.out BY.out BX.out.size⟩
                      have hcs : w2.heap.size ≤ wc.heap.size := BXc.out.size
                      subst e11
                      go_wp2_with fail
                      refine KW.out.mono ?_
                      rintro e w5 ⟨rfl, m5, rfl⟩
                      have OW5 := Keep.mk (OW.out.below (below_drewN (Below.refl _ _) m5))
                      have O115 := Keep.mk (O11.out.below (below_drewN (Below.refl _ _) m5))
                      have B5 : Keep (Below w2.heap.size w2 (wc.drewN m5)) := ⟨below_drewN BXc.out m5⟩
                      clear OW O11 BXc
                      go_wp2_with (at_builtin; refine wpl_append_own2 _ rfl (.tmp 105) (.tmp 106) rfl w2.heap.size _ (whyAt G s i ++ whyBody G s p k) rfl OW5.out wr.heap.size _ X rfl O115.out ?c1 ?c2 ?_)
                      case c1 => omega
                      case c2 => exact hcs
                      intro v' w6 hG6
                      have HG6 := Keep.mk hG6
                      have B6 : Keep (Below w2.heap.size w2 w6) := ⟨below_step B5.out hG6.low (Nat.le_refl _)⟩
                      clear hG6
                      go_wp2
                      go_roundg (p.body.length - (k + 1))
                      case measure => omega
                      case rel => exact ⟨k + 1, by omega, by omega, by go_num, ⟨by rw [HBS.out]; simpa [List.append_assoc] using HG6.out.own⟩, by rw [HBS.out]; simp only [List.length_append] at hl7 ⊢; omega, B6⟩
                · have t : ((y : Int) != s) = true := by simp [hy]
                  rw [hget.out, if_neg (by simpa using hy), List.append_nil] at HBS
                  clear hy
                  go_wp2
                  go_roundg (p.body.length - (k + 1))
                  case measure => omega
                  case rel => exact ⟨k + 1, by omega, by omega, by go_num, by rw [HBS.out]; exact O7, by rw [HBS.out]; omega, BX⟩
              · have ek : k = p.body.length := by omega
                subst ek
                go_wp2
                go_roundg (ps.length - (i + 1))
                case measure => omega
                case rel => exact ⟨i + 1, by omega, by omega, by go_num, by rw [HSi.out]; exact O7, by rw [HSi.out]; omega, BX⟩
          · have ei : i = ps.length := by omega
            subst ei
            obtain ⟨A7, c7, rfl, _, _, rd7, _, _⟩ := O7.out.open_
            have KW := Keep.mk (within_any A5 A7 c5 c7 ALL (whyAt G s ps.length) wr (by have := HAL.out; omega) (by omega) ((R5.out.below BX.out).mono BX.out.size) rd7)
            rw [W3.out] at KW
            clear rd7
            go_wp2_with fail
            refine KW.out.mono ?_
            rintro e w5 ⟨rfl, m5, rfl⟩
            have B5 : Keep (Below w.heap.size w (wr.drewN m5)) := ⟨below_drewN B3.out m5⟩
            go_wp2_with fail
            refine (alive_any _).mono ?_
            rintro e w6 ⟨rfl, hb⟩
            have B6 : Keep (Below w.heap.size w w6) := ⟨below_step B5.out hb B5.out.size⟩
            clear hb
            go_wp2
            go_ret
            exact ⟨rfl, B6.out⟩
    · have t : ((E : Int) != 0) = true := by simp [hz]
      clear hz HE
      go_wp2_with fail
      refine (alive_any _).mono ?_
      rintro e w3 ⟨rfl, hb⟩
      have B3 : Keep (Below w.heap.size w w3) := ⟨below_step B2.out hb B2.out.size⟩
      clear hb
      go_wp2
      go_ret
      exact ⟨rfl, B3.out⟩
end Go.Proofs.Ytofidghilcbegaa
