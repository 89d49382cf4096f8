/-
  GramsBegins, walked.
-/
import Derived.Test.YtofidghilcbegaaPlB
import Derived.Test.YtofidghilcbegaaWyA
namespace Go.Proofs.Ytofidghilcbegaa
open Go.RowKit
set_option linter.unusedVariables false
set_option linter.unusedSimpArgs false

theorem begAll_succ (g : Gr) (l : List Int) (j : Nat) (h : j < l.length) : begAll g (l.take (j + 1)) = begAll g (l.take j) ++ (firstR g ((g.ps.getD (l[j]).toNat ⟨0, [], false⟩).body.getD 0 0)).1 := by
  unfold begAll
  rw [List.take_succ_eq_append_getElem h, List.flatMap_append]
  simp

set_option maxRecDepth 100000 in
set_option maxHeartbeats 8000000 in
theorem begins_any (g : Gr) (A : Option Addr) (c : Nat) (w : World) (h : GrIn w g A c) :
    Calls Try.prog 10 #[grV g A c] w fun e w' => e = .returned (.bool true) ∧ Below w.heap.size w w' := by
  have H0 := Keep.mk h
  clear h
  have KB := Keep.mk fun W (hW : Below w.heap.size w W) => big_any g A c W (H0.out.below hW)
  have KC := Keep.mk fun W (hW : Below w.heap.size w W) => check_any g A c W (H0.out.below hW)
  have KF := Keep.mk fun W z (hW : Below w.heap.size w W) => first_any g z A c W (H0.out.below hW)
  have KO := Keep.mk fun W z (hW : Below w.heap.size w W) => of_any g z A c W (H0.out.below hW)
  generalize hbig : bigB g = B at *
  clear hbig
  generalize hE : checkI g = E at KC
  have HE := Keep.mk hE
  clear hE
  obtain ⟨T, S, st, ps⟩ := g
  unfold grV at *
  dsimp only at *
  have B0 : Keep (Below w.heap.size w (w.alloc (.cells #[.int .i64 T, .int .i64 S, .int .i64 st, .slice A ps.length c] 24))) := ⟨(Below.refl _ _).alloc (Nat.le_refl _) _⟩
  have BG : Keep (Blk (w.alloc (.cells #[.int .i64 T, .int .i64 S, .int .i64 st, .slice A ps.length c] 24)) w.heap.size 24 #[.int .i64 T, .int .i64 S, .int .i64 st, .slice A ps.length c]) := ⟨Blk.new _ _ _⟩
  go_enter Try.func10, Try.ntmps10
  go_wp2_with fail
  refine (KB.out _ B0.out).mono ?_
  rintro e w1 ⟨rfl, hb⟩
  have B1 : Keep (Below w.heap.size w w1) := ⟨below_step B0.out hb B0.out.size⟩
  have BG1 := Keep.mk (BG.out.below hb BG.out.lt)
  clear BG B0 hb KB
  cases B with
  | true =>
    go_wp2_with fail
    refine (alive_any _).mono ?_
    rintro e w3 ⟨rfl, hb⟩
    have B3 : Keep (Below w.heap.size w w3) := ⟨below_step B1.out hb B1.out.size⟩
    clear hb
    go_wp2
    go_ret
    exact ⟨rfl, B3.out⟩
  | false =>
    have q0 := BG1.out.cell 0
    have q1 := BG1.out.cell 1
    have q2 := BG1.out.cell 2
    have q3 := BG1.out.cell 3
    simp at q0 q1 q2 q3
    go_wp2_with fail
    refine (KC.out _ B1.out).mono ?_
    rintro e w2 ⟨rfl, hb⟩
    have B2 : Keep (Below w.heap.size w w2) := ⟨below_step B1.out hb B1.out.size⟩
    have BG2 := Keep.mk (BG1.out.below hb BG1.out.lt)
    clear BG1 B1 hb q0 q1 q2 q3 KC
    by_cases hz : E = 0
    · subst hz
      have hz := HE.out
      have okk := (fit_of hz).ok
      have n1 : ps.length ≤ 64 := okk.n1
      have tS : T < S := okk.s0
      have t0 : 1 ≤ T := okk.t0
      have t1 : S ≤ 64 := okk.s1
      have HP8 : Keep (∀ p ∈ ps, 0 < p.body.length ∧ p.body.length ≤ 8) := ⟨(checkI_zero hz).2.1⟩
      have HPW : Keep (∀ p ∈ ps, T ≤ p.head ∧ p.head < S ∧ ∀ y ∈ p.body, 0 ≤ y ∧ y < S) := ⟨okk.pr⟩
      have W0 : Keep (∀ k, T ≤ k → k < S → firstR ⟨T, S, st, ps⟩ k = (tlist (gn (firstEnd ⟨T, S, st, ps⟩) k), 0) ∧ ofR ⟨T, S, st, ps⟩ k = (ofL ⟨T, S, st, ps⟩ k, 0) ∧ 0 < (ofL ⟨T, S, st, ps⟩ k).length ∧ (ofL ⟨T, S, st, ps⟩ k).length ≤ ps.length ∧
          withinB (firstR ⟨T, S, st, ps⟩ k).1 (begAll ⟨T, S, st, ps⟩ (ofL ⟨T, S, st, ps⟩ k)) = true) :=
        ⟨fun k h1 h2 => ⟨firstR_ok hz (by omega) h2, ofR_ok hz h1 h2, of_nonempty hz h1 h2, ofL_len ⟨T, S, st, ps⟩ k, beg_all hz h1 h2⟩⟩
      have W1 : Keep (∀ k, T ≤ k → k < S → ∀ j (hj : j < (ofL ⟨T, S, st, ps⟩ k).length), ∃ i : Nat, ∃ hi : i < ps.length, (ofL ⟨T, S, st, ps⟩ k)[j] = i ∧ ps[i].head = k) := ⟨fun k h1 h2 j hj => ofL_at hj⟩
      have W2 : Keep (∀ k, T ≤ k → k < S → ∀ i (hi : i < ps.length), ps[i].head = k → ∀ y, ps[i].body[0]? = some y → (firstR ⟨T, S, st, ps⟩ y).2 = 0 ∧ withinB (firstR ⟨T, S, st, ps⟩ y).1 (firstR ⟨T, S, st, ps⟩ k).1 = true) :=
        ⟨fun k h1 h2 i hi hh y hy => by have := beg_in hz h1 h2 hi hh hy; exact ⟨by rw [this.1], this.2⟩⟩
      have W3 : Keep (∀ (l : List Int) j (h : j < l.length), begAll ⟨T, S, st, ps⟩ (l.take (j + 1)) = begAll ⟨T, S, st, ps⟩ (l.take j) ++ (firstR ⟨T, S, st, ps⟩ ((ps.getD (l[j]).toNat ⟨0, [], false⟩).body.getD 0 0)).1) := ⟨fun l j h => begAll_succ ⟨T, S, st, ps⟩ l j h⟩
      have H0r : Keep (RdP w w.heap.size A ps) := ⟨H0.out.r⟩
      have B00 : Keep (begAll ⟨T, S, st, ps⟩ [] = []) := ⟨rfl⟩
      clear okk hz HE H0
      generalize hG : Gr.mk T S st ps = G at *
      clear hG
      have q0 := BG2.out.cell 0
      simp at q0
      go_wp2
      go_loopg [3] (S - T).toNat (fun gg s3 wr => ∃ k : Int, T ≤ k ∧ k ≤ S ∧ (S - k).toNat ≤ gg ∧ s3 = .int .i64 k ∧ Keep (Below w.heap.size w wr) ∧ Keep (Blk wr w.heap.size 24 #[.int .i64 T, .int .i64 S, .int .i64 st, .slice A ps.length c]))
      case atStart => exact ⟨T, by omega, by omega, by omega, rfl, B2, BG2⟩
      case round =>
        clear B2 BG2 q0
        obtain ⟨k, hk1, hk2, hgk, rfl, B2, BG2⟩ := hrel
        have q0 := BG2.out.cell 0
        have q1 := BG2.out.cell 1
        have q2 := BG2.out.cell 2
        have q3 := BG2.out.cell 3
        simp at q0 q1 q2 q3
        by_cases hlt : k < S
        · obtain ⟨f1, f2, f3, f4, f5⟩ := W0.out k hk1 hlt
          have HW5 := Keep.mk f5
          have V1 := Keep.mk (W1.out k hk1 hlt)
          have V2 := Keep.mk (W2.out k hk1 hlt)
          have KFk := Keep.mk (KF.out wr k B2.out)
          have HFL := firstR_len G k
          rw [f1] at KFk HW5 V2 HFL
          generalize hF1 : tlist (gn (firstEnd G) k) = F1 at *
          generalize hO1 : ofL G k = O1 at *
          clear f1 hF1 hO1 f5
          dsimp only at *
          go_wp2_with fail
          refine KFk.out.mono ?_
          rintro e w3 ⟨v4, rfl, o4, hb⟩
          have B3 : Keep (Below w.heap.size w w3) := ⟨below_step B2.out hb B2.out.size⟩
          have BG3 := Keep.mk (BG2.out.below hb BG2.out.lt)
          have O4 := Keep.mk o4
          have KOk := Keep.mk (KO.out w3 k B3.out)
          rw [f2] at KOk
          clear KFk B2 BG2 hb o4 q0 q1 q2 q3 f2
          have q0 := BG3.out.cell 0
          have q1 := BG3.out.cell 1
          have q2 := BG3.out.cell 2
          have q3 := BG3.out.cell 3
          simp at q0 q1 q2 q3
          dsimp only
          go_wp2_with fail
          refine KOk.out.mono ?_
          rintro e w4 ⟨v6, rfl, o6, hb⟩
          have B4 : Keep (Below w.heap.size w w4) := ⟨below_step B3.out hb B3.out.size⟩
          have BG4 := Keep.mk (BG3.out.below hb BG3.out.lt)
          obtain ⟨A4, c4, e4, _, _, rd4, _, _⟩ := (O4.out.below hb).open_
          obtain ⟨A6, c6, e6, _, _, rd6, _, _⟩ := o6.open_
          subst e4 e6
          have R4 := Keep.mk rd4
          have R6 := Keep.mk rd6
          clear KOk B3 BG3 hb o6 O4 q0 q1 q2 q3 rd4 rd6
          dsimp only
          have hne : ((O1.length : Int) == 0) = false := by simp; intro e; rw [e] at f3; simp at f3
          go_wp2
          go_loopg [8, 9] O1.length (fun gg s8 s9 wr => ∃ j : Nat, j ≤ O1.length ∧ O1.length - j ≤ gg ∧ s9 = .int .i64 j ∧ Keep (OwnI wr w4.heap.size s8 (begAll G (O1.take j))) ∧ (begAll G (O1.take j)).length ≤ 64 * j ∧ Keep (Below w4.heap.size w4 wr))
          case atStart =>
            refine ⟨0, Nat.zero_le _, by omega, rfl, ⟨?_⟩, ?_, ⟨Below.refl _ _⟩⟩
            · rw [List.take_zero, B00.out]; exact OwnI.nil _ _
            · rw [List.take_zero, B00.out]; simp
          case round =>
            obtain ⟨j, hj, hgj, rfl, O8, hl8, BX⟩ := hrel
            have BGr := Keep.mk (BG4.out.below BX.out BG4.out.lt)
            have B5 : Keep (Below w.heap.size w wr) := ⟨below_step B4.out BX.out B4.out.size⟩
            have hcs : w4.heap.size ≤ wr.heap.size := BX.out.size
            by_cases hltj : j < O1.length
            · obtain ⟨i0, hi0, ei0, hh0⟩ := V1.out j hltj
              obtain ⟨a6, e6', hb6, hc6⟩ := R6.out.int j hltj
              subst e6'
              obtain ⟨ad, Ab, cb, eA, hb, c0, c1, c2, hlb, hrb⟩ := H0r.out i0 hi0
              subst eA
              have hbl := HP8.out _ (List.getElem_mem hi0)
              obtain ⟨a2, eAb, hb2, hc2⟩ := hrb.int 0 hbl.1
              subst eAb
              have hw := V2.out i0 hi0 hh0 _ (List.getElem?_eq_getElem hbl.1)
              have HSJ := W3.out O1 j hltj
              rw [ei0, Int.toNat_natCast, show (ps.getD i0 ⟨0, [], false⟩) = ps[i0] from by simp [hi0], show (ps[i0]).body.getD 0 0 = (ps[i0]).body[0]'hbl.1 from by simp [hbl.1]] at HSJ
              have HXL := firstR_len G ((ps[i0]).body[0]'hbl.1)
              rw [ei0] at hc6
              rw [hh0] at c0
              replace hc6 := cell_below hc6 BX.out (by rw [add_block]; exact hb6)
              replace c0 := cell_below c0 B5.out (by rw [add_block]; exact hb)
              replace c1 := cell_below c1 B5.out (by show (ad.add _).block < _; rw [add_block]; exact hb)
              rw [show a2.add 0 = a2 from rfl] at hc2
              replace hc2 := cell_below hc2 B5.out hb2
              have HSJ := Keep.mk HSJ
              have hbl1 : (0 : Int) < (ps[i0]).body.length := by have := hbl.1; omega
              have hbl2 : 0 < (ps[i0]).body.length := hbl.1
              generalize (ps[i0]).body[0]'hbl.1 = y at *
              clear c2 hrb hlb hh0 ei0 hbl
              generalize hbn : (ps[i0]).body.length = bn at *
              clear hbn
              have i1 : (0 : Int) ≤ i0 := by omega
              have i2 : (i0 : Int) < ps.length := by omega
              have j1 : (0 : Int) ≤ j := by omega
              have j2 : (j : Int) < O1.length := by omega
              have tk : ((k : Int) != k) = false := by simp
              have g3 := BGr.out.cell 3
              simp at g3
              have nw : w.heap.size < wr.heap.size ∧ (ad.add (i0 * 3)).block < wr.heap.size ∧ (a6.add j).block < wr.heap.size ∧ a2.block < wr.heap.size := ⟨BGr.out.lt, cell_lt (a := ad.add (i0 * 3)) c0, cell_lt (a := a6.add j) hc6, cell_lt (a := a2) hc2⟩
              go_upto_region 14 with fail
              go_cut [84] (fun s84 wx => s84 = .bool false ∧ Keep (∃ n, wx = wr.drewN n))
              case first =>
                go_quiet (fail)
                go_wp2_with fail
                go_meet
                exact ⟨by simp only [Value.bool.injEq, Bool.or_eq_false_iff, decide_eq_false_iff_not]; omega, ⟨_, rfl⟩⟩
              case rest =>
                obtain ⟨rfl, HN⟩ := hcut
                obtain ⟨m, hm⟩ := HN.out
                have hdr : Below wr.heap.size wr wc := by rw [hm]; exact below_drewN (Below.refl _ _) m
                clear HN hm
                have O9 := Keep.mk (O8.out.below hdr)
                have BXd : Keep (Below w4.heap.size w4 wc) := ⟨below_step BX.out hdr BX.out.size⟩
                have BGd := Keep.mk (BGr.out.below hdr BGr.out.lt)
                have B6 : Keep (Below w.heap.size w wc) := ⟨below_step B5.out hdr B5.out.size⟩
                replace c0 := cell_below c0 hdr nw.2.1
                replace c1 := cell_below c1 hdr nw.2.1
                replace hc6 := cell_below hc6 hdr nw.2.2.1
                replace hc2 := cell_below hc2 hdr nw.2.2.2
                have nwc : w.heap.size < wc.heap.size ∧ (ad.add (i0 * 3)).block < wc.heap.size ∧ (a6.add j).block < wc.heap.size ∧ a2.block < wc.heap.size := ⟨BGd.out.lt, cell_lt (a := ad.add (i0 * 3)) c0, cell_lt (a := a6.add j) hc6, cell_lt (a := a2) hc2⟩
                have hcd : w4.heap.size ≤ wc.heap.size := BXd.out.size
                clear nw O8 BX BGr B5 hdr g3 hcs
                have g0 := BGd.out.cell 0
                have g1 := BGd.out.cell 1
                have g2 := BGd.out.cell 2
                have g3 := BGd.out.cell 3
                simp at g0 g1 g2 g3
                have KX := Keep.mk (KF.out wc.drew y (below_drew1 B6.out))
                generalize firstR G y = X at *
                obtain ⟨X, XE⟩ := X
                obtain ⟨rfl, HWI⟩ := hw
                dsimp only at *
                have HWI := Keep.mk HWI
                obtain ⟨wd, rfl⟩ : ∃ wd : World, wd = wc := ⟨_, rfl⟩
                go_upto_region 16 with fail
                go_cut [10, 11] (fun s11 s12 wx => s12 = .int .i64 0 ∧ Keep (OwnI wx wd.heap.size s11 X) ∧ Keep (Below wd.heap.size wd wx))
                case first =>
                  go_region_held3 (fun w' => w'.cell? ⟨w.heap.size, 0, none⟩ = some (.int .i64 T) ∧ w'.cell? ⟨w.heap.size, 1, none⟩ = some (.int .i64 S) ∧ w'.cell? ⟨w.heap.size, 2, none⟩ = some (.int .i64 st) ∧ w'.cell? ⟨w.heap.size, 3, none⟩ = some (.slice (some ad) ps.length c) ∧ w'.cell? (a6.add j) = some (.int .i64 i0) ∧
                      w'.cell? ⟨(ad.add (i0 * 3)).block, (ad.add (i0 * 3)).off + 1, none⟩ = some (.slice (some a2) bn cb) ∧ w'.cell? a2 = some (.int .i64 y)) (go_keep)
                    (first | (go_at_call 18; refine KX.out.mono ?_; rintro e wy ⟨v11, rfl, o11, hb0⟩; have hby : Below wd.heap.size wd wy := below_step (below_drew1 (Below.refl _ _)) hb0 (Nat.le_refl _); have f0 := cell_below g0 hby nwc.1; have f1 := cell_below g1 hby nwc.1; have f2 := cell_below g2 hby nwc.1; have f3 := cell_below g3 hby nwc.1; have f4 := cell_below hc6 hby nwc.2.2.1; have f5 := cell_below c1 hby nwc.2.1; have f6 := cell_below hc2 hby nwc.2.2.2; have O11 := Keep.mk o11; have HBY := Keep.mk hby; clear o11 hby hb0))
                  all_goals (go_wp2_with fail; go_meet; exact ⟨rfl, O11, HBY⟩)
                case rest =>
                  obtain ⟨rfl, O11, BY⟩ := hcut
                  obtain ⟨A11, c11, e11, _, _, rd11, _, _⟩ := O11.out.open_
                  have KW := Keep.mk (within_any A11 A4 c11 c4 X F1 wc (by omega) (by omega) rd11 (((R4.out.below BXd.out).mono BXd.out.size |>.below BY.out).mono BY.out.size))
                  rw [HWI.out] at KW
                  clear rd11 g0 g1 g2 g3 KX
                  have OW := Keep.mk (O9.out.below BY.out)
                  have BXc : Keep (Below w4.heap.size w4 wc) := ⟨below_step BXd.out BY.out BXd.out.size⟩
                  have hcs : w4.heap.size ≤ wc.heap.size := BXc.out.size
                  subst e11
                  go_wp2_with fail
                  refine KW.out.mono ?_
                  rintro e w5 ⟨rfl, m5, rfl⟩
                  have OW5 := Keep.mk (OW.out.below (below_drewN (Below.refl _ _) m5))
                  have O115 := Keep.mk (O11.out.below (below_drewN (Below.refl _ _) m5))
                  have B7 : Keep (Below w4.heap.size w4 (wc.drewN m5)) := ⟨below_drewN BXc.out m5⟩
                  clear OW O11 BXc
                  go_wp2_with (at_builtin; refine wpl_append_own2 _ rfl (.tmp 109) (.tmp 110) rfl w4.heap.size _ (begAll G (O1.take j)) rfl OW5.out wd.heap.size _ X rfl O115.out ?c1 ?c2 ?_)
                  case c1 => omega
                  case c2 => exact hcs
                  intro v' w6 hG6
                  have HG6 := Keep.mk hG6
                  have B8 : Keep (Below w4.heap.size w4 w6) := ⟨below_step B7.out hG6.low (Nat.le_refl _)⟩
                  clear hG6
                  go_wp2
                  go_roundg (O1.length - (j + 1))
                  case measure => omega
                  case rel => exact ⟨j + 1, by omega, by omega, by go_num, ⟨by rw [HSJ.out]; simpa [List.append_assoc] using HG6.out.own⟩, by rw [HSJ.out, List.length_append]; omega, B8⟩
            · have ej : j = O1.length := by omega
              subst ej
              rw [List.take_length] at O8 hl8
              obtain ⟨A8, c8, e8, _, _, rd8, _, _⟩ := O8.out.open_
              subst e8
              have KW := Keep.mk (within_any A4 A8 c4 c8 F1 (begAll G O1) wr (by omega) (by omega) ((R4.out.below BX.out).mono BX.out.size) rd8)
              rw [HW5.out] at KW
              clear rd8
              go_wp2_with fail
              refine KW.out.mono ?_
              rintro e w5 ⟨rfl, m5, rfl⟩
              go_wp2
              go_roundg (S - (k + 1)).toNat
              case measure => omega
              case rel => exact ⟨k + 1, by omega, by omega, by omega, by go_num, ⟨below_drewN B5.out m5⟩, ⟨BGr.out.drewN m5⟩⟩
        · go_wp2_with fail
          refine (alive_any _).mono ?_
          rintro e w6 ⟨rfl, hb⟩
          have B6 : Keep (Below w.heap.size w w6) := ⟨below_step B2.out hb B2.out.size⟩
          clear hb
          go_wp2
          go_ret
          exact ⟨rfl, B6.out⟩
    · have t : ((E : Int) != 0) = true := by simp [hz]
      clear hz HE
      go_wp2_with fail
      refine (alive_any _).mono ?_
      rintro e w3 ⟨rfl, hb⟩
      have B3 : Keep (Below w.heap.size w w3) := ⟨below_step B2.out hb B2.out.size⟩
      clear hb
      go_wp2
      go_ret
      exact ⟨rfl, B3.out⟩
end Go.Proofs.Ytofidghilcbegaa
