/-
  grams.Follow, walked.
-/
import Derived.Test.YtofidghilcbegaaFlA
namespace Go.Proofs.Ytofidghilcbegaa.H
open Go.RowKit
set_option linter.unusedVariables false
set_option linter.unusedSimpArgs false

set_option maxRecDepth 100000 in
set_option maxHeartbeats 6000000 in
theorem follow_any (g : Gr) (s : Int) (A : Option Addr) (c : Nat) (w : World) (h : GrIn w g A c) :
    Calls Try.prog 22 #[grV g A c, .int .i64 s] w (ListErr w (followR g s)) := by
  have H0 := Keep.mk h
  clear h
  have K1 := Keep.mk fun W (hW : Below w.heap.size w W) => check_any g A c W (H0.out.below hW)
  have K2 : Keep (checkI g = 0 → ∀ W, Below w.heap.size w W → Calls Try.prog 42 #[grV g A c] W _) := ⟨fun hz W hW => firsts_any g A c W (H0.out.below hW).r (GrIn.ok hz)
    (fun p hp => ⟨((checkI_zero hz).2.1 p hp).1, H0.out.b p hp⟩)⟩
  have HS : Keep (checkI g = 0 → GrOk g) := ⟨GrIn.ok⟩
  have HP : Keep (checkI g = 0 → ∀ p ∈ g.ps, 0 < p.body.length ∧ p.body.length ≤ 8) := ⟨fun h => (checkI_zero h).2.1⟩
  have HR : Keep (followR g s = if checkI g = 0 then (if 0 ≤ s ∧ s < g.S then (tlist (gn (followLoop (firstEnd g) g.ps (64 * g.S.toNat + 1) ⟨(List.replicate g.S.toNat 0).set g.st.toNat (2 ^ g.T.toNat), true⟩).m s), 0) else ([], 2)) else ([], checkI g)) := ⟨rfl⟩
  generalize checkI g = E at *
  generalize followR g s = R at *
  generalize firstEnd g = F at *
  obtain ⟨T, S, st, ps⟩ := g
  unfold grV at *
  dsimp only at *
  have B0 : Keep (Below w.heap.size w (w.alloc (.cells #[.int .i64 T, .int .i64 S, .int .i64 st, .slice A ps.length c] 24))) := ⟨(Below.refl _ _).alloc (Nat.le_refl _) _⟩
  have BG : Keep (Blk (w.alloc (.cells #[.int .i64 T, .int .i64 S, .int .i64 st, .slice A ps.length c] 24)) w.heap.size 24 #[.int .i64 T, .int .i64 S, .int .i64 st, .slice A ps.length c]) := ⟨Blk.new _ _ _⟩
  go_enter Try.func22, Try.ntmps22
  go_wp2_with fail
  refine (K1.out _ B0.out).mono ?_
  rintro e w1 ⟨rfl, hb⟩
  have B1 : Keep (Below w.heap.size w w1) := ⟨below_step B0.out hb B0.out.size⟩
  have BG1 := Keep.mk (BG.out.below hb BG.out.lt)
  clear BG B0 hb
  by_cases hE : E = 0
  · subst hE
    have q0 := BG1.out.cell 0
    have q1 := BG1.out.cell 1
    have q2 := BG1.out.cell 2
    have q3 := BG1.out.cell 3
    simp at q0 q1 q2 q3
    by_cases hs : 0 ≤ s ∧ s < S
    · obtain ⟨hs0, hs1⟩ := hs
      have HR2 : Keep (R = (tlist (gn (followLoop F ps (64 * S.toNat + 1) ⟨(List.replicate S.toNat 0).set st.toNat (2 ^ T.toNat), true⟩).m s), 0)) := ⟨by rw [HR.out, if_pos rfl, if_pos ⟨hs0, hs1⟩]⟩
      have ok := HS.out rfl
      have hpp := HP.out rfl
      have KF := Keep.mk (K2.out rfl)
      obtain ⟨t0, t1, s0, s1, st0, st1, n0, n1, pr⟩ := ok
      dsimp only at *
      obtain ⟨t, rfl⟩ := Int.eq_ofNat_of_zero_le (show 0 ≤ T by omega)
      obtain ⟨n, rfl⟩ := Int.eq_ofNat_of_zero_le (show 0 ≤ S by omega)
      obtain ⟨a, rfl⟩ := Int.eq_ofNat_of_zero_le (show 0 ≤ st by omega)
      obtain ⟨y, rfl⟩ := Int.eq_ofNat_of_zero_le hs0
      have P0 : Keep (∀ p ∈ ps, PrIn n p) := ⟨fun p hp => ⟨by have := pr p hp; omega, by have := pr p hp; omega, fun s hs => by have := (pr p hp).2.2 s hs; omega⟩⟩
      have L0 : Keep (∀ p ∈ ps, p.body.length ≤ 8) := ⟨fun p hp => (hpp p hp).2⟩
      simp only [Int.toNat_natCast] at HR2
      clear HS HR HP K2 pr hpp n0 hs0
      have hmk := @run_make_row' Try.prog 49 48 (.int .u64 0) 8 Try.underlying49 info_u64 rfl .i64 .i64 n (by omega) (by omega)
      simp only [madeCells_u64s] at hmk
      go_upto_region 6 with fail
      go_cut [7, 8] (fun s7 s8 wx => ∃ gF gO : Nat, s7 = .slice (some ⟨gF, 0, none⟩) n n ∧ s8 = .slice (some ⟨gO, 0, none⟩) n n ∧ Keep (∀ x ∈ F, x < 2 ^ 64) ∧
        Keep (LW w wx #[.int .i64 t, .int .i64 n, .int .i64 a, .slice A ps.length c] gF gO n F (List.replicate n 0)))
      case first =>
        have hsz := BG1.out.lt
        go_region_with (go_at_call 42; refine (KF.out _ (by first | exact below_drew1 B1.out | exact (below_drew1 B1.out).alloc (by simp; exact B1.out.size) _ | exact B1.out | exact B1.out.alloc B1.out.size _)).mono ?_; rintro e w2 ⟨gF, rfl, hF, hl, hlt, hg, hb⟩; have BG2 : Blk w2 w.heap.size 24 #[.int .i64 t, .int .i64 n, .int .i64 a, .slice A ps.length c] := (by first | exact BG1.out.drew.below hb BG1.out.lt | exact (BG1.out.drew.alloc _).below hb (by simp; have := BG1.out.lt; omega)); have q1' := BG2.cell 1; simp at q1'; have hsz2 := BG2.lt; have BG3 := Keep.mk BG2; have HF := Keep.mk hF; clear BG2 hF)
        all_goals go_wp2_with fail
        all_goals go_meet
        all_goals first
          | exact ⟨gF, w2.heap.size, rfl, rfl, ⟨hlt⟩, ⟨(below_step (below_drew1 B1.out) hb B1.out.size).alloc (Nat.le_of_lt hsz2) _, BG3.out.alloc _, HF.out.alloc _, Blk.new _ _ _, Nat.lt_of_lt_of_le hsz hg, hsz2, Nat.ne_of_gt HF.out.lt, by simpa using hl, by simp⟩⟩
          | exact ⟨gF, w1.heap.size, rfl, rfl, ⟨hlt⟩, ⟨below_step ((below_drew1 B1.out).alloc B1.out.size (.cells (u64s (List.replicate n 0)) 48)) hb (by simp; have := B1.out.size; omega), BG3.out, HF.out,
              (Blk.newAt rfl : Blk (w1.drew.alloc (.cells (u64s (List.replicate n 0)) 48)) w1.heap.size 48 _).below hb (by simp), by simp at hg; omega, hsz, by simp at hg; omega, by simpa using hl, by simp⟩⟩
      case rest =>
        obtain ⟨gF, gO, rfl, rfl, HF, U⟩ := hcut
        clear q0 q1 q2 q3 BG1 B1 K1 KF
        clear w1
        have q0 := U.out.bg.cell 0
        have q2 := U.out.bg.cell 2
        simp at q0 q2
        have ca := U.out.bo.cell a
        rw [u64s_gn _ a (by simp; omega)] at ca
        have cf := U.out.bo.frozen a
        have i1 : (a : Int) < n := by omega
        go_upto_region 7 with fail
        go_cut [] (fun wx => Keep (LW w wx #[.int .i64 t, .int .i64 n, .int .i64 a, .slice A ps.length c] gF gO n F ((List.replicate n 0).set a (2 ^ t))))
        case first =>
          go_region
          all_goals (go_wp2_with fail; go_meet)
          all_goals (refine ⟨?_⟩; rw [wrap_pow t (by omega)]; exact (U.out.drewN 1).setF a (2 ^ t))
        case rest =>
          have U := hcut
          clear hcut q0 q2 ca cf
          have H0b : Keep (∀ x ∈ (List.replicate n 0).set a (2 ^ t), x < 2 ^ 64) := ⟨set_lt (fun x hx => by have := (List.mem_replicate.1 hx).2; omega) a (2 ^ t) (Nat.pow_lt_pow_right (by decide) (by omega))⟩
          have HF0 : Keep (lack ((List.replicate n 0).set a (2 ^ t)) < 64 * n + 1) := ⟨by
            have := lack_le ((List.replicate n 0).set a (2 ^ t))
            simp only [List.length_set, List.length_replicate] at this
            omega⟩
          clear i1
          go_wp2
          go_loopg [9] (64 * n + 1) (fun gg s9 wr => ∃ u : Fi, s9 = .bool u.more ∧ Keep (u.more = true → lack u.m < gg) ∧ Keep (∀ x ∈ u.m, x < 2 ^ 64) ∧
            Keep (LW w wr #[.int .i64 t, .int .i64 n, .int .i64 a, .slice A ps.length c] gF gO n F u.m) ∧ Keep (followLoop F ps gg u = followLoop F ps (64 * n + 1) ⟨(List.replicate n 0).set a (2 ^ t), true⟩))
          case atStart => exact ⟨⟨(List.replicate n 0).set a (2 ^ t), true⟩, rfl, ⟨fun _ => HF0.out⟩, H0b, U, ⟨rfl⟩⟩
          case round =>
            clear U HF0 H0b
            obtain ⟨⟨m, more⟩, rfl, HM, HB, U, HL⟩ := hrel
            dsimp only at *
            cases more with
            | false =>
              replace HL := HL.out
              rw [followLoop_done _ _ _ _ rfl] at HL
              have HE : Keep (R = (tlist (gn m y), 0)) := ⟨by rw [HR2.out, ← HL]⟩
              clear HL HR2
              have cy := U.out.bo.cell y
              rw [u64s_gn _ y (by rw [U.out.lf]; omega)] at cy
              have KL := Keep.mk (list_any (gn m y) wr (gn_lt HB.out _))
              generalize gn m y = v at *
              have i1 : (y : Int) < n := by omega
              go_wp2_with fail
              refine KL.out.mono ?_
              rintro e w3 ⟨v3, rfl, ho, hb⟩
              have B3 : Keep (Below w.heap.size w w3) := ⟨below_step U.out.bw hb U.out.bw.size⟩
              have HO := Keep.mk (ho.mono U.out.bw.size)
              clear ho hb
              go_wp2
              go_ret2
              rw [HE.out]
              exact ⟨v3, rfl, HO.out, B3.out⟩
            | true =>
              obtain ⟨fu, rfl⟩ : ∃ m, gk = m + 1 := ⟨gk - 1, by have := HM.out rfl; omega⟩
              replace HL := HL.out
              rw [followLoop_go _ _ _ _ rfl] at HL
              have HL2 := Keep.mk HL
              have HRn := Keep.mk (followRound_le (n := n) (u := ⟨m, true⟩) (ps := ps) HF.out U.out.lf HB.out P0.out)
              clear HL
              have h3 := U.out.bg.cell 3
              simp at h3
              go_wp2
              go_loopg [9, 44] ps.length (fun gg s9 s44 wr => ∃ (j : Nat) (u : Fi), j ≤ ps.length ∧ ps.length - j ≤ gg ∧ s9 = .bool u.more ∧ s44 = .int .i64 j ∧
                Keep (u = (ps.take j).foldl (followBody F) ⟨m, false⟩) ∧ Keep (∀ x ∈ u.m, x < 2 ^ 64) ∧ Keep (LW w wr #[.int .i64 t, .int .i64 n, .int .i64 a, .slice A ps.length c] gF gO n F u.m))
              case atStart => exact ⟨0, ⟨m, false⟩, Nat.zero_le _, by omega, rfl, rfl, ⟨by simp⟩, HB, U⟩
              case round =>
                clear U h3 HB
                obtain ⟨j, u, hj, hgj, rfl, rfl, HU, HB, U⟩ := hrel
                by_cases hltj : j < ps.length
                · obtain ⟨ad, Ab, cb, rfl, hb, c0, c1, c2, hlb, hrb⟩ := H0.out.r j hltj
                  replace c0 := cell_below c0 U.out.bw (by rw [add_block]; exact hb)
                  replace c1 := cell_below c1 U.out.bw (by show (ad.add _).block < _; rw [add_block]; exact hb)
                  replace c2 := cell_below c2 U.out.bw (by show (ad.add _).block < _; rw [add_block]; exact hb)
                  dsimp only at c0 c1 c2 hlb hrb
                  have hbl := L0.out _ (List.getElem_mem hltj)
                  have hpi := Keep.mk (P0.out _ (List.getElem_mem hltj))
                  have HU2 : Keep ((ps.take (j + 1)).foldl (followBody F) ⟨m, false⟩ = followBody F u ps[j]) := ⟨by rw [List.take_succ_eq_append_getElem hltj, List.foldl_append, ← HU.out]; rfl⟩
                  clear HU
                  generalize hx : ps[j] = p at *
                  clear hx
                  obtain ⟨hd, bd, rt⟩ := p
                  dsimp only at *
                  obtain ⟨d, rfl⟩ := Int.eq_ofNat_of_zero_le hpi.out.1
                  have hdn : (d : Int) < n := by have := hpi.out.2.1; simp at this; omega
                  have i1 : (0:Int) ≤ j := by omega
                  have i2 : (j : Int) < ps.length := by omega
                  have HU3 : Keep (followBody F u ⟨d, bd, rt⟩ = (List.range bd.length).foldl (followIn F ⟨d, bd, rt⟩) u) := ⟨rfl⟩
                  have UP : Keep (LW w (wr.alloc (.cells #[.int .i64 d, .slice Ab bd.length cb, .bool rt] 38)) #[.int .i64 t, .int .i64 n, .int .i64 a, .slice (some ad) ps.length c] gF gO n F u.m) := ⟨U.out.alloc _⟩
                  have BP : Keep (Blk (wr.alloc (.cells #[.int .i64 d, .slice Ab bd.length cb, .bool rt] 38)) wr.heap.size 38 #[.int .i64 d, .slice Ab bd.length cb, .bool rt]) := ⟨Blk.new _ _ _⟩
                  have np : gF < wr.heap.size ∧ gO < wr.heap.size ∧ w.heap.size ≤ wr.heap.size := ⟨U.out.bf.lt, U.out.bo.lt, U.out.bw.size⟩
                  clear U
                  obtain ⟨wo, rfl⟩ : ∃ wo : World, wo = wr := ⟨_, rfl⟩
                  go_wp2
                  go_loopg [9, 51] bd.length (fun gg s9 s51 wr => ∃ (i : Nat) (u2 : Fi), i ≤ bd.length ∧ bd.length - i ≤ gg ∧ s9 = .bool u2.more ∧ s51 = .int .i64 i ∧ Keep (u2 = (List.range i).foldl (followIn F ⟨d, bd, rt⟩) u) ∧ Keep (∀ x ∈ u2.m, x < 2 ^ 64) ∧
                    Keep (LW w wr #[.int .i64 t, .int .i64 n, .int .i64 a, .slice (some ad) ps.length c] gF gO n F u2.m) ∧ Keep (Blk wr wo.heap.size 38 #[.int .i64 d, .slice Ab bd.length cb, .bool rt]))
                  case atStart => exact ⟨0, u, Nat.zero_le _, by omega, rfl, rfl, ⟨by simp⟩, HB, UP, BP⟩
                  case round =>
                    clear UP BP HB c0 c1 c2
                    obtain ⟨i, u2, hi, hgi, rfl, rfl, HV, HB, U, BP⟩ := hrel
                    by_cases hlti : i < bd.length
                    · obtain ⟨a2, rfl, hb2, hc2⟩ := hrb.int i hlti
                      replace hc2 := cell_below hc2 U.out.bw (by rw [add_block]; exact hb2)
                      have hs := hpi.out.2.2 _ (List.getElem_mem hlti)
                      have HV2 : Keep ((List.range (i + 1)).foldl (followIn F ⟨d, bd, rt⟩) u = followIn F ⟨d, bd, rt⟩ u2 i) := ⟨by rw [List.range_succ, List.foldl_append, ← HV.out]; rfl⟩
                      have hgz : Keep (bd.getD i 0 = bd[i]) := ⟨by simp [hlti]⟩
                      have HN := Keep.mk (followIn_le (p := ⟨d, bd, rt⟩) (k := i) HF.out U.out.lf HB.out (by dsimp only; rw [hgz.out]; exact hs.2))
                      clear HV
                      generalize bd[i] = z at *
                      obtain ⟨z, rfl⟩ := Int.eq_ofNat_of_zero_le hs.1
                      have hzn : (z : Int) < n := by have := hs.2; simp at this; omega
                      clear hs
                      have j1 : (0:Int) ≤ i := by omega
                      have j2 : (i : Int) < bd.length := by omega
                      have q0 := BP.out.cell 0
                      have q1 := BP.out.cell 1
                      simp at q0 q1
                      have cd := U.out.bo.cell d
                      rw [u64s_gn _ d (by rw [U.out.lf]; omega)] at cd
                      by_cases hnx : i + 1 < bd.length
                      · obtain ⟨a3, e3, hb3, hc3⟩ := hrb.int (i + 1) hnx
                        cases e3
                        replace hc3 := cell_below hc3 U.out.bw (by rw [add_block]; exact hb3)
                        have hs := hpi.out.2.2 _ (List.getElem_mem hnx)
                        have hg3 : Keep (bd.getD (i + 1) 0 = bd[i + 1]) := ⟨by simp [hnx]⟩
                        generalize bd[i + 1] = z3 at *
                        obtain ⟨z3, rfl⟩ := Int.eq_ofNat_of_zero_le hs.1
                        have hzn3 : (z3 : Int) < n := by have := hs.2; simp at this; omega
                        clear hs
                        simp only [Addr.add, Nat.add_eq_zero_iff, Nat.one_ne_zero, and_false, if_false] at hc3
                        have cF := U.out.bf.cell z3
                        rw [u64s_gn _ z3 (by rw [U.out.lF]; omega)] at cF
                        have HX0 : Keep (followX F ⟨d, bd, rt⟩ u2.m i = gn F z3) := ⟨by unfold followX; dsimp only; rw [if_pos hnx, hg3.out]⟩
                        obtain ⟨X, hX⟩ : ∃ X, X = gn F z3 := ⟨_, rfl⟩
                        rw [← hX] at cF HX0
                        have HX := HX0
                        clear HX0 hX
                        have j3 : (0 : Int) ≤ (i : Int) + 1 := by omega
                        have j4 : (i : Int) + 1 < bd.length := by omega
                        have j5 : ((i : Int) + 1).toNat = i + 1 := by omega
                        have hlX : X < 2 ^ 64 := by rw [← HX.out]; exact followX_lt HF.out HB.out
                        have hlv : gn u2.m z < 2 ^ 64 := gn_lt HB.out _
                        have or1 := or64 X (gn u2.m z) hlX hlv
                        have or2 := or64 (gn u2.m z) X hlv hlX
                        have cz := U.out.bo.cell z
                        rw [u64s_gn _ z (by rw [U.out.lf]; omega)] at cz
                        have cf := U.out.bo.frozen z
                        have HIN : Keep ((X ||| gn u2.m z = gn u2.m z → followIn F ⟨d, bd, rt⟩ u2 i = u2) ∧ (¬ X ||| gn u2.m z = gn u2.m z → followIn F ⟨d, bd, rt⟩ u2 i = ⟨u2.m.set z (gn u2.m z ||| X), true⟩)) := ⟨by
                          unfold followIn
                          dsimp only
                          rw [HX.out, hgz.out]
                          exact ⟨fun h => if_pos h, fun h => if_neg h⟩⟩
                        clear hlX hlv
                        generalize gn u2.m z = v at *
                        by_cases hne : (X ||| v) = v
                        · have t1 : ((((X ||| v : Nat) : Int)) != (v : Int)) = false := by simp [hne]
                          have e : Keep (followIn F ⟨d, bd, rt⟩ u2 i = u2) := ⟨HIN.out.1 hne⟩
                          clear hne
                          generalize (X ||| v : Nat) = v3 at *
                          generalize (v ||| X : Nat) = v4 at *
                          go_wp2
                          go_quiet (fail)
                          go_wp2
                          go_roundg (bd.length - (i + 1))
                          case measure => omega
                          case rel => exact ⟨i + 1, u2, by omega, by omega, rfl, by go_num, ⟨by rw [HV2.out, e.out]⟩, HB, ⟨U.out.drewN _⟩, ⟨BP.out.drewN _⟩⟩
                        · have t1 : ((((X ||| v : Nat) : Int)) != (v : Int)) = true := by simp; omega
                          have e : Keep (followIn F ⟨d, bd, rt⟩ u2 i = ⟨u2.m.set z (v ||| X), true⟩) := ⟨HIN.out.2 hne⟩
                          clear hne
                          have HN2 := Keep.mk HN.out.b
                          rw [e.out] at HN2
                          generalize (X ||| v : Nat) = v3 at *
                          generalize (v ||| X : Nat) = v4 at *
                          go_wp2
                          go_quiet (fail)
                          go_wp2
                          go_roundg (bd.length - (i + 1))
                          case measure => omega
                          case rel => exact ⟨i + 1, ⟨u2.m.set z v4, true⟩, by omega, by omega, rfl, by go_num, ⟨by rw [HV2.out, e.out]⟩, HN2, ⟨(U.out.drewN _).setF z v4⟩, ⟨(BP.out.drewN _).far (by show wo.heap.size ≠ gO; omega) _⟩⟩
                      · have j4 : ¬ ((i : Int) + 1 < bd.length) := by omega
                        have HX0 : Keep (followX F ⟨d, bd, rt⟩ u2.m i = gn u2.m d) := ⟨by unfold followX; dsimp only; rw [if_neg hnx]⟩
                        obtain ⟨X, hX⟩ : ∃ X, X = gn u2.m d := ⟨_, rfl⟩
                        rw [← hX] at cd HX0
                        have HX := HX0
                        clear HX0 hX
                        have hlX : X < 2 ^ 64 := by rw [← HX.out]; exact followX_lt HF.out HB.out
                        have hlv : gn u2.m z < 2 ^ 64 := gn_lt HB.out _
                        have or1 := or64 X (gn u2.m z) hlX hlv
                        have or2 := or64 (gn u2.m z) X hlv hlX
                        have cz := U.out.bo.cell z
                        rw [u64s_gn _ z (by rw [U.out.lf]; omega)] at cz
                        have cf := U.out.bo.frozen z
                        have HIN : Keep ((X ||| gn u2.m z = gn u2.m z → followIn F ⟨d, bd, rt⟩ u2 i = u2) ∧ (¬ X ||| gn u2.m z = gn u2.m z → followIn F ⟨d, bd, rt⟩ u2 i = ⟨u2.m.set z (gn u2.m z ||| X), true⟩)) := ⟨by
                          unfold followIn
                          dsimp only
                          rw [HX.out, hgz.out]
                          exact ⟨fun h => if_pos h, fun h => if_neg h⟩⟩
                        clear hlX hlv
                        generalize gn u2.m z = v at *
                        by_cases hne : (X ||| v) = v
                        · have t1 : ((((X ||| v : Nat) : Int)) != (v : Int)) = false := by simp [hne]
                          have e : Keep (followIn F ⟨d, bd, rt⟩ u2 i = u2) := ⟨HIN.out.1 hne⟩
                          clear hne
                          generalize (X ||| v : Nat) = v3 at *
                          generalize (v ||| X : Nat) = v4 at *
                          go_wp2
                          go_quiet (fail)
                          go_wp2
                          go_roundg (bd.length - (i + 1))
                          case measure => omega
                          case rel => exact ⟨i + 1, u2, by omega, by omega, rfl, by go_num, ⟨by rw [HV2.out, e.out]⟩, HB, ⟨U.out.drewN _⟩, ⟨BP.out.drewN _⟩⟩
                        · have t1 : ((((X ||| v : Nat) : Int)) != (v : Int)) = true := by simp; omega
                          have e : Keep (followIn F ⟨d, bd, rt⟩ u2 i = ⟨u2.m.set z (v ||| X), true⟩) := ⟨HIN.out.2 hne⟩
                          clear hne
                          have HN2 := Keep.mk HN.out.b
                          rw [e.out] at HN2
                          generalize (X ||| v : Nat) = v3 at *
                          generalize (v ||| X : Nat) = v4 at *
                          go_wp2
                          go_quiet (fail)
                          go_wp2
                          go_roundg (bd.length - (i + 1))
                          case measure => omega
                          case rel => exact ⟨i + 1, ⟨u2.m.set z v4, true⟩, by omega, by omega, rfl, by go_num, ⟨by rw [HV2.out, e.out]⟩, HN2, ⟨(U.out.drewN _).setF z v4⟩, ⟨(BP.out.drewN _).far (by show wo.heap.size ≠ gO; omega) _⟩⟩
                    · have ei : i = bd.length := by omega
                      subst ei
                      go_wp2
                      go_roundg (ps.length - (j + 1))
                      case measure => omega
                      case rel => exact ⟨j + 1, u2, by omega, by omega, rfl, by go_num, ⟨by rw [HU2.out, HU3.out, HV.out]⟩, HB, U⟩
                · have em : j = ps.length := by omega
                  subst em
                  go_wp2
                  go_roundg fu
                  case measure => omega
                  case rel =>
                    have hu : u = followRound F ps ⟨m, true⟩ := by rw [HU.out, List.take_length]; rfl
                    refine ⟨u, rfl, ⟨fun h => ?_⟩, HB, U, ⟨by rw [hu]; exact HL2.out⟩⟩
                    have h1 := HRn.out.2.2
                    rw [← hu] at h1
                    have h2 := HM.out (by first | rfl | trivial)
                    have h3 := h1 h
                    omega
    · have HR2 : Keep (R = ([], 2)) := ⟨by rw [HR.out, if_pos rfl, if_neg hs]⟩
      clear HR
      go_wp2
      all_goals
        go_ret2
        rw [HR2.out]
        exact ⟨_, rfl, OwnI.nil _ _, B1.out⟩
  · have t : ((E : Int) != 0) = true := by simp [hE]
    have HR2 : Keep (R = ([], E)) := ⟨by rw [HR.out, if_neg hE]⟩
    clear HR hE
    go_wp2
    go_ret2
    rw [HR2.out]
    exact ⟨_, rfl, OwnI.nil _ _, B1.out⟩
end Go.Proofs.Ytofidghilcbegaa.H
