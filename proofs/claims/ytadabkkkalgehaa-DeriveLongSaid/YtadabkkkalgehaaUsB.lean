/-
  grams.used, walked.
-/
import Derived.Test.YtadabkkkalgehaaUsA
namespace Go.Proofs.Ytadabkkkalgehaa.H
open Go.RowKit
set_option linter.unusedVariables false
set_option linter.unusedSimpArgs false

theorem info_bool : (Try.prog.info? 4).map (fun i => (i.zero, i.size, i.bytes)) = some (some (.bool false), 1, 1) := by kernel_rfl

/-- What is asked of a grammar that is handed to used, round, firsts: its numbers are in order. -/
structure GrOk (g : Gr) : Prop where
  t0 : 1 ≤ g.T
  t1 : g.T ≤ 32
  s0 : g.T < g.S
  s1 : g.S ≤ 64
  st0 : g.T ≤ g.st
  st1 : g.st < g.S
  n0 : 0 < g.ps.length
  n1 : g.ps.length ≤ 64
  pr : ∀ p ∈ g.ps, g.T ≤ p.head ∧ p.head < g.S ∧ ∀ s ∈ p.body, 0 ≤ s ∧ s < g.S

set_option maxRecDepth 100000 in
set_option maxHeartbeats 4000000 in
theorem used_any (g : Gr) (A : Option Addr) (c : Nat) (w : World) (hbl : ∀ p ∈ g.ps, p.body.length ≤ 9223372036854775807) (hr : RdP w w.heap.size A g.ps) (ok : GrOk g) :
    Calls Try.prog 52 #[grV g A c] w fun e w' => e = .returned (.bool (usedB g)) ∧ Below w.heap.size w w' := by
  obtain ⟨T, S, st, ps⟩ := g
  obtain ⟨t0, t1, s0, s1, st0, st1, n0, n1, pr⟩ := ok
  dsimp only at *
  obtain ⟨t, rfl⟩ := Int.eq_ofNat_of_zero_le (show 0 ≤ T by omega)
  obtain ⟨n, rfl⟩ := Int.eq_ofNat_of_zero_le (show 0 ≤ S by omega)
  obtain ⟨a, rfl⟩ := Int.eq_ofNat_of_zero_le (show 0 ≤ st by omega)
  have R0 : Keep (RdP w w.heap.size A ps) := ⟨hr⟩
  have B0 : Keep (∀ p ∈ ps, p.body.length ≤ 9223372036854775807) := ⟨hbl⟩
  have P0 : Keep (∀ p ∈ ps, PrIn n p) := ⟨fun p hp => ⟨by have := pr p hp; omega, by have := pr p hp; omega, fun s hs => by have := (pr p hp).2.2 s hs; omega⟩⟩
  clear hr hbl pr
  generalize hG : usedB ⟨t, n, a, ps⟩ = RES
  have HG : Keep (usedB ⟨t, n, a, ps⟩ = RES) := ⟨hG⟩
  clear hG
  unfold grV
  dsimp only
  have hmk := @run_make_row' Try.prog 76 4 (.bool false) 1 Try.underlying76 info_bool rfl .i64 .i64 n (by omega) (by omega)
  simp only [madeCells_bools] at hmk
  go_enter Try.func52, Try.ntmps52
  go_upto_region 1 with fail
  go_cut [3, 4] (fun s3 s4 wx => ∃ gC gX gG : Nat, s3 = .slice (some ⟨gC, 0, none⟩) n n ∧ s4 = .pointer (some ⟨gX, 0, none⟩) ∧
    Keep (UW w wx #[.int .i64 t, .int .i64 n, .int .i64 a, .slice A ps.length c] gC gX gG n (List.replicate n false) (List.replicate n false)))
  case first =>
    go_region
    all_goals (go_wp2_with fail; go_meet)
    all_goals first
      | (refine ⟨_, _, w.heap.size + 1, rfl, rfl, ⟨UW.start ?_ ?_ ?_ ?_ ?_ (by simp; try omega)⟩⟩
         · (repeat first | ((with_reducible refine Blk.newAt ?_); simp; done) | (with_reducible refine Blk.drew ?_) | (with_reducible refine Blk.alloc ?_ _)); done
         · (repeat first | ((with_reducible refine Blk.newAt ?_); simp; done) | (with_reducible refine Blk.drew ?_) | (with_reducible refine Blk.alloc ?_ _)); done
         · (repeat first | ((with_reducible refine Blk.newAt ?_); simp; done) | (with_reducible refine Blk.drew ?_) | (with_reducible refine Blk.alloc ?_ _)); done
         · (repeat first | ((with_reducible refine Blk.newAt ?_); simp; done) | (with_reducible refine Blk.drew ?_) | (with_reducible refine Blk.alloc ?_ _)); done
         · exact below_drew1 ((((Below.refl _ _).alloc (by simp) _).alloc (by simp; try omega) _).alloc (by simp; try omega) _ |>.alloc (by simp; try omega) _))
      | (refine ⟨_, _, w.heap.size + 1 + 1, rfl, rfl, ⟨UW.start ?_ ?_ ?_ ?_ ?_ (by simp; try omega)⟩⟩
         · (repeat first | ((with_reducible refine Blk.newAt ?_); simp; done) | (with_reducible refine Blk.drew ?_) | (with_reducible refine Blk.alloc ?_ _)); done
         · (repeat first | ((with_reducible refine Blk.newAt ?_); simp; done) | (with_reducible refine Blk.drew ?_) | (with_reducible refine Blk.alloc ?_ _)); done
         · (repeat first | ((with_reducible refine Blk.newAt ?_); simp; done) | (with_reducible refine Blk.drew ?_) | (with_reducible refine Blk.alloc ?_ _)); done
         · (repeat first | ((with_reducible refine Blk.newAt ?_); simp; done) | (with_reducible refine Blk.drew ?_) | (with_reducible refine Blk.alloc ?_ _)); done
         · exact below_drew1 ((((Below.refl _ _).alloc (by simp) _).alloc (by simp; try omega) _).alloc (by simp; try omega) _ |>.alloc (by simp; try omega) _))
      | (refine ⟨_, _, w.heap.size + 1 + 1 + 1, rfl, rfl, ⟨UW.start ?_ ?_ ?_ ?_ ?_ (by simp; try omega)⟩⟩
         · (repeat first | ((with_reducible refine Blk.newAt ?_); simp; done) | (with_reducible refine Blk.drew ?_) | (with_reducible refine Blk.alloc ?_ _)); done
         · (repeat first | ((with_reducible refine Blk.newAt ?_); simp; done) | (with_reducible refine Blk.drew ?_) | (with_reducible refine Blk.alloc ?_ _)); done
         · (repeat first | ((with_reducible refine Blk.newAt ?_); simp; done) | (with_reducible refine Blk.drew ?_) | (with_reducible refine Blk.alloc ?_ _)); done
         · (repeat first | ((with_reducible refine Blk.newAt ?_); simp; done) | (with_reducible refine Blk.drew ?_) | (with_reducible refine Blk.alloc ?_ _)); done
         · exact below_drew1 ((((Below.refl _ _).alloc (by simp) _).alloc (by simp; try omega) _).alloc (by simp; try omega) _ |>.alloc (by simp; try omega) _))
  case rest =>
    obtain ⟨gC, gX, gG, rfl, rfl, U⟩ := hcut
    have g2 := U.out.bg.cell 2
    have g0 := U.out.bg.cell 0
    simp at g0 g2
    have cc := U.out.bc.cell a
    rw [bools_at _ a (by simp; omega)] at cc
    have cf := U.out.bc.frozen a
    have i1 : (a : Int) < n := by omega
    go_wp2
    have U2 : Keep (UW w (wc.setCell ⟨gC, a, none⟩ (.bool true)) #[.int .i64 t, .int .i64 n, .int .i64 a, .slice A ps.length c] gC gX gG n ((List.replicate n false).set a true) (List.replicate 0 true ++ List.replicate (n - 0) false)) := ⟨U.out.setC a true⟩
    clear g0 g2 cc cf U
    go_loopg [23] t (fun gg s23 wr => ∃ k : Nat, k ≤ t ∧ t - k ≤ gg ∧ s23 = .int .i64 k ∧
      Keep (UW w wr #[.int .i64 t, .int .i64 n, .int .i64 a, .slice A ps.length c] gC gX gG n ((List.replicate n false).set a true) (List.replicate k true ++ List.replicate (n - k) false)))
    case atStart => exact ⟨0, Nat.zero_le _, by omega, rfl, U2⟩
    case round =>
      clear U2
      obtain ⟨k, hk, hg, rfl, U⟩ := hrel
      by_cases hlt : k < t
      · have cc := U.out.bd.cell k
        rw [bools_at _ k (by simp; omega)] at cc
        have cf := U.out.bd.frozen k
        have cx := U.out.bx.cell 0
        simp at cx
        have i2 : (k : Int) < n := by omega
        go_wp2
        go_roundg (t - (k + 1))
        case measure => omega
        case rel =>
          refine ⟨k + 1, by omega, by omega, by go_num, ⟨?_⟩⟩
          have := U.out.setG k true
          rwa [fill_set k n (by omega)] at this
      · have ek : k = t := by omega
        subst ek
        go_wp2
        have HS : Keep (usedLoop ps (2 * n + 1) ⟨(List.replicate n false).set a true, List.replicate k true ++ List.replicate (n - k) false, true⟩ = usedEnd ⟨k, n, a, ps⟩) := ⟨by simp [usedEnd, used0]⟩
        have HF0 : Keep (true = true → falses ⟨(List.replicate n false).set a true, List.replicate k true ++ List.replicate (n - k) false, true⟩ < 2 * n + 1) := ⟨fun _ => by
          have h1 := List.count_le_length (l := (List.replicate n false).set a true) (a := false)
          have h2 := List.count_le_length (l := List.replicate k true ++ List.replicate (n - k) false) (a := false)
          simp only [List.length_set, List.length_append, List.length_replicate] at h1 h2
          simp only [falses]; omega⟩
        clear i1 hg
        go_loopg [6] (2 * n + 1) (fun gg s6 wr => ∃ u : Us, s6 = .bool u.more ∧ Keep (u.more = true → falses u < gg) ∧
          Keep (UW w wr #[.int .i64 k, .int .i64 n, .int .i64 a, .slice A ps.length c] gC gX gG n u.come u.good) ∧ Keep (usedLoop ps gg u = usedEnd ⟨k, n, a, ps⟩))
        case atStart => exact ⟨_, rfl, HF0, U, HS⟩
        case round =>
          clear U HS HF0
          obtain ⟨⟨come, good, more⟩, rfl, HF, U, HL⟩ := hrel
          dsimp only at *
          cases more with
          | false =>
            replace HL := HL.out
            rw [usedLoop_done _ _ _ rfl] at HL
            have HE : Keep (RES = (!(come.drop k).any (fun x => false == x) && !good.any (fun x => false == x))) := ⟨by
              rw [← HG.out]; simp only [usedB, ← HL]; simp⟩
            clear HL
            have h0 := U.out.bg.cell 0
            have hx := U.out.bx.cell 0
            simp at h0 hx
            have k1 := containsB (some ⟨gC, k, none⟩) (n - k) (n - k) (come.drop k) false wr (by rw [List.length_drop, U.out.lc]) (by rw [List.length_drop, U.out.lc]; omega) (rd_bools_drop k U.out.bc U.out.bc.lt)
            have k2 := containsB (some ⟨gG, 0, none⟩) n n good false wr U.out.lg.symm (by rw [U.out.lg]; omega) (rd_bools U.out.bd U.out.bd.lt)
            cases hq : (come.drop k).any (fun x => false == x) with
            | true =>
              rw [hq] at k1 HE
              clear hq k2
              go_wp2_with (go_at_call 66; refine k1.mono ?_; rintro e w' ⟨rfl, rfl⟩)
              go_ret
              exact ⟨by rw [HE.out]; rfl, U.out.bw⟩
            | false =>
              rw [hq] at k1 HE
              clear hq
              generalize good.any (fun x => false == x) = gq at k2 HE
              go_wp2_with (first
                | (go_at_call_of 66 (Value.slice (some ⟨gC, k, none⟩) (n - k) (n - k)); refine k1.mono ?_; rintro e w' ⟨rfl, rfl⟩)
                | (go_at_call_of 66 (Value.slice (some ⟨gG, 0, none⟩) n n); refine k2.mono ?_; rintro e w' ⟨rfl, rfl⟩))
              go_ret
              exact ⟨by rw [HE.out]; rfl, U.out.bw⟩
          | true =>
            obtain ⟨fu, rfl⟩ : ∃ m, gk = m + 1 := ⟨gk - 1, by have := HF.out rfl; omega⟩
            replace HL := HL.out
            rw [usedLoop_go _ _ _ rfl] at HL
            have HL2 := Keep.mk HL
            have HR := Keep.mk (usedRound_le (n := n) (u := ⟨come, good, true⟩) U.out.lc U.out.lg P0.out)
            clear HL
            have h3 := U.out.bg.cell 3
            simp at h3
            obtain ⟨wo, rfl⟩ : ∃ wo : World, wo = wr := ⟨_, rfl⟩
            go_wp2
            go_loopg [6, 34] ps.length (fun gg s6 s34 wr => ∃ (m : Nat) (u : Us), m ≤ ps.length ∧ ps.length - m ≤ gg ∧ s6 = .bool u.more ∧ s34 = .int .i64 m ∧
              Keep (u = (ps.take m).foldl usedStep ⟨come, good, false⟩) ∧ Keep (UW w wr #[.int .i64 k, .int .i64 n, .int .i64 a, .slice A ps.length c] gC gX gG n u.come u.good))
            case atStart => exact ⟨0, ⟨come, good, false⟩, Nat.zero_le _, by omega, rfl, rfl, ⟨by simp⟩, U⟩
            case round =>
              clear U h3
              obtain ⟨m, u, hm, hgm, rfl, rfl, HU, U⟩ := hrel
              by_cases hltm : m < ps.length
              · obtain ⟨ad, Ab, cb, rfl, hb, c0, c1, c2, hlb, hrb⟩ := R0.out m hltm
                replace c0 := cell_below c0 U.out.bw (by rw [add_block]; exact hb)
                replace c1 := cell_below c1 U.out.bw (by show (ad.add _).block < _; rw [add_block]; exact hb)
                replace c2 := cell_below c2 U.out.bw (by show (ad.add _).block < _; rw [add_block]; exact hb)
                have hbl := B0.out _ (List.getElem_mem hltm)
                have hpi := Keep.mk (P0.out _ (List.getElem_mem hltm))
                have HU2 : Keep ((ps.take (m + 1)).foldl usedStep ⟨come, good, false⟩ = usedStep u ps[m]) := ⟨by rw [List.take_succ_eq_append_getElem hltm, List.foldl_append, ← HU.out]; rfl⟩
                clear HU
                generalize hx : ps[m] = p at *
                clear hx
                obtain ⟨hd, bd, rt⟩ := p
                dsimp only at *
                obtain ⟨d, rfl⟩ := Int.eq_ofNat_of_zero_le hpi.out.1
                have hdn : (d : Int) < n := by have := hpi.out.2.1; simp at this; omega
                have i1 : (0:Int) ≤ m := by omega
                have i2 : (m : Int) < ps.length := by omega
                obtain ⟨wo, rfl⟩ : ∃ wo : World, wo = wr := ⟨_, rfl⟩
                go_upto_region 14 with fail
                have UP : Keep (UW w (wo.alloc (.cells #[.int .i64 d, .slice Ab bd.length cb, .bool rt] 55)) #[.int .i64 k, .int .i64 n, .int .i64 a, .slice (some ad) ps.length c] gC gX gG n u.come u.good) := ⟨U.out.alloc _⟩
                have BP : Keep (Blk (wo.alloc (.cells #[.int .i64 d, .slice Ab bd.length cb, .bool rt] 55)) wo.heap.size 55 #[.int .i64 d, .slice Ab bd.length cb, .bool rt]) := ⟨Blk.new _ _ _⟩
                have sz : w.heap.size ≤ wo.heap.size := U.out.bw.size
                have np : gC < wo.heap.size ∧ gG < wo.heap.size := ⟨U.out.bc.lt, U.out.bd.lt⟩
                generalize hpb : wo.heap.size = pb at *
                generalize hwp : wo.alloc _ = wp at *
                clear hwp c0 c1 c2 U hpb
                clear wo
                go_cut [50] (fun s50 wx => s50 = .bool (!(gb u.good d) && !(bd.any fun s => !(gb u.good s))) ∧
                  Keep (UW w wx #[.int .i64 k, .int .i64 n, .int .i64 a, .slice (some ad) ps.length c] gC gX gG n u.come u.good) ∧ Keep (Blk wx pb 55 #[.int .i64 d, .slice Ab bd.length cb, .bool rt]))
                case first =>
                  have q0 := BP.out.cell 0
                  have q1 := BP.out.cell 1
                  simp at q0 q1
                  have hx := UP.out.bx.cell 0
                  simp at hx
                  have gd := UP.out.bd.cell d
                  rw [bools_gb _ d (by rw [UP.out.lg]; omega)] at gd
                  have hany := containsFuncI Ab bd.length cb bd 65 #[.pointer (some ⟨gX, 0, none⟩)] (fun s => !(gb u.good s)) wp rfl hbl ((hrb.below UP.out.bw).mono UP.out.bw.size)
                    (enters_of Try.func65 rfl rfl)
                    (fun x hx W hW => (used1 gX gG n u.good x W (UP.out.bx.below hW UP.out.bx.lt) (UP.out.bd.below hW UP.out.bd.lt) UP.out.lg (hpi.out.2.2 x hx).1 (hpi.out.2.2 x hx).2).mono fun _ _ ⟨he, hw⟩ => ⟨he, by rw [hw]; exact hW⟩)
                  generalize hv : gb u.good d = v at gd
                  generalize hv2 : (bd.any fun s => !(gb u.good s)) = v2 at hany
                  have HV := Keep.mk hv
                  have HV2 := Keep.mk hv2
                  clear hv hv2
                  cases v with
                  | true =>
                    go_wp2_with fail
                    go_meet
                    exact ⟨by rw [HV.out]; rfl, UP, BP⟩
                  | false =>
                    go_wp2_with (go_at_call 64; refine hany.mono ?_; rintro e w' ⟨rfl, hb'⟩)
                    go_meet
                    exact ⟨by rw [HV.out, HV2.out]; rfl, ⟨UP.out.below hb'⟩, ⟨BP.out.below hb' BP.out.lt⟩⟩
                case rest =>
                  obtain ⟨rfl, U1, BP1⟩ := hcut
                  clear UP BP
                  go_upto_if 50 with fail
                  go_cut [6] (fun s6 wx => s6 = .bool (goodIn ⟨d, bd, rt⟩ u).more ∧
                    Keep (UW w wx #[.int .i64 k, .int .i64 n, .int .i64 a, .slice (some ad) ps.length c] gC gX gG n (goodIn ⟨d, bd, rt⟩ u).come (goodIn ⟨d, bd, rt⟩ u).good) ∧ Keep (Blk wx pb 55 #[.int .i64 d, .slice Ab bd.length cb, .bool rt]))
                  case first =>
                    generalize hc : (!(gb u.good d) && !(bd.any fun s => !(gb u.good s))) = b
                    cases b with
                    | true =>
                      have e : Keep (goodIn ⟨d, bd, rt⟩ u = { u with good := u.good.set d true, more := true }) := ⟨by unfold goodIn; dsimp only; rw [hc]; simp⟩
                      clear hc
                      have q0 := BP1.out.cell 0
                      have hx := U1.out.bx.cell 0
                      simp at q0 hx
                      have gd := U1.out.bd.cell d
                      rw [bools_at _ d (by rw [U1.out.lg]; omega)] at gd
                      have gf := U1.out.bd.frozen d
                      go_wp2_with fail
                      go_meet
                      rw [e.out]
                      exact ⟨rfl, ⟨U1.out.setG d true⟩, ⟨BP1.out.far (by show pb ≠ gG; omega) _⟩⟩
                    | false =>
                      have e : Keep (goodIn ⟨d, bd, rt⟩ u = u) := ⟨by unfold goodIn; dsimp only; rw [hc]; rfl⟩
                      clear hc
                      go_wp2_with fail
                      go_meet
                      rw [e.out]
                      exact ⟨rfl, U1, BP1⟩
                  case rest =>
                    obtain ⟨rfl, U2, BP2⟩ := hcut
                    clear U1 BP1
                    have HU3 : Keep ((ps.take (m + 1)).foldl usedStep ⟨come, good, false⟩ = bd.foldl (comeIn d) (goodIn ⟨d, bd, rt⟩ u)) := ⟨by rw [HU2.out]; rfl⟩
                    clear HU2
                    generalize goodIn ⟨d, bd, rt⟩ u = u1 at *
                    have q1 := BP2.out.cell 1
                    simp at q1
                    go_wp2
                    go_loopg [6, 58] bd.length (fun gg s6 s58 wr => ∃ (j : Nat) (u : Us), j ≤ bd.length ∧ bd.length - j ≤ gg ∧ s6 = .bool u.more ∧ s58 = .int .i64 j ∧ Keep (u = (bd.take j).foldl (comeIn d) u1) ∧
                      Keep (UW w wr #[.int .i64 k, .int .i64 n, .int .i64 a, .slice (some ad) ps.length c] gC gX gG n u.come u.good) ∧ Keep (Blk wr pb 55 #[.int .i64 d, .slice Ab bd.length cb, .bool rt]))
                    case atStart => exact ⟨0, u1, Nat.zero_le _, by omega, rfl, rfl, ⟨by simp⟩, U2, BP2⟩
                    case round =>
                      clear U2 BP2 q1
                      obtain ⟨j, u2, hj, hgj, rfl, rfl, HV, U, BP⟩ := hrel
                      by_cases hltj : j < bd.length
                      · obtain ⟨a2, rfl, hb2, hc2⟩ := hrb.int j hltj
                        replace hc2 := cell_below hc2 U.out.bw (by rw [add_block]; exact hb2)
                        have hs := hpi.out.2.2 _ (List.getElem_mem hltj)
                        have HV2 : Keep ((bd.take (j + 1)).foldl (comeIn d) u1 = comeIn d u2 bd[j]) := ⟨by rw [List.take_succ_eq_append_getElem hltj, List.foldl_append, ← HV.out]; rfl⟩
                        clear HV
                        generalize hy : bd[j] = y at *
                        clear hy
                        obtain ⟨y, rfl⟩ := Int.eq_ofNat_of_zero_le hs.1
                        have hyn : (y : Int) < n := by have := hs.2; simp at this; omega
                        have j1 : (0:Int) ≤ j := by omega
                        have j2 : (j : Int) < bd.length := by omega
                        have q0 := BP.out.cell 0
                        simp at q0
                        have ca := U.out.bc.cell d
                        rw [bools_gb _ d (by rw [U.out.lc]; omega)] at ca
                        have cb' := U.out.bc.cell y
                        rw [bools_gb _ y (by rw [U.out.lc]; omega)] at cb'
                        have cf := U.out.bc.frozen y
                        have hci : Keep (comeIn d u2 y = if gb u2.come d && !(gb u2.come y) then { u2 with come := u2.come.set y true, more := true } else u2) := ⟨rfl⟩
                        clear hs
                        generalize gb u2.come d = v1 at *
                        generalize gb u2.come y = v2 at *
                        cases v1 with
                        | false =>
                          have e : Keep (comeIn d u2 y = u2) := ⟨by rw [hci.out]; rfl⟩
                          go_wp2
                          go_roundg (bd.length - (j + 1))
                          case measure => omega
                          case rel => exact ⟨j + 1, u2, by omega, by omega, rfl, by go_num, ⟨by rw [HV2.out, e.out]⟩, U, BP⟩
                        | true =>
                          cases v2 with
                          | true =>
                            have e : Keep (comeIn d u2 y = u2) := ⟨by rw [hci.out]; rfl⟩
                            go_wp2
                            go_roundg (bd.length - (j + 1))
                            case measure => omega
                            case rel => exact ⟨j + 1, u2, by omega, by omega, rfl, by go_num, ⟨by rw [HV2.out, e.out]⟩, U, BP⟩
                          | false =>
                            have e : Keep (comeIn d u2 y = { u2 with come := u2.come.set y true, more := true }) := ⟨by rw [hci.out]; rfl⟩
                            go_wp2
                            go_roundg (bd.length - (j + 1))
                            case measure => omega
                            case rel => exact ⟨j + 1, _, by omega, by omega, rfl, by go_num, ⟨by rw [HV2.out, e.out]⟩, ⟨U.out.setC y true⟩, ⟨BP.out.far (by show pb ≠ gC; omega) _⟩⟩
                      · have ej : j = bd.length := by omega
                        subst ej
                        go_wp2
                        go_roundg (ps.length - (m + 1))
                        case measure => omega
                        case rel => exact ⟨m + 1, u2, by omega, by omega, rfl, by go_num, ⟨by rw [HU3.out, HV.out, List.take_length]⟩, U⟩
              · have em : m = ps.length := by omega
                subst em
                go_wp2
                go_roundg fu
                case measure => omega
                case rel =>
                  have hu : u = usedRound ps ⟨come, good, true⟩ := by rw [HU.out, List.take_length]; rfl
                  refine ⟨u, rfl, ⟨fun h => ?_⟩, U, ⟨by rw [hu]; exact HL2.out⟩⟩
                  have h1 := HR.out.2.2
                  rw [← hu] at h1
                  have h2 := HF.out (by first | rfl | trivial)
                  have h3 := h1 h
                  omega
end Go.Proofs.Ytadabkkkalgehaa.H
