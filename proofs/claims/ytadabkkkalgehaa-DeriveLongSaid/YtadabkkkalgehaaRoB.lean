/-
  grams.round, walked.
-/
import Derived.Test.YtadabkkkalgehaaRoA
namespace Go.Proofs.Ytadabkkkalgehaa.H
open Go.RowKit
set_option linter.unusedVariables false
set_option linter.unusedSimpArgs false

theorem foldl_range_succ {α : Type} (f : α → Nat → α) (T k : Nat) (hT : T ≤ k) (u : α) : (List.range' T (k + 1 - T)).foldl f u = f ((List.range' T (k - T)).foldl f u) k := by
  rw [show k + 1 - T = (k - T) + 1 from by omega, List.range'_concat, List.foldl_append]
  simp [show T + (k - T) = k from by omega]

set_option maxRecDepth 100000 in
set_option maxHeartbeats 4000000 in
theorem round_any (g : Gr) (A : Option Addr) (c : Nat) (w : World) (hbl : ∀ p ∈ g.ps, p.body.length ≤ 9223372036854775807) (hr : RdP w w.heap.size A g.ps) (ok : GrOk g) :
    Calls Try.prog 53 #[grV g A c] w fun e w' => e = .returned (.bool (roundB g)) ∧ Below w.heap.size w w' := by
  obtain ⟨T, S, st, ps⟩ := g
  obtain ⟨t0, t1, s0, s1, st0, st1, n0, n1, pr⟩ := ok
  dsimp only at *
  obtain ⟨t, rfl⟩ := Int.eq_ofNat_of_zero_le (show 0 ≤ T by omega)
  obtain ⟨n, rfl⟩ := Int.eq_ofNat_of_zero_le (show 0 ≤ S by omega)
  have R0 : Keep (RdP w w.heap.size A ps) := ⟨hr⟩
  have B0 : Keep (∀ p ∈ ps, p.body.length ≤ 9223372036854775807) := ⟨hbl⟩
  have P0 : Keep (∀ p ∈ ps, ∀ y ∈ p.body, 0 ≤ y ∧ y.toNat < n) := ⟨fun p hp s hs => by have := (pr p hp).2.2 s hs; omega⟩
  have LN : ps.length ≤ 9223372036854775807 := by omega
  clear hr hbl pr n0 n1 st0 st1
  generalize hG : roundB ⟨t, n, st, ps⟩ = RES
  have HG : Keep (roundB ⟨t, n, st, ps⟩ = RES) := ⟨hG⟩
  clear hG
  unfold grV
  dsimp only
  have hmk := @run_make_row' Try.prog 76 4 (.bool false) 1 Try.underlying76 info_bool rfl .i64 .i64 n (by omega) (by omega)
  simp only [madeCells_bools] at hmk
  go_enter Try.func53, Try.ntmps53
  go_upto_region 2 with fail
  go_cut [3, 4] (fun s3 s4 wx => ∃ gX gG : Nat, s3 = .pointer (some ⟨gX, 0, none⟩) ∧ s4 = .int .i64 t ∧ Keep (RW w wx #[.int .i64 t, .int .i64 n, .int .i64 st, .slice A ps.length c] gX gG n (List.replicate n false)))
  case first =>
    go_wp2_with fail
    go_meet
    refine ⟨_, w.heap.size + 1, rfl, rfl, ⟨(((Below.refl _ _).alloc (by simp) _).alloc (by simp) _).alloc (by simp; omega) _, ?_, Blk.newAt (by simp), ?_, by omega, by omega, by omega, by simp⟩⟩
    · exact ((Blk.new _ _ _).alloc _).alloc _
    · exact (Blk.newAt (by simp)).alloc _
  case rest =>
    obtain ⟨gX, gG, rfl, rfl, U⟩ := hcut
    have U2 : Keep (RW w wc #[.int .i64 t, .int .i64 n, .int .i64 st, .slice A ps.length c] gX gG n (List.replicate t false ++ List.replicate (t - t) true ++ List.replicate (n - t) false)) := ⟨by
      have e : List.replicate t false ++ List.replicate (t - t) true ++ List.replicate (n - t) false = List.replicate n false := by
        simp; omega
      rw [e]; exact U.out⟩
    clear U
    go_wp2
    go_loopg [4] (n - t) (fun gg s4 wr => ∃ k : Nat, t ≤ k ∧ k ≤ n ∧ n - k ≤ gg ∧ s4 = .int .i64 k ∧
      Keep (RW w wr #[.int .i64 t, .int .i64 n, .int .i64 st, .slice A ps.length c] gX gG n (List.replicate t false ++ List.replicate (k - t) true ++ List.replicate (n - k) false)))
    case atStart => exact ⟨t, Nat.le_refl _, by omega, by omega, rfl, U2⟩
    case round =>
      clear U2
      obtain ⟨k, hk1, hk2, hg, rfl, U⟩ := hrel
      have g0 := U.out.bg.cell 0
      have g1 := U.out.bg.cell 1
      simp at g0 g1
      by_cases hlt : k < n
      · have cc := U.out.bd.cell k
        rw [bools_gb _ k (by rw [U.out.lg]; omega)] at cc
        have cf := U.out.bd.frozen k
        have cx := U.out.bx.cell 0
        simp at cx
        go_wp2
        go_roundg (n - (k + 1))
        case measure => omega
        case rel =>
          refine ⟨k + 1, by omega, by omega, by omega, by go_num, ⟨?_⟩⟩
          have := U.out.setG k true
          rwa [fill_true t k n hk1 hlt] at this
      · have ek : k = n := by omega
        subst ek
        have U2 : Keep (RW w wr (#[.int .i64 t, .int .i64 k, .int .i64 st, .slice A ps.length c]) gX gG k (List.replicate t false ++ List.replicate (k - t) true)) := ⟨by
          have := U.out
          rw [Nat.sub_self, List.replicate_zero, List.append_nil] at this
          exact this⟩
        go_wp2
        have HS : Keep (roundLoop ps t k (k + 1) ⟨List.replicate t false ++ List.replicate (k - t) true, true⟩ = roundEnd ⟨t, k, st, ps⟩) := ⟨by simp [roundEnd, round0]⟩
        have HF0 : Keep (true = true → (List.replicate t false ++ List.replicate (k - t) true).count true < k + 1) := ⟨fun _ => by
          have h2 := List.count_le_length (l := List.replicate t false ++ List.replicate (k - t) true) (a := true)
          simp only [List.length_append, List.length_replicate] at h2
          omega⟩
        clear U g0 g1
        go_loopg [5] (k + 1) (fun gg s5 wr => ∃ u : Ro, s5 = .bool u.more ∧ Keep (u.more = true → u.left.count true < gg) ∧
          Keep (RW w wr #[.int .i64 t, .int .i64 k, .int .i64 st, .slice A ps.length c] gX gG k u.left) ∧ Keep (roundLoop ps t k gg u = roundEnd ⟨t, k, st, ps⟩))
        case atStart => exact ⟨_, rfl, HF0, U2, HS⟩
        case round =>
          clear U2 HS HF0
          obtain ⟨⟨left, more⟩, rfl, HF, U, HL⟩ := hrel
          dsimp only at *
          cases more with
          | false =>
            replace HL := HL.out
            rw [roundLoop_done _ _ _ _ _ rfl] at HL
            have HE : Keep (RES = left.any (fun x => true == x)) := ⟨by rw [← HG.out]; simp only [roundB, ← HL]⟩
            clear HL
            have hx := U.out.bx.cell 0
            simp at hx
            have k2 := containsB (some ⟨gG, 0, none⟩) k k left true wr U.out.lg.symm (by rw [U.out.lg]; omega) (rd_bools U.out.bd U.out.bd.lt)
            generalize left.any (fun x => true == x) = gq at k2 HE
            go_wp2_with (go_at_call 66; refine k2.mono ?_; rintro e w' ⟨rfl, rfl⟩)
            go_ret
            exact ⟨by rw [HE.out]; rfl, U.out.bw⟩
          | true =>
            obtain ⟨fu, rfl⟩ : ∃ m, gk = m + 1 := ⟨gk - 1, by have := HF.out rfl; omega⟩
            replace HL := HL.out
            rw [roundLoop_go _ _ _ _ _ rfl] at HL
            have HL2 := Keep.mk HL
            have HR := Keep.mk (roundRound_le (n := k) (T := t) (ps := ps) (u := ⟨left, true⟩) U.out.lg)
            clear HL
            have h0 := U.out.bg.cell 0
            simp at h0
            obtain ⟨wo, rfl⟩ : ∃ wo : World, wo = wr := ⟨_, rfl⟩
            go_wp2
            have nw : gX < wo.heap.size ∧ gG < wo.heap.size ∧ w.heap.size < wo.heap.size := ⟨U.out.bx.lt, U.out.bd.lt, U.out.bg.lt⟩
            go_loopg [5, 6] (k - t) (fun gg s5 s6 wr => ∃ (m gS : Nat) (u : Ro), t ≤ m ∧ m ≤ k ∧ k - m ≤ gg ∧ s5 = .bool u.more ∧ s6 = .pointer (some ⟨gS, 0, none⟩) ∧ (gS ≠ gX ∧ gS ≠ gG ∧ w.heap.size < gS) ∧
              Keep (Blk wr gS 3 #[.int .i64 m]) ∧ Keep (u = (List.range' t (m - t)).foldl (roundIn ps) ⟨left, false⟩) ∧ Keep (RW w wr #[.int .i64 t, .int .i64 k, .int .i64 st, .slice A ps.length c] gX gG k u.left))
            case atStart =>
              exact ⟨t, wo.heap.size, ⟨left, false⟩, Nat.le_refl _, by omega, by omega, rfl, rfl, ⟨by omega, by omega, by omega⟩, ⟨Blk.new _ _ _⟩, ⟨by simp⟩, ⟨U.out.alloc _⟩⟩
            case round =>
              clear U h0 nw
              obtain ⟨m, gS, u, hm1, hm2, hgm, rfl, rfl, ⟨hn1, hn2, hn3⟩, BS, HU, U⟩ := hrel
              have bs := BS.out.cell 0
              simp at bs
              have g1 := U.out.bg.cell 1
              simp at g1
              by_cases hltm : m < k
              · have hx := U.out.bx.cell 0
                have g3 := U.out.bg.cell 3
                simp at hx g3
                have gd := U.out.bd.cell m
                rw [bools_gb _ m (by rw [U.out.lg]; omega)] at gd
                have gf := U.out.bd.frozen m
                have HU2 : Keep ((List.range' t (m + 1 - t)).foldl (roundIn ps) ⟨left, false⟩ = roundIn ps u m) := ⟨by rw [foldl_range_succ _ t m hm1, ← HU.out]⟩
                clear HU
                have hcall := containsFuncP A ps.length c ps 67 #[.pointer (some ⟨gS, 0, none⟩), .pointer (some ⟨gX, 0, none⟩)] (leads u.left m) wr rfl LN ((R0.out.below U.out.bw).mono U.out.bw.size)
                  (enters_of Try.func67 rfl rfl)
                  (fun p hp A' c' hr' W hW => (round1 p A' c' gS gX gG k m u.left W (B0.out p hp) (BS.out.below hW BS.out.lt) (U.out.bx.below hW U.out.bx.lt) (U.out.bd.below hW U.out.bd.lt) U.out.lg (P0.out p hp)
                    ((hr'.below hW).mono hW.size)).mono fun _ _ ⟨he, hb⟩ => ⟨he, below_step hW hb hW.size⟩)
                have hci : Keep (roundIn ps u m = if gb u.left m && !(ps.any (leads u.left m)) then ⟨u.left.set m false, true⟩ else u) := ⟨rfl⟩
                generalize gb u.left m = v1 at *
                generalize ps.any (leads u.left m) = v2 at *
                have nw : gX < wr.heap.size ∧ gG < wr.heap.size ∧ w.heap.size < wr.heap.size ∧ gS < wr.heap.size := ⟨U.out.bx.lt, U.out.bd.lt, U.out.bg.lt, BS.out.lt⟩
                cases v1 with
                | false =>
                  have e : Keep (roundIn ps u m = u) := ⟨by rw [hci.out]; rfl⟩
                  go_wp2
                  go_roundg (k - (m + 1))
                  case measure => omega
                  case rel =>
                    refine ⟨m + 1, wr.heap.size, u, by omega, by omega, by omega, rfl, rfl, ⟨by omega, by omega, by omega⟩, ⟨?_⟩, ⟨by rw [HU2.out, e.out]⟩, ⟨?_⟩⟩
                    · simp only [Int.natCast_add, Int.natCast_one]; exact Blk.newAt rfl
                    · exact U.out.alloc _
                | true =>
                  cases v2 with
                  | true =>
                    have e : Keep (roundIn ps u m = u) := ⟨by rw [hci.out]; rfl⟩
                    go_wp2_with (go_at_call 49; refine hcall.mono ?_; rintro e w' ⟨rfl, hb'⟩; have UU := Keep.mk (U.out.below hb'); have bs2 := cell_below bs hb' nw.2.2.2; have nw2 : gX < w'.heap.size ∧ gG < w'.heap.size ∧ w.heap.size < w'.heap.size ∧ gS < w'.heap.size := ⟨UU.out.bx.lt, UU.out.bd.lt, UU.out.bg.lt, cell_lt bs2⟩)
                    go_roundg (k - (m + 1))
                    case measure => omega
                    case rel =>
                      refine ⟨m + 1, w'.heap.size, u, by omega, by omega, by omega, rfl, rfl, ⟨by omega, by omega, by omega⟩, ⟨?_⟩, ⟨by rw [HU2.out, e.out]⟩, ⟨?_⟩⟩
                      · simp only [Int.natCast_add, Int.natCast_one]; exact Blk.newAt rfl
                      · exact UU.out.alloc _
                  | false =>
                    have e : Keep (roundIn ps u m = ⟨u.left.set m false, true⟩) := ⟨by rw [hci.out]; rfl⟩
                    go_wp2_with (go_at_call 49; refine hcall.mono ?_; rintro e w' ⟨rfl, hb'⟩; have UU := Keep.mk (U.out.below hb'); have bs2 := cell_below bs hb' nw.2.2.2; have hx2 := cell_below hx hb' nw.1; have gd2 := cell_below gd hb' nw.2.1; have gf2 := UU.out.bd.frozen m; have nw2 : gX < w'.heap.size ∧ gG < w'.heap.size ∧ w.heap.size < w'.heap.size ∧ gS < w'.heap.size := ⟨UU.out.bx.lt, UU.out.bd.lt, UU.out.bg.lt, cell_lt bs2⟩)
                    go_roundg (k - (m + 1))
                    case measure => omega
                    case rel =>
                      refine ⟨m + 1, w'.heap.size, ⟨u.left.set m false, true⟩, by omega, by omega, by omega, rfl, by simp [World.setCell], ⟨by omega, by omega, by omega⟩, ⟨?_⟩, ⟨by rw [HU2.out, e.out]⟩, ⟨?_⟩⟩
                      · simp only [Int.natCast_add, Int.natCast_one]; exact Blk.newAt (by simp [World.setCell])
                      · exact (UU.out.setG m false).alloc _
              · have em : m = k := by omega
                subst em
                go_wp2
                go_roundg fu
                case measure => omega
                case rel =>
                  have hu : u = roundRound ps t m ⟨left, true⟩ := by rw [HU.out]; rfl
                  refine ⟨u, rfl, ⟨fun h => ?_⟩, U, ⟨by rw [hu]; exact HL2.out⟩⟩
                  have h1 := HR.out.2
                  rw [← hu] at h1
                  have h2 := HF.out (by first | rfl | trivial)
                  have h3 := h1 h
                  omega
end Go.Proofs.Ytadabkkkalgehaa.H
