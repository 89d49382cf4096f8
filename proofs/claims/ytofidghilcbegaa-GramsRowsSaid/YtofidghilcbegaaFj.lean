/-
  grams.firsts, walked.
-/
import Derived.Test.YtofidghilcbegaaFi
namespace Go.Proofs.Ytofidghilcbegaa.H
open Go.RowKit
set_option linter.unusedVariables false
set_option linter.unusedSimpArgs false

/-- Memory while firsts runs. -/
structure FW (w wr : World) (gv : Array Value) (gF n : Nat) (m : List Nat) : Prop where
  bw : Below w.heap.size w wr
  bg : Blk wr w.heap.size 24 gv
  bf : Blk wr gF 48 (u64s m)
  gf : w.heap.size < gF
  lf : m.length = n
section
variable {w wr w' : World} {gv : Array Value} {gF n : Nat} {m : List Nat}
theorem FW.below (h : FW w wr gv gF n m) (hb : Below wr.heap.size wr w') : FW w w' gv gF n m :=
  ⟨below_step h.bw hb h.bw.size, h.bg.below hb h.bg.lt, h.bf.below hb h.bf.lt, h.gf, h.lf⟩
theorem FW.alloc (h : FW w wr gv gF n m) (o : Obj) : FW w (wr.alloc o) gv gF n m := h.below ((Below.refl _ _).alloc (Nat.le_refl _) o)
theorem FW.drewN (h : FW w wr gv gF n m) (k : Nat) : FW w (wr.drewN k) gv gF n m := h.below (below_drewN (Below.refl _ _) k)
theorem FW.setF (h : FW w wr gv gF n m) (i b : Nat) : FW w (wr.setCell ⟨gF, i, none⟩ (.int .u64 (b : Int))) gv gF n (m.set i b) := by
  refine ⟨h.bw.setCell (by show w.heap.size ≤ gF; have := h.gf; omega) _, h.bg.far (by show _ ≠ gF; have := h.gf; omega) _, ?_, h.gf, by simp [h.lf]⟩
  have := h.bf.set_ i (.int .u64 (b : Int))
  rwa [u64s_set] at this
end
theorem wrap_pow (k : Nat) (h : k < 64) : IntKind.u64.wrap ((2 : Int) ^ k) = ((2 ^ k : Nat) : Int) := by
  have h2 : (2 : Nat) ^ k < 2 ^ 64 := Nat.pow_lt_pow_right (by decide) h
  have e : ((2 : Int) ^ k) = ((2 ^ k : Nat) : Int) := by simp
  rw [e]
  exact wraps_u64 _ (Int.natCast_nonneg _) (by exact_mod_cast h2)
theorem first0_lt (t r : Nat) (h : t ≤ 32) : ∀ x ∈ (List.range t).map (fun s => 2 ^ s) ++ List.replicate r 0, x < 2 ^ 64 := by
  intro x hx
  rcases List.mem_append.1 hx with hx | hx
  · obtain ⟨s, hs, rfl⟩ := List.mem_map.1 hx
    have := List.mem_range.1 hs
    exact Nat.pow_lt_pow_right (by decide) (by omega)
  · have := (List.mem_replicate.1 hx).2
    omega
theorem pow_set (k n : Nat) (h : k < n) : ((List.range k).map (fun s => 2 ^ s) ++ List.replicate (n - k) 0).set k (2 ^ k) = (List.range (k + 1)).map (fun s => 2 ^ s) ++ List.replicate (n - (k + 1)) 0 := by
  rw [List.set_append_right _ _ (by simp), List.length_map, List.length_range, Nat.sub_self, show n - k = (n - (k + 1)) + 1 from by omega, List.replicate_succ, List.set_cons_zero, List.range_succ, List.map_append]
  simp

set_option maxRecDepth 100000 in
set_option maxHeartbeats 4000000 in
theorem firsts_any (g : Gr) (A : Option Addr) (c : Nat) (w : World) (hr : RdP w w.heap.size A g.ps) (ok : GrOk g) (hne : ∀ p ∈ g.ps, 0 < p.body.length ∧ p.body.length ≤ 9223372036854775807) :
    Calls Try.prog 42 #[grV g A c] w fun e w' => ∃ gF, e = .returned (.slice (some ⟨gF, 0, none⟩) g.S.toNat g.S.toNat) ∧ Blk w' gF 48 (u64s (firstEnd g)) ∧
      (firstEnd g).length = g.S.toNat ∧ (∀ x ∈ firstEnd g, x < 2 ^ 64) ∧ w.heap.size ≤ gF ∧ Below w.heap.size w w' := by
  obtain ⟨T, S, st, ps⟩ := g
  obtain ⟨t0, t1, s0, s1, st0, st1, n0, n1, pr⟩ := ok
  dsimp only at *
  obtain ⟨t, rfl⟩ := Int.eq_ofNat_of_zero_le (show 0 ≤ T by omega)
  obtain ⟨n, rfl⟩ := Int.eq_ofNat_of_zero_le (show 0 ≤ S by omega)
  have R0 : Keep (RdP w w.heap.size A ps) := ⟨hr⟩
  have B0 : Keep (∀ p ∈ ps, 0 < p.body.length ∧ p.body.length ≤ 9223372036854775807) := ⟨hne⟩
  have P0 : Keep (∀ p ∈ ps, PrIn n p) := ⟨fun p hp => ⟨by have := pr p hp; omega, by have := pr p hp; omega, fun s hs => by have := (pr p hp).2.2 s hs; omega⟩⟩
  clear hr hne pr n0 st0 st1
  have HPost : Keep (∀ (w' : World) (u : List Nat) (gF : Nat), u = firstEnd ⟨t, n, st, ps⟩ → u.length = n → (∀ x ∈ u, x < 2 ^ 64) → w.heap.size < gF → Blk w' gF 48 (u64s u) → Below w.heap.size w w' →
    ∃ gF', (Ending.returned (.slice (some ⟨gF, 0, none⟩) n n)) = .returned (.slice (some ⟨gF', 0, none⟩) ((n : Int).toNat) ((n : Int).toNat)) ∧ Blk w' gF' 48 (u64s (firstEnd ⟨t, n, st, ps⟩)) ∧
      (firstEnd ⟨t, n, st, ps⟩).length = (n : Int).toNat ∧ (∀ x ∈ firstEnd ⟨t, n, st, ps⟩, x < 2 ^ 64) ∧ w.heap.size ≤ gF' ∧ Below w.heap.size w w') := ⟨by
      rintro w' u gF rfl h1 h2 h3 h4 h5
      exact ⟨gF, rfl, h4, h1, h2, Nat.le_of_lt h3, h5⟩⟩
  unfold grV
  dsimp only
  have hmk := @run_make_row' Try.prog 49 48 (.int .u64 0) 8 Try.underlying49 info_u64 rfl .i64 .i64 n (by omega) (by omega)
  simp only [madeCells_u64s] at hmk
  go_enter Try.func42, Try.ntmps42
  go_upto_region 1 with fail
  go_cut [3] (fun s3 wx => ∃ gF : Nat, s3 = .slice (some ⟨gF, 0, none⟩) n n ∧ Keep (FW w wx #[.int .i64 t, .int .i64 n, .int .i64 st, .slice A ps.length c] gF n ((List.range 0).map (fun s => 2 ^ s) ++ List.replicate (n - 0) 0)))
  case first =>
    go_wp2_with fail
    go_meet
    refine ⟨_, rfl, ⟨((Below.refl _ _).alloc (by simp) _).alloc (by simp) _, (Blk.new _ _ _).alloc _, Blk.newAt (by simp), by omega, by simp⟩⟩
  case rest =>
    obtain ⟨gF, rfl, U⟩ := hcut
    have g0 := U.out.bg.cell 0
    simp at g0
    go_wp2
    go_loopg [14] t (fun gg s14 wr => ∃ k : Nat, k ≤ t ∧ t - k ≤ gg ∧ s14 = .int .i64 k ∧
      Keep (FW w wr #[.int .i64 t, .int .i64 n, .int .i64 st, .slice A ps.length c] gF n ((List.range k).map (fun s => 2 ^ s) ++ List.replicate (n - k) 0)))
    case atStart => exact ⟨0, by omega, by omega, rfl, U⟩
    case round =>
      clear U g0
      obtain ⟨k, hk, hg, rfl, U⟩ := hrel
      have g0 := U.out.bg.cell 0
      simp at g0
      by_cases hlt : k < t
      · have cc := U.out.bf.cell k
        rw [u64s_gn _ k (by rw [U.out.lf]; omega)] at cc
        have cf := U.out.bf.frozen k
        have i2 : (k : Int) < n := by omega
        go_wp2
        go_roundg (t - (k + 1))
        case measure => omega
        case rel =>
          refine ⟨k + 1, by omega, by omega, by go_num, ⟨?_⟩⟩
          have := U.out.setF k (2 ^ k)
          rw [pow_set k n (by omega)] at this
          rw [wrap_pow k (by omega)]
          exact this
      · have ek : k = t := by omega
        subst ek
        have H0 : ((List.range k).map (fun s => 2 ^ s) ++ List.replicate (n - k) 0).length = n ∧ ∀ x ∈ (List.range k).map (fun s => 2 ^ s) ++ List.replicate (n - k) 0, x < 2 ^ 64 :=
          ⟨U.out.lf, first0_lt k (n - k) (by omega)⟩
        have HS : Keep (firstLoop ps (64 * n + 1) ⟨(List.range k).map (fun s => 2 ^ s) ++ List.replicate (n - k) 0, true⟩ = firstLoop ps (64 * n + 1) ⟨first0 ⟨k, n, st, ps⟩, true⟩) := ⟨by simp [first0]⟩
        have HF0 : Keep (lack ((List.range k).map (fun s => 2 ^ s) ++ List.replicate (n - k) 0) < 64 * n + 1) := ⟨by
          have := lack_le ((List.range k).map (fun s => 2 ^ s) ++ List.replicate (n - k) 0)
          rw [H0.1] at this
          omega⟩
        have HB0 := Keep.mk H0.2
        clear H0
        go_wp2
        go_loopg [5] (64 * n + 1) (fun gg s5 wr => ∃ u : Fi, s5 = .bool u.more ∧ Keep (u.more = true → lack u.m < gg) ∧ Keep (∀ x ∈ u.m, x < 2 ^ 64) ∧
          Keep (FW w wr #[.int .i64 k, .int .i64 n, .int .i64 st, .slice A ps.length c] gF n u.m) ∧ Keep (firstLoop ps gg u = firstLoop ps (64 * n + 1) ⟨first0 ⟨k, n, st, ps⟩, true⟩))
        case atStart => exact ⟨_, rfl, ⟨fun _ => HF0.out⟩, HB0, U, HS⟩
        case round =>
          clear U HS HF0 HB0 g0
          obtain ⟨⟨m, more⟩, rfl, HF, HB, U, HL⟩ := hrel
          dsimp only at *
          cases more with
          | false =>
            replace HL := HL.out
            rw [firstLoop_done _ _ _ rfl] at HL
            have HE : Keep (m = firstEnd ⟨k, n, st, ps⟩) := ⟨by unfold firstEnd; dsimp only; rw [Int.toNat_natCast, ← HL]⟩
            clear HL
            go_wp2
            go_ret
            exact HPost.out _ m gF HE.out U.out.lf HB.out U.out.gf U.out.bf U.out.bw
          | true =>
            obtain ⟨fu, rfl⟩ : ∃ m, gk = m + 1 := ⟨gk - 1, by have := HF.out rfl; omega⟩
            replace HL := HL.out
            rw [firstLoop_go _ _ _ rfl] at HL
            have HL2 := Keep.mk HL
            have HR := Keep.mk (firstRound_le (n := n) (u := ⟨m, true⟩) (ps := ps) U.out.lf HB.out (fun p hp => (P0.out p hp).2.1))
            clear HL
            have h3 := U.out.bg.cell 3
            simp at h3
            go_wp2
            go_loopg [5, 27] ps.length (fun gg s5 s27 wr => ∃ (j : Nat) (u : Fi), j ≤ ps.length ∧ ps.length - j ≤ gg ∧ s5 = .bool u.more ∧ s27 = .int .i64 j ∧
              Keep (u = (ps.take j).foldl firstIn ⟨m, false⟩) ∧ Keep (∀ x ∈ u.m, x < 2 ^ 64) ∧ Keep (FW w wr #[.int .i64 k, .int .i64 n, .int .i64 st, .slice A ps.length c] gF n u.m))
            case atStart => exact ⟨0, ⟨m, false⟩, Nat.zero_le _, by omega, rfl, rfl, ⟨by simp⟩, HB, U⟩
            case round =>
              clear U h3 HB
              obtain ⟨j, u, hj, hgj, rfl, rfl, HU, HB, U⟩ := hrel
              by_cases hltj : j < ps.length
              · obtain ⟨ad, Ab, cb, rfl, hb, c0, c1, c2, hlb, hrb⟩ := R0.out j hltj
                replace c0 := cell_below c0 U.out.bw (by rw [add_block]; exact hb)
                replace c1 := cell_below c1 U.out.bw (by show (ad.add _).block < _; rw [add_block]; exact hb)
                replace c2 := cell_below c2 U.out.bw (by show (ad.add _).block < _; rw [add_block]; exact hb)
                have hbl := B0.out _ (List.getElem_mem hltj)
                have hpi := Keep.mk (P0.out _ (List.getElem_mem hltj))
                have HU2 : Keep ((ps.take (j + 1)).foldl firstIn ⟨m, false⟩ = firstIn u ps[j]) := ⟨by rw [List.take_succ_eq_append_getElem hltj, List.foldl_append, ← HU.out]; rfl⟩
                have HN := Keep.mk (firstIn_le (p := ps[j]) U.out.lf HB.out hpi.out.2.1)
                clear HU
                generalize hx : ps[j] = p at *
                clear hx
                obtain ⟨hd, bd, rt⟩ := p
                dsimp only at *
                obtain ⟨d, rfl⟩ := Int.eq_ofNat_of_zero_le hpi.out.1
                have hdn : (d : Int) < n := by have := hpi.out.2.1; simp at this; omega
                obtain ⟨a2, rfl, hb2, hc2⟩ := hrb.int 0 hbl.1
                rw [show a2.add 0 = a2 from rfl] at hc2
                have hfx : firstX u.m ⟨d, bd, rt⟩ = (gn u.m d ||| gn u.m (bd[0]'hbl.1)) := by
                  unfold firstX
                  rw [show bd.getD 0 0 = bd[0]'hbl.1 from by simp [hbl.1]]
                have HX : Keep (((gn u.m d ||| gn u.m (bd[0]'hbl.1)) = gn u.m d → firstIn u ⟨d, bd, rt⟩ = u) ∧ (¬ (gn u.m d ||| gn u.m (bd[0]'hbl.1)) = gn u.m d → firstIn u ⟨d, bd, rt⟩ = ⟨u.m.set d (gn u.m d ||| gn u.m (bd[0]'hbl.1)), true⟩)) := ⟨by
                  rw [← hfx]
                  exact ⟨fun h => if_pos h, fun h => if_neg h⟩⟩
                clear hfx
                have hy := hpi.out.2.2 _ (List.getElem_mem hbl.1)
                have hbl1 : (0 : Int) < bd.length := by have := hbl.1; omega
                replace hc2 := cell_below hc2 U.out.bw hb2
                generalize bd[0]'hbl.1 = y at *
                obtain ⟨y, rfl⟩ := Int.eq_ofNat_of_zero_le hy.1
                have hyn : (y : Int) < n := by have := hy.2; simp at this; omega
                have i1 : (0:Int) ≤ j := by omega
                have i2 : (j : Int) < ps.length := by omega
                have ca := U.out.bf.cell d
                rw [u64s_gn _ d (by rw [U.out.lf]; omega)] at ca
                have cb' := U.out.bf.cell y
                rw [u64s_gn _ y (by rw [U.out.lf]; omega)] at cb'
                have cf := U.out.bf.frozen d
                have nw : gF < wr.heap.size := U.out.bf.lt
                have ha2 : a2.block < wr.heap.size := cell_lt hc2
                have hor := or64 (gn u.m d) (gn u.m y) (gn_lt HB.out _) (gn_lt HB.out _)
                clear hbl hy
                generalize gn u.m d = v1 at *
                generalize gn u.m y = v2 at *
                by_cases hne : (v1 ||| v2) = v1
                · have t1 : ((((v1 ||| v2 : Nat) : Int)) != (v1 : Int)) = false := by simp [hne]
                  have e : Keep (firstIn u ⟨d, bd, rt⟩ = u) := ⟨HX.out.1 hne⟩
                  clear hne
                  generalize (v1 ||| v2 : Nat) = v3 at *
                  go_wp2
                  go_quiet (fail)
                  go_wp2
                  go_roundg (ps.length - (j + 1))
                  case measure => omega
                  case rel => exact ⟨j + 1, u, by omega, by omega, rfl, by go_num, ⟨by rw [HU2.out, e.out]⟩, HB, ⟨(U.out.alloc _).drewN _⟩⟩
                · have t1 : ((((v1 ||| v2 : Nat) : Int)) != (v1 : Int)) = true := by simp; omega
                  have e : Keep (firstIn u ⟨d, bd, rt⟩ = ⟨u.m.set d (v1 ||| v2), true⟩) := ⟨HX.out.2 hne⟩
                  clear hne
                  have HN2 := Keep.mk HN.out.b
                  rw [e.out] at HN2
                  generalize (v1 ||| v2 : Nat) = v3 at *
                  go_wp2
                  go_quiet (fail)
                  go_wp2
                  go_roundg (ps.length - (j + 1))
                  case measure => omega
                  case rel => exact ⟨j + 1, ⟨u.m.set d v3, true⟩, by omega, by omega, rfl, by go_num, ⟨by rw [HU2.out, e.out]⟩, HN2, ⟨((U.out.alloc _).drewN _).setF d v3⟩⟩
              · have em : j = ps.length := by omega
                subst em
                go_wp2
                go_roundg fu
                case measure => omega
                case rel =>
                  have hu : u = firstRound ps ⟨m, true⟩ := by rw [HU.out, List.take_length]; rfl
                  refine ⟨u, rfl, ⟨fun h => ?_⟩, HB, U, ⟨by rw [hu]; exact HL2.out⟩⟩
                  have h1 := HR.out.2.2
                  rw [← hu] at h1
                  have h2 := HF.out (by first | rfl | trivial)
                  have h3 := h1 h
                  omega
end Go.Proofs.Ytofidghilcbegaa.H
