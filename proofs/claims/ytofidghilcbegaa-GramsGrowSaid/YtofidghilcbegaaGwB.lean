/-
  GramsGrow, walked.
-/
import Derived.Test.YtofidghilcbegaaGwA
import Derived.Test.YtofidghilcbegaaLaA
import Derived.Test.YtofidghilcbegaaLaB
namespace Go.Proofs.Ytofidghilcbegaa
open Go.RowKit
set_option linter.unusedVariables false
set_option linter.unusedSimpArgs false

set_option maxRecDepth 100000 in
set_option maxHeartbeats 8000000 in
theorem grow_any (g : Gr) (p : Pr) (s : Int) (A Ap : Option Addr) (c cp : Nat) (w : World) (h : GrIn w g A c) (hAc : A = none → c = 0) (hlp : p.body.length ≤ cp ∧ cp ≤ 9223372036854775807) (hp : Rd eI 1 w w.heap.size Ap p.body) :
    Calls Try.prog 8 #[grV g A c, .agg #[.int .i64 p.head, .slice Ap p.body.length cp, .bool p.right], .int .i64 s] w fun e w' => e = .returned (.bool true) ∧ Below w.heap.size w w' := by
  have H0 := Keep.mk h
  obtain ⟨mA, hmA, HC, HN, HX⟩ := h.r.cells
  have HAll : Keep (∀ y ∈ mA ++ [⟨p, Ap, cp⟩], y.p.body.length ≤ y.c ∧ Rd eI 1 w w.heap.size y.A y.p.body) := ⟨fun y hy => by
    rcases List.mem_append.1 hy with h1 | h1
    · exact HX y h1
    · rw [List.mem_singleton] at h1; subst h1; exact ⟨hlp.1, hp⟩⟩
  have HBd : Keep (∀ y ∈ mA ++ [⟨p, Ap, cp⟩], y.p.body.length ≤ 9223372036854775807) := ⟨fun y hy => by
    rcases List.mem_append.1 hy with h1 | h1
    · exact h.b y.p (by rw [← hmA]; exact List.mem_map_of_mem h1)
    · rw [List.mem_singleton] at h1; subst h1; have := hlp; dsimp only; omega⟩
  have HNo : Keep (A = none → mA = [] ∧ c = 0) := ⟨fun e => ⟨by have := HN e; rw [← hmA] at this; exact List.map_eq_nil_iff.1 this, hAc e⟩⟩
  have HC := Keep.mk HC
  clear h hp hlp HX HN hAc
  have KB := Keep.mk fun W (hW : Below w.heap.size w W) => big_any g A c W (H0.out.below hW)
  have KF := Keep.mk fun W z (hW : Below w.heap.size w W) => first_any g z A c W (H0.out.below hW)
  have KL := Keep.mk fun W z (hW : Below w.heap.size w W) => follow_any g z A c W (H0.out.below hW)
  have HSz : Keep (bigB g = false → mA.length ≤ 100000) := ⟨fun e => by
    have h1 : mA.length = g.ps.length := by rw [← hmA]; simp
    unfold bigB sizeOfGr at e
    simp only [decide_eq_false_iff_not] at e
    omega⟩
  clear H0
  generalize hBig : bigB g = BIG at *
  clear hBig
  obtain ⟨T, S, st, ps⟩ := g
  obtain ⟨ph, pb, pr⟩ := p
  dsimp only at hmA
  subst hmA
  unfold grV at *
  dsimp only at *
  simp only [List.length_map] at *
  have G1 := Keep.mk (grow_first (T := T) (S := S) (st := st) (ps := mA.map (·.p)) (q := ⟨ph, pb, pr⟩) (s := s))
  have G2 := Keep.mk (grow_follow (T := T) (S := S) (st := st) (ps := mA.map (·.p)) (q := ⟨ph, pb, pr⟩) (s := s))
  have G3 := Keep.mk (err_same ⟨T, S, st, mA.map (·.p)⟩ s)
  have G4 := Keep.mk (err_same ⟨T, S, st, mA.map (·.p) ++ [⟨ph, pb, pr⟩]⟩ s)
  go_enter Try.func8, Try.ntmps8
  have B0 : Keep (Below w.heap.size w ((w.alloc (.cells #[.int .i64 T, .int .i64 S, .int .i64 st, .slice A mA.length c] 24)).alloc (.cells #[.int .i64 ph, .slice Ap pb.length cp, .bool pr] 38))) := ⟨((Below.refl _ _).alloc (Nat.le_refl _) _).alloc (by simp) _⟩
  have BG : Keep (Blk ((w.alloc (.cells #[.int .i64 T, .int .i64 S, .int .i64 st, .slice A mA.length c] 24)).alloc (.cells #[.int .i64 ph, .slice Ap pb.length cp, .bool pr] 38)) w.heap.size 24 #[.int .i64 T, .int .i64 S, .int .i64 st, .slice A mA.length c]) := ⟨(Blk.new _ _ _).alloc _⟩
  have BP : Keep (Blk ((w.alloc (.cells #[.int .i64 T, .int .i64 S, .int .i64 st, .slice A mA.length c] 24)).alloc (.cells #[.int .i64 ph, .slice Ap pb.length cp, .bool pr] 38)) (w.heap.size + 1) 38 #[.int .i64 ph, .slice Ap pb.length cp, .bool pr]) := ⟨Blk.newAt (by simp)⟩
  go_wp2_with fail
  refine (KB.out _ B0.out).mono ?_
  rintro e w1 ⟨rfl, hb⟩
  have B1 : Keep (Below w.heap.size w w1) := ⟨below_step B0.out hb B0.out.size⟩
  have BG1 := Keep.mk (BG.out.below hb BG.out.lt)
  have BP1 := Keep.mk (BP.out.below hb BP.out.lt)
  clear B0 BG BP hb KB
  cases BIG with
  | true =>
    go_wp2
    go_ret
    exact ⟨rfl, B1.out⟩
  | false =>
    have hsz := HSz.out rfl
    have q0 := BG1.out.cell 0
    have q1 := BG1.out.cell 1
    have q2 := BG1.out.cell 2
    have q3 := BG1.out.cell 3
    have p0 := BP1.out.cell 0
    have p1 := BP1.out.cell 1
    have p2 := BP1.out.cell 2
    simp at q0 q1 q2 q3 p0 p1 p2
    by_cases hl : 1000 < pb.length
    · have hl' : (1000 : Int) < pb.length := by omega
      go_wp2
      go_ret
      exact ⟨rfl, B1.out⟩
    · have hl' : ¬ (1000 : Int) < pb.length := by omega
      go_upto_region 4 with fail
      have BGM : Keep (Blk (w1.alloc (.cells #[.int .i64 T, .int .i64 S, .int .i64 st, .slice A mA.length c] 24)) w1.heap.size 24 #[.int .i64 T, .int .i64 S, .int .i64 st, .slice A mA.length c]) := ⟨Blk.new _ _ _⟩
      have BGc := Keep.mk (BG1.out.alloc (.cells #[.int .i64 T, .int .i64 S, .int .i64 st, .slice A mA.length c] 24))
      have BPc := Keep.mk (BP1.out.alloc (.cells #[.int .i64 T, .int .i64 S, .int .i64 st, .slice A mA.length c] 24))
      have BM := Keep.mk (upAlloc B1.out (.cells #[.int .i64 T, .int .i64 S, .int .i64 st, .slice A mA.length c] 24))
      have n1 : w.heap.size + 1 < w1.heap.size := BP1.out.lt
      clear BG1 BP1 q0 q1 q2 q3 p0 p1 p2
      generalize hwM : w1.alloc (.cells #[.int .i64 T, .int .i64 S, .int .i64 st, .slice A mA.length c] 24) = wM at *
      clear hwM
      generalize w1.heap.size = gM at *
      have n2 : gM < wM.heap.size := BGM.out.lt
      have n3 : w.heap.size < wM.heap.size := BGc.out.lt
      have n4 : w.heap.size + 1 < wM.heap.size := BPc.out.lt
      have q0 := BGc.out.cell 0
      have q1 := BGc.out.cell 1
      have q2 := BGc.out.cell 2
      have q3 := BGc.out.cell 3
      have p0 := BPc.out.cell 0
      have p1 := BPc.out.cell 1
      have p2 := BPc.out.cell 2
      simp at q0 q1 q2 q3 p0 p1 p2
      go_cut [7] (fun s7 wx => s7 = .pointer (some ⟨gM, 0, none⟩) ∧ ∃ A' c', Keep (Below w.heap.size w wx) ∧ Keep (Blk wx w.heap.size 24 #[.int .i64 T, .int .i64 S, .int .i64 st, .slice A mA.length c]) ∧
        Keep (Blk wx gM 24 #[.int .i64 T, .int .i64 S, .int .i64 st, .slice A' (mA.length + 1) c']) ∧ Keep (GrIn wx ⟨T, S, st, mA.map (·.p) ++ [⟨ph, pb, pr⟩]⟩ A' c'))
      case first =>
        have X0 : Keep (Below wM.heap.size wM wM.drew) := ⟨below_drew1 (Below.refl _ _)⟩
        go_region_law (first
          | (refine step_append_P2 _ rfl (.tmp 25) (.tmp 27) rfl wM.heap.size (.slice (some ⟨_, 0, none⟩) 0 0) [] rfl ?_ A c mA rfl ?_ ?_ ?_ ?_ ?_
             · (repeat (first | ((with_reducible refine own_emptyAt ?_ ?_); (· simp); (refine Below.size (w := wM) (B := wM.heap.size) ?_; (repeat (first | with_reducible exact Below.refl _ _ | with_reducible apply upAlloc | with_reducible apply upDrew)))) | with_reducible apply own_drew | with_reducible apply World.ownsRow.alloc))
             · (exact HNo.out)
             · (exact fun ad e j u hu => cell_below (HC.out ad e j u hu) (below_step BM.out (by (repeat (first | with_reducible exact Below.refl _ _ | with_reducible apply upAlloc | with_reducible apply upDrew))) BM.out.size) (cell_lt (HC.out ad e j u hu)))
             · (simp; omega)
             · (refine Below.size (w := wM) (B := wM.heap.size) ?_; (repeat (first | with_reducible exact Below.refl _ _ | with_reducible apply upAlloc | with_reducible apply upDrew)))
             intro v1 w2 ho hb2 hB2
             have HO := Keep.mk ho
             have B2 : Keep (Below wM.heap.size wM w2) := ⟨below_step (by (repeat (first | with_reducible exact Below.refl _ _ | with_reducible apply upAlloc | with_reducible apply upDrew))) hb2 (Nat.le_refl _)⟩
             have HB2 := Keep.mk hB2
             have n5 : w.heap.size < w2.heap.size ∧ w.heap.size + 1 < w2.heap.size ∧ gM < w2.heap.size := by have := B2.out.size; omega
             obtain ⟨n5, n6, n7⟩ := n5
             have p0' := (BPc.out.below B2.out BPc.out.lt).cell 0
             have p1' := (BPc.out.below B2.out BPc.out.lt).cell 1
             have p2' := (BPc.out.below B2.out BPc.out.lt).cell 2
             simp at p0' p1' p2'
             clear ho hb2 hB2)
          | (refine step_append_P2 _ rfl (.tmp 28) (.tmp 30) rfl wM.heap.size v1 mA rfl ?_ (some ⟨_, 0, none⟩) 1 [⟨⟨ph, pb, pr⟩, Ap, cp⟩] rfl ?_ ?_ ?_ ?_ ?_
             · (repeat (first | exact HO.out | with_reducible apply own_drew | with_reducible apply World.ownsRow.alloc))
             · (exact fun e => by cases e)
             · (refine cellsOne (t := 38) ?_; first | ((repeat (first | ((with_reducible refine Blk.newAt ?_); (· simp)) | with_reducible apply Blk.drew | with_reducible apply Blk.alloc)); done) | ((refine HB2.out _ _ ?_ ?_); (· simp [Value.ownBlock]); ((repeat (first | ((with_reducible refine Blk.newAt ?_); (· simp)) | with_reducible apply Blk.drew | with_reducible apply Blk.alloc)); done)))
             · (simp; omega)
             · (refine Below.size (w := wM) (B := wM.heap.size) ?_; (repeat (first | with_reducible exact Below.refl _ _ | exact B2.out | with_reducible apply upAlloc | with_reducible apply upDrew)))
             intro v2 w3 ho hb3 hB3
             obtain ⟨A2, c2, e2⟩ := own_slice ho
             rw [show (mA ++ [(⟨⟨ph, pb, pr⟩, Ap, cp⟩ : PA)]).length = mA.length + 1 from by simp] at e2
             subst e2
             have HO3 := Keep.mk ho
             have B3 : Keep (Below wM.heap.size wM w3) := ⟨below_step (by (repeat (first | with_reducible exact Below.refl _ _ | exact B2.out | with_reducible apply upAlloc | with_reducible apply upDrew))) hb3 (Nat.le_refl _)⟩
             have r3 := (BGM.out.below B3.out BGM.out.lt).cell 3
             have r4 := (BGM.out.below B3.out BGM.out.lt).frozen 3
             simp at r3
             clear ho hb3 hB3))
        all_goals (
          obtain ⟨A', c', e, x1, x2, x3⟩ := grow_end BM.out B3.out (by omega) n2 HO3.out HAll.out HBd.out BGM.out
          have x4 := (BGc.out.below B3.out BGc.out.lt).far (p := ⟨gM, 3, none⟩) (by show w.heap.size ≠ gM; omega) (.slice A2 (mA.length + 1) c2)
          have x1 := Keep.mk x1
          have x2 := Keep.mk x2
          have x3 := Keep.mk x3
          have x4 := Keep.mk x4
          clear e
          go_wp2_with fail
          go_meet
          exact ⟨rfl, A', c', x1, x4, x2, x3⟩)
      case rest =>
        obtain ⟨rfl, A', c', Bx, BGx, BMx, HGx⟩ := hcut
        have KF1 := Keep.mk fun W (hW : Below w.heap.size w W) => KF.out W s hW
        have KL1 := Keep.mk fun W (hW : Below w.heap.size w W) => KL.out W s hW
        have KF2 := Keep.mk fun W (hW : Below wc.heap.size wc W) => first_any ⟨T, S, st, mA.map (·.p) ++ [⟨ph, pb, pr⟩]⟩ s A' c' W (HGx.out.below hW)
        have KL2 := Keep.mk fun W (hW : Below wc.heap.size wc W) => follow_any ⟨T, S, st, mA.map (·.p) ++ [⟨ph, pb, pr⟩]⟩ s A' c' W (HGx.out.below hW)
        unfold grV at KF2 KL2
        dsimp only at KF2 KL2
        simp only [List.length_append, List.length_map, List.length_singleton] at KF2 KL2
        have L1 := Keep.mk (firstR_len ⟨T, S, st, mA.map (·.p)⟩ s)
        have L2 := Keep.mk (firstR_len ⟨T, S, st, mA.map (·.p) ++ [⟨ph, pb, pr⟩]⟩ s)
        have L3 := Keep.mk (followR_len ⟨T, S, st, mA.map (·.p)⟩ s)
        have L4 := Keep.mk (followR_len ⟨T, S, st, mA.map (·.p) ++ [⟨ph, pb, pr⟩]⟩ s)
        clear KF KL HGx HAll HBd HC HNo q0 q1 q2 q3 p0 p1 p2 BM BGM BGc BPc B1 HSz
        generalize firstR ⟨T, S, st, mA.map (·.p)⟩ s = R1 at *
        generalize firstR ⟨T, S, st, mA.map (·.p) ++ [⟨ph, pb, pr⟩]⟩ s = R2 at *
        generalize followR ⟨T, S, st, mA.map (·.p)⟩ s = R3 at *
        generalize followR ⟨T, S, st, mA.map (·.p) ++ [⟨ph, pb, pr⟩]⟩ s = R4 at *
        obtain ⟨R1, E1⟩ := R1
        obtain ⟨R2, E2⟩ := R2
        obtain ⟨R3, E3⟩ := R3
        obtain ⟨R4, E4⟩ := R4
        dsimp only at *
        obtain rfl : E1 = E3 := G3.out
        obtain rfl : E2 = E4 := G4.out
        have q0 := BGx.out.cell 0
        have q1 := BGx.out.cell 1
        have q2 := BGx.out.cell 2
        have q3 := BGx.out.cell 3
        simp at q0 q1 q2 q3
        obtain ⟨wx, rfl⟩ : ∃ wx : World, wx = wc := ⟨_, rfl⟩
        go_wp2_with fail
        refine (KF1.out _ Bx.out).mono ?_
        rintro e w5 ⟨v5, rfl, o5, hb⟩
        have Y5 := Keep.mk hb
        have O5 := Keep.mk o5
        have BG5 := Keep.mk (BGx.out.below hb BGx.out.lt)
        have BM5 := Keep.mk (BMx.out.below hb BMx.out.lt)
        clear q0 q1 q2 q3 hb o5 KF1
        have r0 := BM5.out.cell 0
        have r1 := BM5.out.cell 1
        have r2 := BM5.out.cell 2
        have r3 := BM5.out.cell 3
        simp at r0 r1 r2 r3
        dsimp only
        go_wp2_with fail
        refine (KF2.out _ Y5.out).mono ?_
        rintro e w6 ⟨v6, rfl, o6, hb⟩
        have Y6 : Keep (Below wx.heap.size wx w6) := ⟨below_step Y5.out hb Y5.out.size⟩
        have O6 := Keep.mk o6
        have O5 := Keep.mk (O5.out.below hb)
        have BG6 := Keep.mk (BG5.out.below hb BG5.out.lt)
        have BM6 := Keep.mk (BM5.out.below hb BM5.out.lt)
        have B6 : Keep (Below w.heap.size w w6) := ⟨below_step Bx.out Y6.out Bx.out.size⟩
        clear r0 r1 r2 r3 hb o6 KF2
        have q0 := BG6.out.cell 0
        have q1 := BG6.out.cell 1
        have q2 := BG6.out.cell 2
        have q3 := BG6.out.cell 3
        simp at q0 q1 q2 q3
        dsimp only
        go_wp2_with fail
        refine (KL1.out _ B6.out).mono ?_
        rintro e w7 ⟨v7, rfl, o7, hb⟩
        have Y7 : Keep (Below wx.heap.size wx w7) := ⟨below_step Y6.out hb Y6.out.size⟩
        have O7 := Keep.mk o7
        have O6 := Keep.mk (O6.out.below hb)
        have O5 := Keep.mk (O5.out.below hb)
        have BM7 := Keep.mk (BM6.out.below hb BM6.out.lt)
        clear q0 q1 q2 q3 hb o7 KL1
        have r0 := BM7.out.cell 0
        have r1 := BM7.out.cell 1
        have r2 := BM7.out.cell 2
        have r3 := BM7.out.cell 3
        simp at r0 r1 r2 r3
        dsimp only
        go_wp2_with fail
        refine (KL2.out _ Y7.out).mono ?_
        rintro e w8 ⟨v8, rfl, o8, hb⟩
        have Y8 : Keep (Below wx.heap.size wx w8) := ⟨below_step Y7.out hb Y7.out.size⟩
        have B8 : Keep (Below w.heap.size w w8) := ⟨below_step Bx.out Y8.out Bx.out.size⟩
        obtain ⟨A5, c5, e5, _, _, rd5, _, _⟩ := ((O5.out.below hb)).open_
        obtain ⟨A6, c6, e6, _, _, rd6, _, _⟩ := ((O6.out.below hb)).open_
        obtain ⟨A7, c7, e7, _, _, rd7, _, _⟩ := ((O7.out.below hb)).open_
        obtain ⟨A8, c8, e8, _, _, rd8, _, _⟩ := o8.open_
        have KW1 := Keep.mk (within_any A5 A6 c5 c6 R1 R2 w8 (by have := L1.out; omega) (by have := L2.out; omega) rd5 rd6)
        have KW2 := Keep.mk fun n => (within_any A7 A8 c7 c8 R3 R4 (w8.drewN n) (by have := L3.out; omega) (by have := L4.out; omega) (rd7.below (below_drewN (Below.refl _ _) n)) (rd8.below (below_drewN (Below.refl _ _) n)))
        subst e5 e6 e7 e8
        clear r0 r1 r2 r3 hb o8 rd5 rd6 rd7 rd8 KL2 O5 O6 O7
        dsimp only
        have z1 : ((E1 : Int) == E1) = true := by simp
        have z2 : ((E2 : Int) == E2) = true := by simp
        by_cases hz : E1 = 0 ∧ E2 = 0
        · obtain ⟨h1, h2⟩ := hz
          have t1 := G1.out h1 h2
          have t2 := G2.out h1 h2
          rw [t1] at KW1
          rw [t2] at KW2
          clear G1 G2 t1 t2 L1 L2 L3 L4
          subst h1 h2
          go_wp2_with fail
          refine KW1.out.mono ?_
          rintro e w9 ⟨rfl, m9, rfl⟩
          go_wp2_with fail
          refine (KW2.out _).mono ?_
          rintro e w10 ⟨rfl, m10, rfl⟩
          go_wp2_with fail
          refine (alive_any _).mono ?_
          rintro e w11 ⟨rfl, hb⟩
          have B11 : Keep (Below w.heap.size w w11) := ⟨below_step (below_drewN B8.out (m9 + m10)) hb B8.out.size⟩
          clear hb
          go_wp2
          go_ret
          exact ⟨rfl, B11.out⟩
        · by_cases h1 : E1 = 0
          · have h2 : E2 ≠ 0 := fun h => hz ⟨h1, h⟩
            have t2 : ((E2 : Int) != 0) = true := by simp [h2]
            clear hz h2 G1 G2 L1 L2 L3 L4
            subst h1
            go_wp2_with fail
            refine (alive_any _).mono ?_
            rintro e w11 ⟨rfl, hb⟩
            have B11 : Keep (Below w.heap.size w w11) := ⟨below_step B8.out hb B8.out.size⟩
            clear hb
            go_wp2
            go_ret
            exact ⟨rfl, B11.out⟩
          · have t1 : ((E1 : Int) != 0) = true := by simp [h1]
            clear hz h1 G1 G2 L1 L2 L3 L4
            go_wp2_with fail
            refine (alive_any _).mono ?_
            rintro e w11 ⟨rfl, hb⟩
            have B11 : Keep (Below w.heap.size w w11) := ⟨below_step B8.out hb B8.out.size⟩
            clear hb
            go_wp2
            go_ret
            exact ⟨rfl, B11.out⟩
end Go.Proofs.Ytofidghilcbegaa
