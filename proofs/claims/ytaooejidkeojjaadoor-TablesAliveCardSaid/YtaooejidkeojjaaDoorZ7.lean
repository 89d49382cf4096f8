import Derived.Test.YtaooejidkeojjaaDoorZ6
import Derived.Test.YtaooejidkeojjaaDoorRows
import Derived.Test.YtaooejidkeojjaaDoorZ1
import Derived.LaidMore
import Derived.Stop.Joined
namespace Go.Proofs.YtaooejidkeojjaaDoor.PSm
open Go.RowKit Go.Proofs.YtaooejidkeojjaaDoorW.PrintWords Go.Proofs.YtaooejidkeojjaaDoorW.PrintLast Go.Proofs.YtaooejidkeojjaaDoorW.PrintMore
set_option linter.unusedVariables false
set_option linter.unusedSimpArgs false
set_option maxRecDepth 100000
def cntI (x : H.Ac) : Nat := (if 0 ≤ x.sh ∨ x.ac = true then 1 else 0) + x.rd.length
structure CntI (row : List H.Ac) (a n : Nat) : Prop where
  le : n ≤ a * 1001
  z : n = 0 → ∀ i (hi : i < row.length), i < a → ¬ (0 ≤ row[i].sh ∨ row[i].ac = true ∨ row[i].rd ≠ [])
theorem CntI.step {row : List H.Ac} {a n : Nat} (h : CntI row a n) (ha : a < row.length) (hl : row[a].rd.length ≤ 1000) : CntI row (a + 1) (n + cntI row[a]) := by
  have hle := h.le
  have h1 : cntI row[a] ≤ 1001 := by unfold cntI; split <;> omega
  refine ⟨by omega, fun h0 i hi hia => ?_⟩
  by_cases e : i = a
  · subst e
    have h2 : cntI row[i] = 0 := by omega
    unfold cntI at h2
    rintro (h3 | h3 | h3)
    · rw [if_pos (.inl h3)] at h2; omega
    · rw [if_pos (.inr h3)] at h2; omega
    · exact h3 (List.length_eq_zero_iff.1 (by omega))
  · exact h.z (by omega) i hi (by omega)
set_option maxHeartbeats 8000000 in
theorem alive_any (a b c : Int) (A0 : Option Addr) (c0 : Nat) (l : List S49) (w : World) (hr : Kd.C k49 w A0 l.length l) (hc : l.length ≤ c0) (hl : H.Laid w) :
    Calls Tryd.prog 6 #[.agg #[.int .i64 a, .int .i64 b, .int .i64 c, .slice A0 l.length c0]] w fun e w' => e = .returned (.bool true) ∧ Below w.heap.size w w' := by
  have HR := H.Keep.mk hr
  have HC := H.Keep.mk hc
  have HL := H.Keep.mk hl
  clear hr hc hl
  go_enter Tryd.func6, Tryd.ntmps6
  obtain ⟨gv, hgv⟩ : ∃ gv : Array Value, gv = #[.int .i64 a, .int .i64 b, .int .i64 c, .slice A0 l.length c0] := ⟨_, rfl⟩
  have G0 := H.Keep.mk (H.Blk.new w 24 gv)
  have B0 := H.Keep.mk (show Below w.heap.size w (w.alloc (.cells gv 24)) from (Below.refl _ _).alloc (Nat.le_refl _) _)
  rw [hgv] at G0 B0
  go_upto_region 1 with fail
  generalize (w.alloc (.cells #[.int .i64 a, .int .i64 b, .int .i64 c, .slice A0 l.length c0] 24)) = w1 at G0 B0 ⊢
  obtain ⟨r, hs⟩ := small_any a b c l
  have g0 := G0.out.cell 0
  have g1 := G0.out.cell 1
  have g2 := G0.out.cell 2
  have g3 := G0.out.cell 3
  simp at g0 g1 g2 g3
  have KS := H.Keep.mk (show Calls Tryd.prog 8 #[.agg #[.int .i64 a, .int .i64 b, .int .i64 c, .slice A0 l.length c0]] w1 fun e w' => e = .returned (.bool r) ∧ Below w1.heap.size w1 w' from by
    obtain ⟨K, hK⟩ := hs
    exact rootstocklaw17_small.calls K a b c A0 c0 l r w1 (Kd.C_below HR.out B0.out) HC.out (hK K (Nat.le_refl _)))
  clear hs
  go_wp2_with fail
  refine KS.out.mono ?_
  rintro e w3 ⟨rfl, hb⟩
  clear KS g0 g1 g2 g3
  have B3 := H.Keep.mk (H.below_step B0.out hb B0.out.size)
  have G3 := H.Keep.mk (G0.out.below hb G0.out.lt)
  clear B0 G0 hb
  have g0 := G3.out.cell 0
  have g1 := G3.out.cell 1
  have g2 := G3.out.cell 2
  have g3 := G3.out.cell 3
  simp at g0 g1 g2 g3
  dsimp only
  have KL := H.Keep.mk (show ∀ W, Below w.heap.size w W → Calls Tryd.prog 9 #[] W fun e w' => e = .returned (.bool true) ∧ Below W.heap.size W w' from fun W hW => rootstocklaw17_lives.calls true W rfl (HL.out.below hW))
  cases r with
  | false =>
    go_wp2_with fail
    refine (KL.out _ B3.out).mono ?_
    rintro e w4 ⟨rfl, hb⟩
    have FIN := H.Keep.mk (H.below_step B3.out hb B3.out.size)
    clear hb
    dsimp only
    go_wp2_with fail
    go_ret
    exact ⟨rfl, FIN.out⟩
  | true =>
  obtain ⟨T1, S1, st1, ps1, A1, L1, e1, hof⟩ : ∃ T1 S1 st1 ps1 A1 L1 e1, tables_Of.f a b c l = some (T1, S1, st1, ps1, A1, L1, e1) := ⟨_, _, _, _, _, _, _, rfl⟩
  have KO := H.Keep.mk (tables_Of.calls a b c A0 c0 l T1 S1 st1 ps1 A1 L1 e1 w3 (Kd.C_below HR.out B3.out) HC.out hof (HL.out.below B3.out))
  have HOF := H.Keep.mk hof
  clear hof
  go_wp2_with fail
  refine KO.out.mono ?_
  rintro e w2 ⟨vP, vA, vL, rfl, hP, hA, hT, hb⟩
  obtain ⟨AP, cP, rfl, hlP, hCP⟩ := Kd.R_reads hP
  obtain ⟨AA, cA, rfl, hlA, hCA⟩ := Kd.R_reads hA
  obtain ⟨AL, cL, rfl, hlL, hCL⟩ := Kd.R_reads hT
  have KP := H.Keep.mk hCP
  have KA := H.Keep.mk hCA
  have KT := H.Keep.mk hCL
  have KLP := H.Keep.mk hlP
  have KLA := H.Keep.mk hlA
  have KLT := H.Keep.mk hlL
  have B2 := H.Keep.mk (H.below_step B3.out hb B3.out.size)
  have G2 := H.Keep.mk (G3.out.below hb G3.out.lt)
  clear KO B3 G3 hP hA hT hCP hCA hCL hlP hlA hlL hb g0 g1 g2 g3
  have TH := H.Keep.mk (TW.there w2)
  have T0 := H.Keep.mk (TW.store w2 (.int .i64 T1) (.int .i64 S1) (.int .i64 st1) (.slice AP ps1.length cP) (.slice AA A1.length cA) (.slice AL L1.length cL))
  obtain ⟨wr, hwr⟩ : ∃ W : World, W = (w2.alloc (.cells #[.int .i64 0, .int .i64 0, .int .i64 0, .slice none 0 0, .slice none 0 0, .slice none 0 0] 30)).setCells w2.heap.size 0 [.int .i64 T1, .int .i64 S1, .int .i64 st1, .slice AP ps1.length cP, .slice AA A1.length cA, .slice AL L1.length cL] := ⟨_, rfl⟩
  rw [← hwr] at T0
  have HW := H.Keep.mk hwr
  clear hwr
  dsimp only
  go_upto_region 4 with (refine wpList_store_mid rfl _ _ _ rfl w2.heap.size 0 #[.int .i64 T1, .int .i64 S1, .int .i64 st1, .slice AP ps1.length cP, .slice AA A1.length cA, .slice AL L1.length cL] rfl rfl TH.out (by kernel_rfl) (by simp [Value.oneCell']) ?_; rw [← HW.out])
  clear TH HW
  have nG : w.heap.size < w2.heap.size := G2.out.lt
  have BT : H.Keep (∀ W, Below w2.heap.size w2 W → Below w.heap.size w W) := ⟨fun W hW => H.below_step B2.out hW B2.out.size⟩
  have GT : H.Keep (∀ W, Below w2.heap.size w2 W → H.Blk W w.heap.size 24 #[.int .i64 a, .int .i64 b, .int .i64 c, .slice A0 l.length c0]) := ⟨fun W hW => G2.out.below hW G2.out.lt⟩
  clear B2 G2
  have t4 := T0.out.t.cell 4
  have t5 := T0.out.t.cell 5
  simp at t4 t5
  by_cases hg : H.checkI (toGr a b c l) = 0 ∧ ¬ (H.statesM (toGr a b c l)).full = true
  rotate_left
  · obtain ⟨e, he, h⟩ := tab_none hg
    have hof := HOF.out
    unfold tables_Of.f at hof
    rw [h] at hof
    simp only [Option.some.injEq, Prod.mk.injEq] at hof
    obtain ⟨rfl, rfl, rfl, rfl, rfl, rfl, rfl⟩ := hof
    have u1 : ((e : Int) != 0) = true := bne_iff_ne.2 he
    have KL1 := H.Keep.mk (KL.out _ (BT.out _ T0.out.b))
    clear hg h he HOF
    go_wp2_with fail
    refine KL1.out.mono ?_
    rintro e w4 ⟨rfl, hb⟩
    have FIN := H.Keep.mk (BT.out _ (T0.out.below hb).b)
    clear hb
    dsimp only
    go_wp2_with fail
    go_ret
    exact ⟨rfl, FIN.out⟩
  obtain ⟨h1, h2⟩ := hg
  have hof := HOF.out
  unfold tables_Of.f at hof
  rw [tab_of h1 h2, show (toGr a b c l).ps.map unPr = l from un_to l] at hof
  simp only [Option.some.injEq, Prod.mk.injEq] at hof
  obtain ⟨rfl, rfl, rfl, rfl, rfl, rfl, rfl⟩ := hof
  have HWH := H.Keep.mk (tab_whole h1)
  have HAL := H.Keep.mk (tab_alive h1 h2)
  have el : (toGr a b c l).ps.length = l.length := List.length_map _
  rw [el, show (toGr a b c l).T = a from rfl, show (toGr a b c l).S = b from rfl] at HWH
  rw [show (toGr a b c l).T = a from rfl, show (toGr a b c l).S = b from rfl, show (toGr a b c l).st = c from rfl] at *
  generalize tabA (toGr a b c l) = A1 at *
  generalize tabG (toGr a b c l) = L1 at *
  have KW := H.Keep.mk (show ∀ W, Below w2.heap.size w2 W → Calls Tryd.prog 17 #[.agg #[.int .i64 a, .int .i64 b, .int .i64 c, .slice AP l.length cP, .slice AA A1.length cA, .slice AL L1.length cL]] W fun e w' => e = .returned (.bool true) ∧ Below W.heap.size W w' from fun W hW => by
    refine rootstocklaw17_whole.calls a b c AP cP l AA cA A1 AL cL L1 true W (Kd.C_below KP.out hW) KLP.out (Kd.C_below KA.out hW) KLA.out (Kd.C_below KT.out hW) KLT.out ?_
    unfold rootstocklaw17_whole.f
    exact if_pos HWH.out)
  have KE := H.Keep.mk (show ∀ W, Below w2.heap.size w2 W → ∀ s (hs : s < (A1.map (List.map toAc)).length) q (ha : q < (A1.map (List.map toAc))[s].length) i (hi : i < (A1.map (List.map toAc))[s][q].rd.length) (p : Nat) (hp : p < l.length), (A1.map (List.map toAc))[s][q].rd[i] = (p : Int) → ∀ (Ab : Option Addr) (cb : Nat), (Kd.int .i64).C w Ab l[p].f1.length l[p].f1 → l[p].f1.length ≤ cb →
    Calls Tryd.prog 18 #[.agg #[.int .i64 a, .int .i64 b, .int .i64 c, .slice AP l.length cP, .slice AA A1.length cA, .slice AL L1.length cL], .int .i64 s, .slice Ab l[p].f1.length cb] W fun e w' => e = .returned (.bool true) ∧ Below W.heap.size W w' from fun W hW s hs q ha i hi p hp e Ab cb hC hcb => by
    obtain ⟨K, hK⟩ := HAL.out.ends s hs q ha i hi p hp e
    exact rootstocklaw17_ends.calls K a b c AP cP l AA cA A1 AL cL L1 s Ab cb l[p].f1 true W (Kd.C_below KP.out hW) KLP.out (Kd.C_below KA.out hW) KLA.out (Kd.C_below KT.out hW) KLT.out (Kd.C_below hC (BT.out W hW)) hcb (hK K (Nat.le_refl _)))
  have TI := H.Keep.mk (tabIn_of KA.out KT.out)
  clear HOF h1 h2 el KA KP KT KLP KLA KLT HC
  obtain ⟨gt, hgt⟩ : ∃ n, n = w2.heap.size := ⟨_, rfl⟩
  obtain ⟨gb, hgb⟩ : ∃ n, n = w.heap.size := ⟨_, rfl⟩
  have HT : H.Keep (∀ W, TW w2 W #[.int .i64 a, .int .i64 b, .int .i64 c, .slice AP l.length cP, .slice AA A1.length cA, .slice AL L1.length cL] → W.cell? ⟨gt, 0, none⟩ = some (.int .i64 a) ∧ W.cell? ⟨gt, 1, none⟩ = some (.int .i64 b) ∧ W.cell? ⟨gt, 2, none⟩ = some (.int .i64 c) ∧ W.cell? ⟨gt, 3, none⟩ = some (.slice AP l.length cP) ∧
      W.cell? ⟨gt, 4, none⟩ = some (.slice AA A1.length cA) ∧ W.cell? ⟨gt, 5, none⟩ = some (.slice AL L1.length cL) ∧ W.cell? ⟨gb, 0, none⟩ = some (.int .i64 a) ∧ W.cell? ⟨gb, 1, none⟩ = some (.int .i64 b) ∧ W.cell? ⟨gb, 2, none⟩ = some (.int .i64 c) ∧ W.cell? ⟨gb, 3, none⟩ = some (.slice A0 l.length c0)) := ⟨fun W h =>
    by
    subst hgt hgb
    exact ⟨h.t.cell 0, h.t.cell 1, h.t.cell 2, h.t.cell 3, h.t.cell 4, h.t.cell 5, (GT.out W h.b).cell 0, (GT.out W h.b).cell 1, (GT.out W h.b).cell 2, (GT.out W h.b).cell 3⟩⟩
  rw [← hgt, ← hgb]
  clear hgt hgb
  clear t4 t5
  obtain ⟨t0, t1, t2, t3, t4, t5, g0, g1, g2, g3⟩ := HT.out wr T0.out
  have KW1 := H.Keep.mk (KW.out _ T0.out.b)
  go_upto_region 6 with fail
  go_wp2_with fail
  refine KW1.out.mono ?_
  rintro e w5 ⟨rfl, hb⟩
  have T2 := H.Keep.mk (T0.out.below hb)
  clear KW1 KW T0 hb t0 t1 t2 t3 t4 t5 g0 g1 g2 g3
  have hN := HWH.out.n1
  have HLV := H.Keep.mk HAL.out.live
  have HRL := H.Keep.mk HWH.out.rl
  have HRD := H.Keep.mk HWH.out.rd
  have HLA := H.Keep.mk HWH.out.la
  have EA := H.Keep.mk (show A1.length = (A1.map (List.map toAc)).length by rw [List.length_map])
  have ht0 := HWH.out.t0
  have ht1 := HWH.out.t1
  have hnp := HWH.out.npl
  obtain ⟨tn, rfl⟩ := Int.eq_ofNat_of_zero_le ht0
  clear HAL HWH ht0
  generalize List.map (List.map toAc) A1 = al at *
  have hN2 : A1.length ≤ 1000 := by rw [EA.out]; exact hN
  dsimp only
  go_wp2
  go_loopg [5] A1.length (fun gg s5 wr => ∃ s : Nat, s ≤ A1.length ∧ A1.length - s ≤ gg ∧ s5 = .int .i64 s ∧ H.Keep (TW w2 wr #[.int .i64 tn, .int .i64 b, .int .i64 c, .slice AP l.length cP, .slice AA A1.length cA, .slice AL L1.length cL]))
  case atStart => exact ⟨0, Nat.zero_le _, by omega, rfl, T2⟩
  case round =>
  clear T2
  obtain ⟨s, hs, hg, rfl, T⟩ := hrel
  obtain ⟨t0, t1, t2, t3, t4, t5, g0, g1, g2, g3⟩ := HT.out wr T.out
  by_cases hlt : s < A1.length
  rotate_left
  · have KL1 := H.Keep.mk (KL.out _ (BT.out _ T.out.b))
    go_wp2_with fail
    refine KL1.out.mono ?_
    rintro e w9 ⟨rfl, hb⟩
    have FIN := H.Keep.mk (BT.out _ (T.out.below hb).b)
    clear hb
    dsimp only
    go_wp2_with fail
    go_ret
    exact ⟨rfl, FIN.out⟩
  have hsl : s < al.length := by have := EA.out; omega
  obtain ⟨ad, Ar, cr, rfl, q1, q2, q3, hrow⟩ := TI.out.a s hsl
  have HROW := H.Keep.mk hrow
  have Q2 := H.Keep.mk q2
  have KE1 := H.Keep.mk (fun W hW => KE.out W hW s hsl)
  have hla := HLA.out s hsl
  have RL := H.Keep.mk (HRL.out s hsl)
  have RD := H.Keep.mk (HRD.out s hsl)
  have LV := H.Keep.mk (HLV.out s hsl)
  clear hrow q2
  generalize al[s] = row at *
  have hla2 : row.length = tn + 1 := by omega
  have HLR := H.Keep.mk hla2
  clear hla hla2
  go_wp2
  clear t0 t1 t2 t3 t4 t5 g0 g1 g2 g3
  go_loopg [6, 7] (tn + 1) (fun gg s6 s7 wr => ∃ n q : Nat, q ≤ tn + 1 ∧ tn + 1 - q ≤ gg ∧ s6 = .int .i64 n ∧ s7 = .int .i64 q ∧ H.Keep (CntI row q n) ∧ H.Keep (TW w2 wr #[.int .i64 tn, .int .i64 b, .int .i64 c, .slice AP l.length cP, .slice (some ad) A1.length cA, .slice AL L1.length cL]))
  case atStart => exact ⟨0, 0, Nat.zero_le _, by omega, rfl, rfl, ⟨⟨Nat.zero_le _, fun _ i _ hi => absurd hi (Nat.not_lt_zero _)⟩⟩, T⟩
  case round =>
  clear T
  obtain ⟨n, q, hq, hg2, rfl, rfl, C, T⟩ := hrel
  obtain ⟨t0, t1, t2, t3, t4, t5, g0, g1, g2, g3⟩ := HT.out wr T.out
  have hnle := C.out.le
  by_cases hltq : q ≤ tn
  rotate_left
  · have u1 : ((n : Int) == 0) = false := by
      refine beq_eq_false_iff_ne.2 fun e => ?_
      obtain ⟨i, hi, h3⟩ := LV.out
      exact C.out.z (by omega) i hi (by have := HLR.out; omega) h3
    have e1 : decide (n = 0) = false := decide_eq_false (fun e => by rw [e] at u1; exact absurd u1 (by decide))
    go_wp2
    go_roundg (A1.length - (s + 1))
    case measure => omega
    case rel => exact ⟨s + 1, by omega, by omega, by go_num, T⟩
  have hqr : q < row.length := by have := HLR.out; omega
  obtain ⟨ar, Ai, ci, rfl, b4, c4, c5, c6, lci, hri⟩ := HROW.out q hqr
  have C2 := H.Keep.mk (C.out.step hqr (RL.out q hqr))
  have KE2 := H.Keep.mk (fun W hW => KE1.out W hW q hqr)
  have k4 := RL.out q hqr
  have k5 := H.Keep.mk (RD.out q hqr)
  generalize hx : row[q] = x at *
  clear hx
  obtain ⟨xs, xr, xa⟩ := x
  dsimp only at *
  have d1 := H.cell_below Q2.out T.out.b (by rw [H.add_block]; exact q1)
  replace c4 := H.cell_below c4 T.out.b (by rw [H.add_block]; exact b4)
  replace c5 := H.cell_below c5 T.out.b (by show (ar.add _).block < _; rw [H.add_block]; exact b4)
  replace c6 := H.cell_below c6 T.out.b (by show (ar.add _).block < _; rw [H.add_block]; exact b4)
  have j0 : (0:Int) ≤ q := by omega
  have j1 : (q : Int) < row.length := by omega
  have j2 : (0:Int) ≤ s := by omega
  have j3 : (s : Int) < A1.length := by omega
  go_upto_region 16 with fail
  have X0 := H.Keep.mk (H.Blk.new wr 46 #[.int .i64 xs, .slice Ai xr.length ci, .bool xa])
  have T3 := H.Keep.mk (T.out.alloc (.cells #[.int .i64 xs, .slice Ai xr.length ci, .bool xa] 46))
  have nx : w2.heap.size < wr.heap.size := T.out.t.lt
  clear T t0 t1 t2 t3 t4 t5 g0 g1 g2 g3 d1 c4 c5 c6
  generalize (wr.alloc (.cells #[.int .i64 xs, .slice Ai xr.length ci, .bool xa] 46)) = wx at X0 T3 ⊢
  generalize wr.heap.size = gx at *
  have x0 := X0.out.cell 0
  have x1 := X0.out.cell 1
  have x2 := X0.out.cell 2
  simp at x0 x1 x2
  have HRI := H.Keep.mk hri
  clear hri C Q2 HROW
  have cases3 : ∃ m : Nat, H.Keep (n + cntI ⟨xs, xr, xa⟩ = m + xr.length) ∧ m ≤ 1100000 ∧ ((decide (0 ≤ xs) = true ∧ m = n + 1) ∨ (decide (0 ≤ xs) = false ∧ xa = true ∧ m = n + 1) ∨ (decide (0 ≤ xs) = false ∧ xa = false ∧ m = n)) := by
    by_cases h1 : 0 ≤ xs
    · exact ⟨n + 1, ⟨by unfold cntI; dsimp only; rw [if_pos (.inl h1)]; omega⟩, by omega, .inl ⟨decide_eq_true h1, rfl⟩⟩
    · cases xa with
      | true => exact ⟨n + 1, ⟨by unfold cntI; dsimp only; rw [if_pos (.inr rfl)]; omega⟩, by omega, .inr (.inl ⟨decide_eq_false h1, rfl, rfl⟩)⟩
      | false => exact ⟨n, ⟨by unfold cntI; dsimp only; rw [if_neg (by simp [h1])]; omega⟩, by omega, .inr (.inr ⟨decide_eq_false h1, rfl, rfl⟩)⟩
  obtain ⟨m, EC, hm6, hcs⟩ := cases3
  have hnn : n ≤ 1100000 := by omega
  rcases hcs with ⟨h1, hm⟩ | ⟨h1, rfl, hm⟩ | ⟨h1, rfl, hm⟩
  all_goals
    have EM := H.Keep.mk hm
    clear hm hm6
    go_upto_region 19 with fail
    clear x0 x1 x2 h1
    go_wp2
    generalize hxa : (#[.int .i64 xs, .slice Ai xr.length ci, .bool _] : Array Value) = xc at X0
    have XC := H.Keep.mk (show xc[1]? = some (.slice Ai xr.length ci) by rw [← hxa]; rfl)
    clear hxa
    go_loopg [9] xr.length (fun gg s9 wr => ∃ i : Nat, i ≤ xr.length ∧ xr.length - i ≤ gg ∧ s9 = .int .i64 i ∧ H.Keep (TW w2 wr #[.int .i64 tn, .int .i64 b, .int .i64 c, .slice AP l.length cP, .slice (some ad) A1.length cA, .slice AL L1.length cL]) ∧ H.Keep (H.Blk wr gx 46 xc))
    case atStart => exact ⟨0, Nat.zero_le _, by omega, rfl, T3, X0⟩
    case round =>
    clear T3 X0
    obtain ⟨i, hi, hg3, rfl, T, X⟩ := hrel
    obtain ⟨t0, t1, t2, t3, t4, t5, g0, g1, g2, g3⟩ := HT.out wr T.out
    have x1 := X.out.cell 1
    rw [XC.out] at x1
    by_cases hlti : i < xr.length
    rotate_left
    · go_wp2
      go_roundg (tn + 1 - (q + 1))
      case measure => omega
      case rel => exact ⟨n + cntI ⟨xs, xr, _⟩, q + 1, by omega, by omega, by have h1 := EC.out; have h2 := EM.out; congr 1; omega, by go_num, C2, T⟩
    obtain ⟨a3, rfl, b7, c7⟩ := HRI.out.int i hlti
    obtain ⟨p1, p2, _⟩ := k5.out i hlti
    replace c7 := H.cell_below c7 T.out.b (by rw [H.add_block]; exact b7)
    have KE3 := H.Keep.mk (fun W hW => KE2.out W hW i hlti)
    generalize xr[i] = v at *
    obtain ⟨p, rfl⟩ := Int.eq_ofNat_of_zero_le p1
    have hpl : p < l.length := by omega
    obtain ⟨ag, Ab, cb, rfl, m0, m1, m2, lcb, hbody⟩ := at_T49 HR.out (p : Int) (by omega) (by omega)
    rw [rd_pr l p hpl] at m0 m1 m2 lcb hbody
    simp only [Int.toNat_natCast] at m0 m1 m2
    have bw := BT.out _ T.out.b
    have n1 := H.cell_lt m0
    rw [H.add_block] at n1
    replace m1 := H.cell_below m1 bw (by show (ag.add _).block < _; rw [H.add_block]; exact n1)
    have KE4 := H.Keep.mk (fun W hW => KE3.out W hW p hpl rfl Ab cb hbody lcb)
    generalize l[p].f1 = bd at *
    clear bw m0 m2 hbody KE3
    have f0 : (0:Int) ≤ i := by omega
    have f1 : (i : Int) < xr.length := by omega
    have f2 : (0:Int) ≤ p := by omega
    have f3 : (p : Int) < l.length := by omega
    have f4 : (0:Int) ≤ s := by omega
    go_upto_region 22 with fail
    have KE5 := H.Keep.mk (KE4.out wr.drew T.out.drew.b)
    clear KE4
    go_cut [86] (fun sx wx => sx = .bool false ∧ H.Keep (TW w2 wx #[.int .i64 tn, .int .i64 b, .int .i64 c, .slice AP l.length cP, .slice (some ad) A1.length cA, .slice AL L1.length cL]) ∧ H.Keep (H.Blk wx gx 46 xc))
    case first =>
      go_region_held3 (fun W => W.cell? ⟨gt, 0, none⟩ = some (.int .i64 tn) ∧ W.cell? ⟨gt, 1, none⟩ = some (.int .i64 b) ∧ W.cell? ⟨gt, 2, none⟩ = some (.int .i64 c) ∧ W.cell? ⟨gt, 3, none⟩ = some (.slice AP l.length cP) ∧ W.cell? ⟨gt, 4, none⟩ = some (.slice (some ad) A1.length cA) ∧ W.cell? ⟨gt, 5, none⟩ = some (.slice AL L1.length cL) ∧
          W.cell? ⟨gb, 3, none⟩ = some (.slice (some ag) l.length c0) ∧ W.cell? ⟨gx, 1, none⟩ = some (.slice (some a3) xr.length ci) ∧ W.cell? (a3.add i) = some (.int .i64 p) ∧ W.cell? ⟨(ag.add (p * 3)).block, (ag.add (p * 3)).off + 1, none⟩ = some (.slice Ab bd.length cb))
        (first | exact ⟨t0, t1, t2, t3, t4, t5, g3, x1, c7, m1⟩ | exact Z) (first
        | (go_at_call 18; refine KE5.out.mono ?_; rintro e w9 ⟨rfl, hb9⟩; have T9 := H.Keep.mk (T.out.drew.below hb9); have X9 := H.Keep.mk (X.out.drew.below hb9 X.out.lt); have hb0 : Below wr.heap.size wr w9 := H.below_step (H.below_drew1 (Below.refl _ _)) hb9 (Nat.le_refl _); have Z := (show _ ∧ _ ∧ _ ∧ _ ∧ _ ∧ _ ∧ _ ∧ _ ∧ _ ∧ _ from ⟨H.cell_below t0 hb0 (H.cell_lt t0), H.cell_below t1 hb0 (H.cell_lt t1), H.cell_below t2 hb0 (H.cell_lt t2), H.cell_below t3 hb0 (H.cell_lt t3), H.cell_below t4 hb0 (H.cell_lt t4), H.cell_below t5 hb0 (H.cell_lt t5), H.cell_below g3 hb0 (H.cell_lt g3), H.cell_below x1 hb0 (H.cell_lt x1), H.cell_below c7 hb0 (H.cell_lt c7), H.cell_below m1 hb0 (H.cell_lt m1)⟩); clear hb9 hb0))
      all_goals (go_wp2_with fail; go_meet; exact ⟨rfl, T9, X9⟩)
    case rest =>
    obtain ⟨rfl, T9, X9⟩ := hcut
    clear t0 t1 t2 t3 t4 t5 g0 g1 g2 g3 x1 c7 m1 T X KE5
    go_wp2
    go_roundg (xr.length - (i + 1))
    case measure => omega
    case rel => exact ⟨i + 1, by omega, by omega, by go_num, T9, X9⟩
end Go.Proofs.YtaooejidkeojjaaDoor.PSm
namespace Go.Proofs.YtaooejidkeojjaaDoor.tablesAlive
open Go.ChangeShapes Go.WideShapes Go.ChangeAt Go.RowKit Go.Proofs.YtaooejidkeojjaaDoorW.PrintWords Go.Proofs.YtaooejidkeojjaaDoor.PSm Go.Proofs.YtaooejidkeojjaaDoor.Rg
set_option linter.unusedVariables false
set_option linter.unusedSimpArgs false
set_option maxRecDepth 100000
theorem rds_49 {H : Type} {enc : TypeId × Value → H} {w : World} : ∀ n, Rds enc w 49 k49 n := by
  intro n
  intro cs y h
  obtain ⟨m, rfl, hl, hf⟩ := str_of Tryd.underlying49 h
  rw [show Tryd.prog.cellsOf 49 = 3 from by kernel_rfl] at hl
  have h0 : ∃ z, DataW.trod enc Tryd.prog w 0 (fun _ => true) true m 3 ((cs.drop 0).take 1) = some z := by
    obtain ⟨z, hz⟩ := hf 0 _ rfl
    refine ⟨z, ?_⟩
    rw [← show Tryd.prog.cellsOf 3 = 1 from by kernel_rfl]
    exact hz
  obtain ⟨z0, g0⟩ := h0
  have h1 : ∃ z, DataW.trod enc Tryd.prog w 0 (fun _ => true) true m 44 ((cs.drop 1).take 1) = some z := by
    obtain ⟨z, hz⟩ := hf 1 _ rfl
    refine ⟨z, ?_⟩
    rw [← show Tryd.prog.cellsOf 44 = 1 from by kernel_rfl]
    exact hz
  obtain ⟨z1, g1⟩ := h1
  have h2 : ∃ z, DataW.trod enc Tryd.prog w 0 (fun _ => true) true m 4 ((cs.drop 2).take 1) = some z := by
    obtain ⟨z, hz⟩ := hf 2 _ rfl
    refine ⟨z, ?_⟩
    rw [← show Tryd.prog.cellsOf 4 = 1 from by kernel_rfl]
    exact hz
  obtain ⟨z2, g2⟩ := h2
  exact fld_iso (fun x => ⟨x.1, x.2.1, x.2.2⟩) (fun _ => rfl) (fld_cons (rds_int Tryd.underlying3 _) g0 (fld_cons (rds_slice Tryd.underlying44 (by kernel_rfl) (fun j _ => (rds_int Tryd.underlying3 _))) g1 (fld_last (rds_bool Tryd.underlying4 _) hl g2)))
theorem rds_24 {H : Type} {enc : TypeId × Value → H} {w : World} : ∀ n, Rds enc w 24 k24 n := by
  intro n
  intro cs y h
  obtain ⟨m, rfl, hl, hf⟩ := str_of Tryd.underlying24 h
  rw [show Tryd.prog.cellsOf 24 = 4 from by kernel_rfl] at hl
  have h0 : ∃ z, DataW.trod enc Tryd.prog w 0 (fun _ => true) true m 3 ((cs.drop 0).take 1) = some z := by
    obtain ⟨z, hz⟩ := hf 0 _ rfl
    refine ⟨z, ?_⟩
    rw [← show Tryd.prog.cellsOf 3 = 1 from by kernel_rfl]
    exact hz
  obtain ⟨z0, g0⟩ := h0
  have h1 : ∃ z, DataW.trod enc Tryd.prog w 0 (fun _ => true) true m 3 ((cs.drop 1).take 1) = some z := by
    obtain ⟨z, hz⟩ := hf 1 _ rfl
    refine ⟨z, ?_⟩
    rw [← show Tryd.prog.cellsOf 3 = 1 from by kernel_rfl]
    exact hz
  obtain ⟨z1, g1⟩ := h1
  have h2 : ∃ z, DataW.trod enc Tryd.prog w 0 (fun _ => true) true m 3 ((cs.drop 2).take 1) = some z := by
    obtain ⟨z, hz⟩ := hf 2 _ rfl
    refine ⟨z, ?_⟩
    rw [← show Tryd.prog.cellsOf 3 = 1 from by kernel_rfl]
    exact hz
  obtain ⟨z2, g2⟩ := h2
  have h3 : ∃ z, DataW.trod enc Tryd.prog w 0 (fun _ => true) true m 22 ((cs.drop 3).take 1) = some z := by
    obtain ⟨z, hz⟩ := hf 3 _ rfl
    refine ⟨z, ?_⟩
    rw [← show Tryd.prog.cellsOf 22 = 1 from by kernel_rfl]
    exact hz
  obtain ⟨z3, g3⟩ := h3
  exact fld_iso (fun x => ⟨x.1, x.2.1, x.2.2.1, x.2.2.2⟩) (fun _ => rfl) (fld_cons (rds_int Tryd.underlying3 _) g0 (fld_cons (rds_int Tryd.underlying3 _) g1 (fld_cons (rds_int Tryd.underlying3 _) g2 (fld_last (rds_slice Tryd.underlying22 (by kernel_rfl) (fun j _ => (rds_49 _))) hl g3))))
theorem own : ownKnob Tryd.prog.godebug = none := by kernel_rfl
theorem laidOut : laidOutB Tryd.prog = true := by kernel_rfl
theorem door_met (os : Os) (args : Array Value) : laidMetH Tryd.prog [("math/bits.deBruijn64tab", Rows.laid_math_bits_deBruijn64tab)] ((World.doorLaid Tryd.prog 400 os).forCall (fun _ _ => 0) ⟨#[], args, []⟩).memory :=
  laidMetH_of_parts3 (fuel := 8) (laidMet_of_run' 8 (by kernel_rfl) (by kernel_rfl)) (by kernel_rfl) (by kernel_rfl)
theorem of_laid {W : World} (h : laidMetH Tryd.prog [("math/bits.deBruijn64tab", Rows.laid_math_bits_deBruijn64tab)] W) : Go.Proofs.YtaooejidkeojjaaDoor.H.Laid W := by
  rw [MakeChecks.laidMetH_plain _ _ _ (by kernel_rfl)] at h
  exact Lib.tabIs_of_head (k := .u8) (zs := H.brTab) (rest := []) (show Tryd.prog.globalNamed "math/bits.deBruijn64tab" = some 0 from by kernel_rfl) (show (Tryd.prog.globals[0]?).map (·.type) = some 129 from by kernel_rfl) Tryd.underlying129 Tryd.underlying5 (by kernel_rfl) (by kernel_rfl) h
set_option maxRecDepth 100000 in
theorem lifted (os : Os) (started : os.Started) (H : Type) (enc : TypeId × Value → H) :
    ReturnsInHanded {} Tryd.checked os 6 .any (fun w args => (Rows.tablesAliveSpec.pre enc Tryd.prog Tryd.f6 [] false w args ∧ laidMetH Tryd.prog [("math/bits.deBruijn64tab", Rows.laid_math_bits_deBruijn64tab)] w) ∧ sizedMet enc Tryd.prog Tryd.f6 (OpenSpec.ofChange Rows.tablesAliveSpec) false w args) (Rows.tablesAliveSpec.post enc Tryd.prog Tryd.f6 false true false false) := by
  refine returnsInHanded_of_change_and (C := Tryd.checked) (X := fun w _ => laidMetH Tryd.prog [("math/bits.deBruijn64tab", Rows.laid_math_bits_deBruijn64tab)] w) (fun _ _ _ hh h => h.of_heap hh) own started (by kernel_rfl) Tryd.func6
    (ChangeSpec.witness_shaped (enc := enc) (C := Tryd.checked) (os := os) (X := fun w _ => laidMetH Tryd.prog [("math/bits.deBruijn64tab", Rows.laid_math_bits_deBruijn64tab)] w) false (World.doorLaid Tryd.prog 400 os) #[.agg #[.int .i64 0, .int .i64 0, .int .i64 0, .slice none 0 0]] 8 rfl (World.shaped_of_RefB (by kernel_rfl) (by kernel_rfl)) (by kernel_rfl) (by kernel_rfl) (by kernel_rfl) (door_met os _)) ?_
  intro W base args ds gs before hval0 hW hcnd hsz0 hL0 _
  have hLaid := of_laid hL0
  have hval : ∀ (j : Nat) t v, Tryd.f6.params[j]? = some t → args[j]? = some v → Value.okWide Tryd.prog W .any base t v := hval0
  have hW' := hW
  obtain ⟨p, q, hA0, hV, rfl, hfz, hnd⟩ := hW
  have hA : DataW.TrodAll enc Tryd.prog W 0 (fun _ => true) true Tryd.f6.params.toList args.toList ds p := hA0
  rw [Tryd.params6] at hA hval
  obtain ⟨v0, vs0, d0, ds0, p0, q0, hargs, rfl, rfl, h0, r0⟩ := trodAll_cons hA
  obtain ⟨rfl, rfl, rfl⟩ := trodAll_nil r0
  obtain rfl : args = #[v0] := by cases args; simp_all
  obtain ⟨rfl, rfl⟩ := trodVars_none hV
  have k0 := h0
  have lt0 : ∀ x ∈ p0, x.block < W.heap.size := by obtain ⟨m, hm⟩ := k0; exact DataW.trod_lt m _ _ _ hm
  obtain ⟨x0, cs0, rfl, K0⟩ := arg_agg (d := k24) Tryd.underlying24 (hval 0 24 v0 rfl rfl) h0 (fun n => rds_24 n)
  obtain ⟨A0_3, c0_3, rfl, hc0_3, hr0_3⟩ := k24_open K0
  have hcall := alive_any (x0.f0) (x0.f1) (x0.f2) (A0_3) (c0_3) (x0.f3) W (hr0_3) (hc0_3) hLaid
  refine hcall.mono fun e W' ⟨he, bel⟩ => ?_
  subst he
  exact ⟨_, rfl, _, _, _, [], _, [], hW', trodAll_mk1 (shut_bool Tryd.underlying4 _), (trodAll_cons_mk (Below.trod laidOut (by kernel_rfl) (of_decide_eq_true (by kernel_rfl)) k0 bel lt0) trodAll_mk0), rfl, bel.frame _, fun h => by cases h⟩
theorem over : Rows.tablesAliveRow.holds Tryd.pinned (OpenSpec.ofChange Rows.tablesAliveSpec) :=
  OpenClaim.holds_of_wide 6 Tryd.f6 rfl rfl rfl rfl rfl rfl rfl ⟨rfl, rfl, rfl, rfl, rfl⟩ rfl rfl rfl rfl rfl (by kernel_rfl) Tryd.func6 (by kernel_rfl)
    (of_decide_eq_true (by kernel_rfl)) (by unfold Func.isWrapper; first | (rw [if_pos (by decide +kernel)]; kernel_rfl) | (rw [if_neg (by decide +kernel)]; exact ⟨rfl, rfl⟩))
    (fun os started H enc _ => lifted os started H enc)
end Go.Proofs.YtaooejidkeojjaaDoor.tablesAlive
namespace Go.Proofs.YtaooejidkeojjaaDoor
theorem tablesAlive_holds : Rows.TablesAliveSaid := tablesAlive.over
#print axioms tablesAlive_holds
end Go.Proofs.YtaooejidkeojjaaDoor
