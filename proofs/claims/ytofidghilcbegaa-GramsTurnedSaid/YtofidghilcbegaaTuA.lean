/-
  GramsTurned, walked.
-/
import Derived.Test.YtofidghilcbegaaGwA
import Derived.Test.YtofidghilcbegaaPlT
import Derived.Test.YtofidghilcbegaaLaA
import Derived.Test.YtofidghilcbegaaLaB
import Derived.Test.YtofidghilcbegaaOpen
namespace Go.Proofs.Ytofidghilcbegaa
open Go.RowKit
set_option linter.unusedVariables false
set_option linter.unusedSimpArgs false

theorem wpl_append_P {ops : Array Oper} {rest : List Oper} {o : Oper} {a : Act} {Q : Exit → Act → World → Prop} (w : World) (hgd : o.guard = none) (s x : Operand)
    (ho : o.op = .call { callee := .builtin .append, args := #[s, x], argTypes := #[22, 22] })
    (B : Nat) (v : Value) (m : List PA) (hs : a.eval s = v) (hown : w.ownsRow B 38 3 v m.length (cellsPA m)) (n : Nat) (y : PA) (hx : a.eval x = .slice (some ⟨n, 0, none⟩) 1 1)
    (hcell : ∀ ad, some (Addr.mk n 0 none) = some ad → ∀ j u, (cellsPA [y])[j]? = some u → w.cell? (ad.add j) = some u)
    (hl : m.length + 1 ≤ 1000000) (hbase : B ≤ w.heap.size)
    (h : ∀ v' w', w'.ownsRow B 38 3 v' (m ++ [y]).length (cellsPA (m ++ [y])) → w.grownBy w' v.ownBlock → wpList Try.prog ops Q rest (a.put o.dst v') w') : wpList Try.prog ops Q (o :: rest) a w := by
  obtain ⟨i0, hi0, hz0, hz1, hz2⟩ := info_parts info_prod
  refine wpList_append_own w hgd s x 22 ho B 38 i0 _ 3 40 Try.underlying22 hi0 hz0 hz1 hz2 rfl (by decide) v m.length (cellsPA m) hs hown ⟨n, 0, none⟩ 1 1 (cellsPA [y]) hx rfl
    (hcell _ rfl) (cellsPA_one [y]) (by simp only [maxLen]; omega) (by omega) hbase (fun v' w' h1 h2 _ => h v' w' ?_ h2)
  rw [List.length_append, cellsPA_append]
  exact h1
def turnA (x : PA) : PA := ⟨turnP x.p, x.A, x.c⟩
theorem turnA_take {mA : List PA} {i k : Nat} (h : mA.length = i + k + 1) : ((mA.map turnA).reverse.take (k + 1)) = (mA.map turnA).reverse.take k ++ [turnA (mA[i]'(by omega))] := by
  rw [List.take_succ_eq_append_getElem (by simp; omega), List.getElem_reverse]
  congr 2
  rw [List.getElem_map]
  congr 2
  simp only [List.length_map]
  omega

theorem own_ne {w : World} {B k n g : Nat} {e : TypeId} {v : Value} {xs : List Value} (h : w.ownsRow B e k v n xs) (hg : g < B) : some g ≠ v.ownBlock := by
  intro e'
  have := (h.lt g e'.symm).1
  omega
theorem turn_step {w wr w' : World} {gM k k' : Nat} {v v' : Value} {m m' : List PA} {T S st : Int} {gt : TypeId} {gc : Array Value} {o1 o2 : Obj}
    (n0 : w.heap.size < gM) (B2 : Below w.heap.size w wr) (BG2 : Blk wr w.heap.size gt gc) (BM2 : Blk wr gM gt #[.int .i64 T, .int .i64 S, .int .i64 st, v])
    (O2 : wr.ownsRow (gM + 1) 38 3 v k (cellsPA m)) (ho : w'.ownsRow (gM + 1) 38 3 v' k' (cellsPA m')) (hg : ((wr.alloc o1).alloc o2).grownBy w' v.ownBlock) :
    Blk w' gM gt #[.int .i64 T, .int .i64 S, .int .i64 st, v] ∧ Below w.heap.size w (w'.setCell ⟨gM, 3, none⟩ v') ∧ Blk (w'.setCell ⟨gM, 3, none⟩ v') w.heap.size gt gc ∧
      Blk (w'.setCell ⟨gM, 3, none⟩ v') gM gt #[.int .i64 T, .int .i64 S, .int .i64 st, v'] ∧ (w'.setCell ⟨gM, 3, none⟩ v').ownsRow (gM + 1) 38 3 v' k' (cellsPA m') := by
  have bm := ((BM2.alloc o1).alloc o2).grown hg (own_ne O2 (by omega))
  have bg := ((BG2.alloc o1).alloc o2).grown hg (own_ne O2 (by omega))
  have bb : Below w.heap.size w w' := (upAlloc (upAlloc B2 o1) o2).grown hg (upAlloc (upAlloc B2 o1) o2).size (fun b hb => by have := (O2.lt b hb).1; omega)
  refine ⟨bm, bb.setCell (by show w.heap.size ≤ gM; omega) _, bg.far (by show _ ≠ gM; omega) _, ?_, ho.kept (grown_set _ _ _ _) (.inr fun e => own_ne ho (Nat.lt_succ_self gM) e.symm)⟩
  have := bm.set_ 3 v'
  simpa using this
theorem turn_end {w wr : World} {gM c : Nat} {A : Option Addr} {mA : List PA} {T S st : Int} (B2 : Below w.heap.size w wr) (O2 : wr.ownsRow (gM + 1) 38 3 (.slice A mA.length c) mA.length (cellsPA (mA.map turnA).reverse))
    (hx : ∀ y ∈ mA, y.p.body.length ≤ y.c ∧ Rd eI 1 w w.heap.size y.A y.p.body) (hb : ∀ y ∈ mA, y.p.body.length ≤ 9223372036854775807) :
    GrIn wr (turnG ⟨T, S, st, mA.map (·.p)⟩) A c := by
  have hl : (mA.map turnA).reverse.length = mA.length := by simp
  have O3 : OwnP wr (gM + 1) w.heap.size (.slice A mA.length c) (mA.map turnA).reverse := ⟨by rw [hl]; exact O2, fun y hy => by
    obtain ⟨x, hm, rfl⟩ := List.mem_map.1 (List.mem_reverse.1 hy)
    exact ⟨(hx x hm).1, (hx x hm).2.below B2⟩⟩
  obtain ⟨A', c', e, h1, h2, h3⟩ := O3.open_ B2.size
  rw [hl] at e h1
  simp only [Value.slice.injEq, true_and] at e
  obtain ⟨rfl, rfl⟩ := e
  have hps : (turnG ⟨T, S, st, mA.map (·.p)⟩).ps = ((mA.map turnA).reverse).map (·.p) := by
    unfold turnG
    simp only [List.map_reverse, List.map_map]
    rfl
  refine ⟨by rw [hps, List.length_map, hl]; exact h1, by simp only [maxLen] at h2; omega, fun p hp => ?_, by rw [hps]; exact h3⟩
  rw [hps] at hp
  obtain ⟨y, hy, rfl⟩ := List.mem_map.1 hp
  obtain ⟨x, hm, rfl⟩ := List.mem_map.1 (List.mem_reverse.1 hy)
  exact hb x hm

set_option maxRecDepth 100000 in
set_option maxHeartbeats 8000000 in
theorem turned_any (g : Gr) (s : Int) (A : Option Addr) (c : Nat) (w : World) (h : GrIn w g A c) :
    Calls Try.prog 6 #[grV g A c, .int .i64 s] w fun e w' => e = .returned (.bool true) ∧ Below w.heap.size w w' := by
  have H0 := Keep.mk h
  obtain ⟨mA, hmA, HC, HN, HX⟩ := h.r.cells
  have HAll := Keep.mk HX
  have HBd : Keep (∀ y ∈ mA, y.p.body.length ≤ 9223372036854775807) := ⟨fun y hy => h.b y.p (by rw [← hmA]; exact List.mem_map_of_mem hy)⟩
  have HC := Keep.mk HC
  have HR := Keep.mk h.r
  have HNo : Keep (A = none → mA = []) := ⟨fun e => by have := HN e; rw [← hmA] at this; exact List.map_eq_nil_iff.1 this⟩
  clear h HX HN HR
  have KB := Keep.mk fun W (hW : Below w.heap.size w W) => big_any g A c W (H0.out.below hW)
  have KF := Keep.mk fun W (hW : Below w.heap.size w W) => first_any g s A c W (H0.out.below hW)
  have KL := Keep.mk fun W (hW : Below w.heap.size w W) => follow_any g s A c W (H0.out.below hW)
  have KC := Keep.mk fun W (hW : Below w.heap.size w W) => check_any g A c W (H0.out.below hW)
  have HSz : Keep (bigB g = false → mA.length ≤ 100000) := ⟨fun e => by
    have h1 : mA.length = g.ps.length := by rw [← hmA]; simp
    unfold bigB sizeOfGr at e
    simp only [decide_eq_false_iff_not] at e
    omega⟩
  clear H0
  have T1 := Keep.mk (first_turn g s)
  have T2 := Keep.mk (follow_turn g s)
  have T3 := Keep.mk (check_turn g)
  have T4 := Keep.mk (err_same g s)
  have L1 := Keep.mk (firstR_len g s)
  have L3 := Keep.mk (followR_len g s)
  generalize hBig : bigB g = BIG at *
  clear hBig
  generalize firstR g s = R1 at *
  generalize followR g s = R3 at *
  generalize checkI g = E0 at *
  obtain ⟨T, S, st, ps⟩ := g
  dsimp only at hmA
  subst hmA
  unfold grV at *
  dsimp only at *
  simp only [List.length_map] at *
  go_enter Try.func6, Try.ntmps6
  have B0 : Keep (Below w.heap.size w (w.alloc (.cells #[.int .i64 T, .int .i64 S, .int .i64 st, .slice A mA.length c] 24))) := ⟨(Below.refl _ _).alloc (Nat.le_refl _) _⟩
  have BG : Keep (Blk (w.alloc (.cells #[.int .i64 T, .int .i64 S, .int .i64 st, .slice A mA.length c] 24)) w.heap.size 24 #[.int .i64 T, .int .i64 S, .int .i64 st, .slice A mA.length c]) := ⟨Blk.new _ _ _⟩
  go_wp2_with fail
  refine (KB.out _ B0.out).mono ?_
  rintro e w1 ⟨rfl, hb⟩
  have B1 : Keep (Below w.heap.size w w1) := ⟨below_step B0.out hb B0.out.size⟩
  have BG1 := Keep.mk (BG.out.below hb BG.out.lt)
  clear B0 BG hb KB
  cases BIG with
  | true =>
    go_wp2
    go_ret
    exact ⟨rfl, B1.out⟩
  | false =>
    have hsz := HSz.out rfl
    have q0 := BG1.out.cell 0
    have q1 := BG1.out.cell 1
    have q2 := BG1.out.cell 2
    have q3 := BG1.out.cell 3
    simp at q0 q1 q2 q3
    have n0 : w.heap.size < w1.heap.size := BG1.out.lt
    go_wp2_with fail
    have BGM : Keep (Blk (w1.alloc (.cells #[.int .i64 T, .int .i64 S, .int .i64 st, .slice none 0 0] 24)) w1.heap.size 24 #[.int .i64 T, .int .i64 S, .int .i64 st, .slice none 0 0]) := ⟨Blk.new _ _ _⟩
    have BGc := Keep.mk (BG1.out.alloc (.cells #[.int .i64 T, .int .i64 S, .int .i64 st, .slice none 0 0] 24))
    have BM := Keep.mk (upAlloc B1.out (.cells #[.int .i64 T, .int .i64 S, .int .i64 st, .slice none 0 0] 24))
    clear BG1 q0 q1 q2 q3
    generalize hwM : w1.alloc (.cells #[.int .i64 T, .int .i64 S, .int .i64 st, .slice none 0 0] 24) = wM at *
    clear hwM
    generalize w1.heap.size = gM at *
    have n2 : gM < wM.heap.size := BGM.out.lt
    go_loopg [6] mA.length (fun gg s6 wr => ∃ (k : Nat) (v : Value), k ≤ mA.length ∧ mA.length - k ≤ gg ∧ s6 = .int .i64 ((mA.length : Int) - 1 - k) ∧ Keep (Below w.heap.size w wr) ∧ Keep (Blk wr w.heap.size 24 #[.int .i64 T, .int .i64 S, .int .i64 st, .slice A mA.length c]) ∧
      Keep (Blk wr gM 24 #[.int .i64 T, .int .i64 S, .int .i64 st, v]) ∧ Keep (wr.ownsRow (gM + 1) 38 3 v k (cellsPA ((mA.map turnA).reverse.take k))))
    case atStart => exact ⟨0, .slice none 0 0, Nat.zero_le _, by omega, by simp, BM, BGc, BGM, ⟨by rw [List.take_zero]; exact World.ownsRow_nil _ _ _ _⟩⟩
    case round =>
      clear BM BGc BGM n2
      obtain ⟨k, v, hk, hgk, rfl, B2, BG2, BM2, O2⟩ := hrel
      have n1 : w.heap.size < wr.heap.size := BG2.out.lt
      have n2 : gM < wr.heap.size := BM2.out.lt
      obtain ⟨A2, cv, rfl⟩ := own_slice O2.out
      by_cases hlt : k < mA.length
      · obtain ⟨i, hi⟩ : ∃ i : Nat, mA.length = i + k + 1 := ⟨mA.length - 1 - k, by omega⟩
        have ei : (mA.length : Int) - 1 - k = (i : Int) := by omega
        rw [ei]
        have i1 : (0 : Int) ≤ i := by omega
        have i2 : (i : Int) < mA.length := by omega
        have hti := Keep.mk (turnA_take hi)
        have hln : Keep (((mA.map turnA).reverse.take k).length = k) := ⟨by simp; omega⟩
        obtain ⟨a0, a1, a2⟩ := cellsPA_at mA i (by omega)
        cases A with
        | none => have := HNo.out rfl; subst this; simp at hlt
        | some ad =>
          have c0 := HC.out ad rfl _ _ a0
          have c1 := HC.out ad rfl _ _ a1
          have c2 := HC.out ad rfl _ _ a2
          rw [add_after _ _ _ (by decide)] at c1 c2
          have nb : (ad.add (i * 3)).block < w.heap.size := cell_lt c0
          replace c0 := cell_below c0 B2.out nb
          replace c1 := cell_below c1 B2.out nb
          replace c2 := cell_below c2 B2.out nb
          clear a0 a1 a2
          generalize hX : (mA[i]'(by omega)) = X at *
          clear hX
          obtain ⟨⟨xh, xb, xr⟩, xA, xc⟩ := X
          replace hi := Keep.mk hi
          generalize hm1 : (mA.map turnA).reverse.take k = m1 at *
          clear hm1
          dsimp only at *
          have n3 : (ad.add (i * 3)).block < wr.heap.size := by omega
          have q3 := BG2.out.cell 3
          have r3 := BM2.out.cell 3
          have rf := BM2.out.frozen 3
          simp at q3 r3
          go_wp2_with (at_builtin; refine wpl_append_P _ rfl (.tmp 38) (.tmp 40) rfl (gM + 1) (.slice A2 k cv) m1 rfl ?c1 (wr.heap.size + 1) ⟨⟨xh, xb, !xr⟩, xA, xc⟩ rfl ?c2 ?c3 ?c4 ?_)
          case c1 => rw [hln.out]; exact (O2.out.alloc _).alloc _
          case c2 => exact cellsOne (t := 38) (Blk.newAt (by simp))
          case c3 => rw [hln.out]; omega
          case c4 => simp; omega
          intro v' w6 ho hg
          obtain ⟨A3, c3, e3⟩ := own_slice ho
          have e4 := hln.out
          simp only [List.length_append, List.length_singleton, e4] at e3 ho
          clear e4
          subst e3
          obtain ⟨f1, f2, f3, f4, f5⟩ := turn_step n0 B2.out BG2.out BM2.out O2.out ho hg
          have F2 := Keep.mk f2
          have F3 := Keep.mk f3
          have F4 := Keep.mk f4
          have F5 := Keep.mk f5
          have g3 := f1.cell 3
          have gf := f1.frozen 3
          simp at g3
          clear f1 f2 f3 f4 f5 ho hg q3 r3 rf c0 c1 c2
          go_wp2
          go_roundg (mA.length - (k + 1))
          case measure => omega
          case rel =>
            refine ⟨k + 1, .slice A3 (k + 1) c3, by omega, by omega, ?_, F2, F3, F4, ⟨?_⟩⟩
            · have := hi.out
              first | go_num | (congr 1; omega)
            · rw [hti.out]; exact F5.out
      · have ek : k = mA.length := by omega
        subst ek
        have HT : Keep (GrIn wr (turnG ⟨T, S, st, mA.map (·.p)⟩) A2 cv) := ⟨turn_end B2.out (by have := O2.out; rwa [List.take_of_length_le (by simp)] at this) HAll.out HBd.out⟩
        have hneg : ¬ (0 : Int) ≤ (mA.length : Int) - 1 - mA.length := by omega
        have BX : Keep (Below w.heap.size w wr) := B2
        have KF2 := Keep.mk fun W (hW : Below wr.heap.size wr W) => first_any (turnG ⟨T, S, st, mA.map (·.p)⟩) s A2 cv W (HT.out.below hW)
        have KL2 := Keep.mk fun W (hW : Below wr.heap.size wr W) => follow_any (turnG ⟨T, S, st, mA.map (·.p)⟩) s A2 cv W (HT.out.below hW)
        have KC2 := Keep.mk fun W (hW : Below wr.heap.size wr W) => check_any (turnG ⟨T, S, st, mA.map (·.p)⟩) A2 cv W (HT.out.below hW)
        rw [T1.out] at KF2
        rw [T2.out] at KL2
        rw [T3.out] at KC2
        have hgv : grV (turnG ⟨T, S, st, mA.map (·.p)⟩) A2 cv = .agg #[.int .i64 T, .int .i64 S, .int .i64 st, .slice A2 mA.length cv] := by simp [grV, turnG]
        rw [hgv] at KF2 KL2 KC2
        clear hgv T1 T2 T3 HT HAll HBd HC HNo O2 HSz
        obtain ⟨R1, E1⟩ := R1
        obtain ⟨R3, E3⟩ := R3
        dsimp only at *
        obtain rfl : E1 = E3 := T4.out
        have q0 := BG2.out.cell 0
        have q1 := BG2.out.cell 1
        have q2 := BG2.out.cell 2
        have q3 := BG2.out.cell 3
        simp at q0 q1 q2 q3
        obtain ⟨wx, rfl⟩ : ∃ wx : World, wx = wr := ⟨_, rfl⟩
        go_wp2_with fail
        refine (KF.out _ BX.out).mono ?_
        rintro e w5 ⟨v5, rfl, o5, hb⟩
        have Y5 := Keep.mk hb
        have O5 := Keep.mk o5
        have BG5 := Keep.mk (BG2.out.below hb BG2.out.lt)
        have BM5 := Keep.mk (BM2.out.below hb BM2.out.lt)
        clear q0 q1 q2 q3 hb o5 KF
        have r0 := BM5.out.cell 0
        have r1 := BM5.out.cell 1
        have r2 := BM5.out.cell 2
        have r3 := BM5.out.cell 3
        simp at r0 r1 r2 r3
        dsimp only
        go_wp2_with fail
        refine (KF2.out _ Y5.out).mono ?_
        rintro e w6 ⟨v6, rfl, o6, hb⟩
        have Y6 : Keep (Below wx.heap.size wx w6) := ⟨below_step Y5.out hb Y5.out.size⟩
        have O6 := Keep.mk o6
        have O5 := Keep.mk (O5.out.below hb)
        have BG6 := Keep.mk (BG5.out.below hb BG5.out.lt)
        have BM6 := Keep.mk (BM5.out.below hb BM5.out.lt)
        have B6 : Keep (Below w.heap.size w w6) := ⟨below_step BX.out Y6.out BX.out.size⟩
        clear r0 r1 r2 r3 hb o6 KF2
        have q0 := BG6.out.cell 0
        have q1 := BG6.out.cell 1
        have q2 := BG6.out.cell 2
        have q3 := BG6.out.cell 3
        simp at q0 q1 q2 q3
        dsimp only
        go_wp2_with fail
        refine (KL.out _ B6.out).mono ?_
        rintro e w7 ⟨v7, rfl, o7, hb⟩
        have Y7 : Keep (Below wx.heap.size wx w7) := ⟨below_step Y6.out hb Y6.out.size⟩
        have O7 := Keep.mk o7
        have O6 := Keep.mk (O6.out.below hb)
        have O5 := Keep.mk (O5.out.below hb)
        have BM7 := Keep.mk (BM6.out.below hb BM6.out.lt)
        have BG7 := Keep.mk (BG6.out.below hb BG6.out.lt)
        clear q0 q1 q2 q3 hb o7 KL
        have r0 := BM7.out.cell 0
        have r1 := BM7.out.cell 1
        have r2 := BM7.out.cell 2
        have r3 := BM7.out.cell 3
        simp at r0 r1 r2 r3
        dsimp only
        go_wp2_with fail
        refine (KL2.out _ Y7.out).mono ?_
        rintro e w8 ⟨v8, rfl, o8, hb⟩
        have Y8 : Keep (Below wx.heap.size wx w8) := ⟨below_step Y7.out hb Y7.out.size⟩
        have B8 : Keep (Below w.heap.size w w8) := ⟨below_step BX.out Y8.out BX.out.size⟩
        have BM8 := Keep.mk (BM7.out.below hb BM7.out.lt)
        have BG8 := Keep.mk (BG7.out.below hb BG7.out.lt)
        have O8 := Keep.mk o8
        have O5 := Keep.mk (O5.out.below hb)
        have O6 := Keep.mk (O6.out.below hb)
        have O7 := Keep.mk (O7.out.below hb)
        clear r0 r1 r2 r3 hb o8 KL2
        dsimp only
        have q0 := BG8.out.cell 0
        have q1 := BG8.out.cell 1
        have q2 := BG8.out.cell 2
        have q3 := BG8.out.cell 3
        have r0 := BM8.out.cell 0
        have r1 := BM8.out.cell 1
        have r2 := BM8.out.cell 2
        have r3 := BM8.out.cell 3
        simp at q0 q1 q2 q3 r0 r1 r2 r3
        have n8 : gM < w8.heap.size := BM8.out.lt
        have n9 : w.heap.size < w8.heap.size := BG8.out.lt
        obtain ⟨A5, c5, e5, _, _, rd5, _, _⟩ := O5.out.open_
        obtain ⟨A6, c6, e6, _, _, rd6, _, _⟩ := O6.out.open_
        obtain ⟨A7, c7, e7, _, _, rd7, _, _⟩ := O7.out.open_
        obtain ⟨A8, c8, e8, _, _, rd8, _, _⟩ := O8.out.open_
        have KS1 := Keep.mk fun W (hW : Below w8.heap.size w8 W) => sameInts A5 A6 R1.length R1.length c5 c6 R1 R1 W rfl rfl (by have := L1.out; omega) ((rd5.below hW).mono hW.size) ((rd6.below hW).mono hW.size)
        have KS2 := Keep.mk fun W (hW : Below w8.heap.size w8 W) => sameInts A7 A8 R3.length R3.length c7 c8 R3 R3 W rfl rfl (by have := L3.out; omega) ((rd7.below hW).mono hW.size) ((rd8.below hW).mono hW.size)
        have KCa := Keep.mk fun W (hW : Below w8.heap.size w8 W) => KC.out W (below_step B8.out hW B8.out.size)
        have KCb := Keep.mk fun W (hW : Below w8.heap.size w8 W) => KC2.out W (below_step Y8.out hW Y8.out.size)
        simp only [decide_true] at KS1 KS2
        subst e5 e6 e7 e8
        clear rd5 rd6 rd7 rd8 KC KC2 O5 O6 O7 O8 BM8 BG8 BM7 BG7 BM6 BG6 BM5 BG5 Y5 Y6 Y7 L1 L3
        go_upto_region 15 with fail
        go_region_held3 (fun w' => w'.cell? ⟨w.heap.size, 0, none⟩ = some (.int .i64 T) ∧ w'.cell? ⟨w.heap.size, 1, none⟩ = some (.int .i64 S) ∧ w'.cell? ⟨w.heap.size, 2, none⟩ = some (.int .i64 st) ∧ w'.cell? ⟨w.heap.size, 3, none⟩ = some (.slice A mA.length c) ∧ w'.cell? ⟨gM, 0, none⟩ = some (.int .i64 T) ∧ w'.cell? ⟨gM, 1, none⟩ = some (.int .i64 S) ∧ w'.cell? ⟨gM, 2, none⟩ = some (.int .i64 st) ∧ w'.cell? ⟨gM, 3, none⟩ = some (.slice A2 mA.length cv)) (first | exact ⟨q0, q1, q2, q3, r0, r1, r2, r3⟩ | exact ⟨s0, s1, s2, s3, s4, s5, s6, s7⟩ | exact ⟨t0, t1, t2, t3, t4, t5, t6, t7⟩ | exact ⟨u0, u1, u2, u3, u4, u5, u6, u7⟩) (first
          | (go_at_call 13; refine (KCb.out _ Z9.out).mono ?_; rintro e w10 ⟨rfl, hb⟩; have Z10 : Keep (Below w8.heap.size w8 w10) := ⟨below_step Z9.out hb Z9.out.size⟩; have t0 := cell_below q0 Z10.out n9; have t1 := cell_below q1 Z10.out n9; have t2 := cell_below q2 Z10.out n9; have t3 := cell_below q3 Z10.out n9; have t4 := cell_below r0 Z10.out n8; have t5 := cell_below r1 Z10.out n8; have t6 := cell_below r2 Z10.out n8; have t7 := cell_below r3 Z10.out n8; clear hb)
          | (go_at_call 13; refine (KCa.out _ (below_drew1 (Below.refl _ _))).mono ?_; rintro e w9 ⟨rfl, hb⟩; have Z9 : Keep (Below w8.heap.size w8 w9) := ⟨below_step (below_drew1 (Below.refl _ _)) hb (Nat.le_refl _)⟩; have s0 := cell_below q0 Z9.out n9; have s1 := cell_below q1 Z9.out n9; have s2 := cell_below q2 Z9.out n9; have s3 := cell_below q3 Z9.out n9; have s4 := cell_below r0 Z9.out n8; have s5 := cell_below r1 Z9.out n8; have s6 := cell_below r2 Z9.out n8; have s7 := cell_below r3 Z9.out n8; clear hb)
          | (go_at_call 20; refine (KS2.out _ (below_drewN Z10.out m11)).mono ?_; rintro e w12 ⟨rfl, m12, rfl⟩)
          | (go_at_call 20; refine (KS1.out _ Z10.out).mono ?_; rintro e w11 ⟨rfl, m11, rfl⟩)
          | (go_at_call 14; refine (alive_any _).mono ?_; rintro e w13 ⟨rfl, hb⟩; have Z13 : Keep (Below w8.heap.size w8 w13) := ⟨below_step (below_drewN Z10.out _) hb Z10.out.size⟩; have u0 := cell_below q0 Z13.out n9; have u1 := cell_below q1 Z13.out n9; have u2 := cell_below q2 Z13.out n9; have u3 := cell_below q3 Z13.out n9; have u4 := cell_below r0 Z13.out n8; have u5 := cell_below r1 Z13.out n8; have u6 := cell_below r2 Z13.out n8; have u7 := cell_below r3 Z13.out n8; clear hb))
        all_goals (
          go_wp2
          go_ret
          exact ⟨rfl, below_step B8.out Z13.out B8.out.size⟩)
end Go.Proofs.Ytofidghilcbegaa
