/-
  The statements' own helpers: big, SameInts, within, known.
-/
import Derived.Test.YtofidghilcbegaaFlB
namespace Go.Proofs.Ytofidghilcbegaa.H
open Go.RowKit
set_option linter.unusedVariables false
set_option linter.unusedSimpArgs false

def sizeOfGr (ps : List Pr) : Nat := ps.length + (ps.map (·.body.length)).sum
def bigB (g : Gr) : Bool := decide (100000 < sizeOfGr g.ps)

set_option maxRecDepth 100000 in
set_option maxHeartbeats 2000000 in
theorem grammarBig_any (g : Gr) (A : Option Addr) (c : Nat) (w : World) (h : GrIn w g A c) :
    Calls Try.prog 27 #[grV g A c, .int .i64 100000] w fun e w' => e = .returned (.bool (bigB g)) ∧ Below w.heap.size w w' := by
  have H0 := Keep.mk h
  have HL : g.ps.length ≤ 9223372036854775807 := by have := h.l; have := h.l2; omega
  have HR : Keep (bigB g = decide (100000 < g.ps.length + (g.ps.map (·.body.length)).sum)) := ⟨rfl⟩
  generalize bigB g = R at *
  clear h
  obtain ⟨T, S, st, ps⟩ := g
  unfold grV at *
  dsimp only at *
  have BG : Keep (Blk (w.alloc (.cells #[.int .i64 T, .int .i64 S, .int .i64 st, .slice A ps.length c] 24)) w.heap.size 24 #[.int .i64 T, .int .i64 S, .int .i64 st, .slice A ps.length c]) := ⟨Blk.new _ _ _⟩
  go_enter Try.func27, Try.ntmps27
  go_upto_region 2 with fail
  go_cut [5, 6] (fun s5 s6 wx => ∃ q : Nat, s5 = .int .i64 q ∧ s6 = .int .i64 0 ∧ q ≤ 200001 ∧ Keep ((q ≤ 100000 → q = ps.length) ∧ (100000 < q → 100000 < ps.length)) ∧ Keep (Below w.heap.size w wx) ∧ Keep (Blk wx w.heap.size 24 #[.int .i64 T, .int .i64 S, .int .i64 st, .slice A ps.length c]))
  case first =>
    by_cases hb : ps.length ≤ 100001
    · have hb' : ((ps.length : Int) ≤ 100001) := by omega
      go_wp2_with fail
      go_meet
      exact ⟨ps.length, rfl, rfl, by omega, ⟨fun _ => rfl, fun h => h⟩, ⟨(Below.refl _ _).alloc (Nat.le_refl _) _⟩, BG⟩
    · have hb' : ¬ ((ps.length : Int) ≤ 100001) := by omega
      go_wp2_with fail
      go_meet
      exact ⟨100001, rfl, rfl, by omega, ⟨fun h => absurd h (by omega), fun _ => by omega⟩, ⟨(Below.refl _ _).alloc (Nat.le_refl _) _⟩, BG⟩
  case rest =>
    obtain ⟨q, rfl, rfl, hq, HQ, HB, BG1⟩ := hcut
    clear BG
    go_wp2
    go_loopg [5, 6] ps.length (fun gg s5 s6 wr => ∃ i q : Nat, i ≤ ps.length ∧ ps.length - i ≤ gg ∧ s5 = .int .i64 q ∧ s6 = .int .i64 i ∧ q ≤ 200001 ∧ Keep ((q ≤ 100000 → q = ps.length + ((ps.take i).map (·.body.length)).sum) ∧ (100000 < q → 100000 < ps.length + (ps.map (·.body.length)).sum)) ∧
      Keep (Below w.heap.size w wr) ∧ Keep (Blk wr w.heap.size 24 #[.int .i64 T, .int .i64 S, .int .i64 st, .slice A ps.length c]))
    case atStart => exact ⟨0, q, by omega, by omega, rfl, rfl, hq, ⟨fun h => by rw [HQ.out.1 h]; simp, fun h => by have := HQ.out.2 h; omega⟩, HB, BG1⟩
    case round =>
      clear HQ HB BG1 hq
      obtain ⟨i, q, hi, hg, rfl, rfl, hq, HQ, HB, BG⟩ := hrel
      have q3 := BG.out.cell 3
      simp at q3
      by_cases hlt : i < ps.length
      · by_cases hk : q ≤ 100000
        · obtain ⟨ad, Ab, cb, rfl, hb, c0, c1, c2, hlb, hrb⟩ := H0.out.r i hlt
          have hbl := H0.out.b _ (List.getElem_mem hlt)
          dsimp only at c0 c1 c2 hlb hrb hbl
          replace c1 := cell_below c1 HB.out (by show (ad.add _).block < _; rw [add_block]; exact hb)
          clear c0 c2 hrb
          have HT : Keep (((ps.take (i + 1)).map (·.body.length)).sum = ((ps.take i).map (·.body.length)).sum + ps[i].body.length) := ⟨by rw [List.take_succ_eq_append_getElem hlt, List.map_append, List.sum_append]; simp⟩
          have HT2 : Keep (((ps.take (i + 1)).map (·.body.length)).sum ≤ (ps.map (·.body.length)).sum) := ⟨by
            conv => rhs; rw [← List.take_append_drop (i + 1) ps, List.map_append, List.sum_append]
            omega⟩
          have i1 : (0 : Int) ≤ i := by omega
          have i2 : (i : Int) < ps.length := by omega
          generalize ps[i] = p at *
          by_cases hp : p.body.length ≤ 100001
          · have hp' : ((p.body.length : Int) ≤ 100001) := by omega
            go_wp2
            go_roundg (ps.length - (i + 1))
            case measure => omega
            case rel =>
              refine ⟨i + 1, q + p.body.length, by omega, by omega, by go_num, by go_num, by omega, ⟨fun h => ?_, fun h => ?_⟩, HB, BG⟩
              · have := HQ.out.1 hk; have := HT.out; omega
              · have := HQ.out.1 hk; have := HT.out; have := HT2.out; omega
          · have hp' : ¬ ((p.body.length : Int) ≤ 100001) := by omega
            go_wp2
            go_roundg (ps.length - (i + 1))
            case measure => omega
            case rel =>
              refine ⟨i + 1, q + 100001, by omega, by omega, by go_num, by go_num, by omega, ⟨fun h => ?_, fun h => ?_⟩, HB, BG⟩
              · omega
              · have := HQ.out.1 hk; have := HT.out; have := HT2.out; omega
        · go_wp2
          go_ret
          refine ⟨?_, HB.out⟩
          have := HQ.out.2 (by omega)
          rw [HR.out]
          simp; omega
      · have ei : i = ps.length := by omega
        subst ei
        go_wp2
        all_goals
          go_ret
          refine ⟨?_, HB.out⟩
          have h1 := HQ.out.1
          have h2 := HQ.out.2
          rw [List.take_length] at h1
          rw [HR.out]
          simp; omega

theorem big_any (g : Gr) (A : Option Addr) (c : Nat) (w : World) (h : GrIn w g A c) :
    Calls Try.prog 12 #[grV g A c] w fun e w' => e = .returned (.bool (bigB g)) ∧ Below w.heap.size w w' := by
  have hB : Below w.heap.size w (w.alloc (.cells #[.int .i64 g.T, .int .i64 g.S, .int .i64 g.st, .slice A g.ps.length c] 24)) := (Below.refl _ _).alloc (Nat.le_refl _) _
  have K := Keep.mk (grammarBig_any g A c _ (h.below hB))
  have HB := Keep.mk hB
  clear h hB
  generalize bigB g = R at *
  obtain ⟨T, S, st, ps⟩ := g
  unfold grV at *
  dsimp only at *
  go_enter Try.func12, Try.ntmps12
  go_wp2_with fail
  refine K.out.mono ?_
  rintro e w1 ⟨rfl, hb⟩
  go_wp2
  go_ret
  exact ⟨rfl, below_step HB.out hb HB.out.size⟩
end Go.Proofs.Ytofidghilcbegaa.H
