/-
  SameInts, within, known.
-/
import Derived.Test.YtofidghilcbegaaLaA
namespace Go.Proofs.Ytofidghilcbegaa.H
open Go.RowKit
set_option linter.unusedVariables false
set_option linter.unusedSimpArgs false

theorem sameInts (A1 A2 : Option Addr) (n1 n2 c1 c2 : Nat) (xs ys : List Int) (w : World)
    (hn1 : n1 = xs.length) (hn2 : n2 = ys.length) (hl1 : xs.length ≤ 9223372036854775807)
    (h1 : Rd eI 1 w w.heap.size A1 xs) (h2 : Rd eI 1 w w.heap.size A2 ys) :
    Calls Try.prog 20 #[.slice A1 n1 c1, .slice A2 n2 c2] w fun e w' => e = .returned (.bool (decide (xs = ys))) ∧ ∃ n, w' = w.drewN n := by
  subst hn1 hn2
  by_cases hne : xs.length = ys.length
  · have hne' : ((xs.length : Int) != (ys.length : Int)) = false := by simp [hne]
    have Hne := Lib.hid hne
    clear hne
    go_enter Try.func20, Try.ntmps20
    go_wp2
    go_loopg [5] xs.length (fun gg s13 wr => ∃ k : Nat, k ≤ xs.length ∧ xs.length - k ≤ gg ∧ s13 = .int .i64 k ∧ (∃ n, wr = w.drewN n) ∧ Keep (∀ j, j < k → xs[j]? = ys[j]?))
    case atStart => exact ⟨0, Nat.zero_le _, by omega, rfl, ⟨0, rfl⟩, ⟨fun j hj => absurd hj (Nat.not_lt_zero _)⟩⟩
    case round =>
      obtain ⟨k, hk, hg, rfl, ⟨n, rfl⟩, HA⟩ := hrel
      by_cases hlt : k < xs.length
      · have hlt2 : k < ys.length := by have := Hne.out; omega
        obtain ⟨a1, rfl, hb1, hc1⟩ := h1.int k hlt
        obtain ⟨a2, rfl, hb2, hc2⟩ := h2.int k hlt2
        clear h1 h2
        generalize hx : xs[k] = x at *
        generalize hy : ys[k] = y at *
        have Hx := Lib.hid hx
        have Hy := Lib.hid hy
        clear hx hy
        have i1 : (0:Int) ≤ k := by omega
        have i2 : (k : Int) < xs.length := by omega
        have i3 : (k : Int) < ys.length := by omega
        by_cases hxy : x = y
        · have t : ((x : Int) != y) = false := by simp [hxy]
          have Hxy := Lib.hid hxy
          clear hxy
          go_wp2
          go_quiet (fail)
          go_wp2
          go_roundg (xs.length - (k + 1))
          case measure => omega
          case rel =>
            refine ⟨k + 1, by omega, by omega, by go_num, ⟨_, rfl⟩, ⟨fun j hj => ?_⟩⟩
            by_cases e : j = k
            · subst e
              rw [List.getElem?_eq_getElem hlt, List.getElem?_eq_getElem hlt2, Hx.out, Hy.out, Hxy.out]
            · exact HA.out j (by omega)
        · have t : ((x : Int) != y) = true := by simp [hxy]
          have Hxy := Lib.hid hxy
          clear hxy
          go_wp2
          go_quiet (fail)
          go_wp2
          go_ret
          refine ⟨?_, ⟨_, World.drewN_drewN ..⟩⟩
          have : ¬ xs = ys := by
            rintro rfl
            exact Hxy.out (by rw [← Hx.out, ← Hy.out])
          simp [this]
      · go_wp2
        go_ret
        refine ⟨?_, ⟨_, rfl⟩⟩
        have : xs = ys := List.ext_getElem? (fun j => by
          by_cases hj : j < k
          · exact HA.out j hj
          · rw [List.getElem?_eq_none (by omega), List.getElem?_eq_none (by have := Hne.out; omega)])
        simp [this]
  · have hne' : ((xs.length : Int) != (ys.length : Int)) = true := by simp; omega
    have hxy : decide (xs = ys) = false := by simp; intro h; exact hne (by rw [h])
    clear hne
    go_enter Try.func20, Try.ntmps20
    go_wp2
    go_ret
    exact ⟨by rw [hxy]; rfl, 0, rfl⟩


def withinB (xs ys : List Int) : Bool := xs.all fun x => ys.any fun y => x == y
set_option maxRecDepth 100000 in
set_option maxHeartbeats 2000000 in
theorem within_any (A1 A2 : Option Addr) (c1 c2 : Nat) (xs ys : List Int) (w : World) (hl1 : xs.length ≤ 9223372036854775807) (hl2 : ys.length ≤ 9223372036854775807)
    (h1 : Rd eI 1 w w.heap.size A1 xs) (h2 : Rd eI 1 w w.heap.size A2 ys) :
    Calls Try.prog 24 #[.slice A1 xs.length c1, .slice A2 ys.length c2] w fun e w' => e = .returned (.bool (withinB xs ys)) ∧ ∃ n, w' = w.drewN n := by
  have R1 := Keep.mk h1
  have R2 := Keep.mk h2
  clear h1 h2
  go_enter Try.func24, Try.ntmps24
  go_wp2
  go_loopg [5] xs.length (fun gg s5 wr => ∃ k : Nat, k ≤ xs.length ∧ xs.length - k ≤ gg ∧ s5 = .int .i64 k ∧ (∃ n, wr = w.drewN n) ∧ Keep (∀ x ∈ xs.take k, (ys.any fun y => x == y) = true))
  case atStart => exact ⟨0, Nat.zero_le _, by omega, rfl, ⟨0, rfl⟩, ⟨by simp⟩⟩
  case round =>
    obtain ⟨k, hk, hg, rfl, ⟨n, rfl⟩, HA⟩ := hrel
    by_cases hlt : k < xs.length
    · obtain ⟨a1, rfl, hb1, hc1⟩ := R1.out.int k hlt
      have HT : Keep (xs.take (k + 1) = xs.take k ++ [xs[k]]) := ⟨List.take_succ_eq_append_getElem hlt⟩
      generalize xs[k] = x at *
      have i1 : (0:Int) ≤ k := by omega
      have i2 : (k : Int) < xs.length := by omega
      go_wp2
      go_loopg [6, 7] ys.length (fun gg s6 s7 wr => ∃ j : Nat, j ≤ ys.length ∧ ys.length - j ≤ gg ∧ s6 = .bool ((ys.take j).any fun y => x == y) ∧ s7 = .int .i64 j ∧ (∃ n, wr = w.drewN n))
      case atStart => exact ⟨0, Nat.zero_le _, by omega, rfl, rfl, ⟨n, rfl⟩⟩
      case round =>
        obtain ⟨j, hj, hgj, rfl, rfl, ⟨n2, rfl⟩⟩ := hrel
        by_cases hltj : j < ys.length
        · obtain ⟨a2, rfl, hb2, hc2⟩ := R2.out.int j hltj
          have HT2 : Keep (((ys.take (j + 1)).any fun y => x == y) = (((ys.take j).any fun y => x == y) || (x == ys[j]))) := ⟨by rw [List.take_succ_eq_append_getElem hltj, List.any_append]; simp⟩
          generalize ((ys.take j).any fun y => x == y) = b at *
          generalize ys[j] = y at *
          have j1 : (0:Int) ≤ j := by omega
          have j2 : (j : Int) < ys.length := by omega
          cases b with
          | true =>
            go_wp2
            go_quiet (fail)
            go_wp2
            go_roundg (ys.length - (j + 1))
            case measure => omega
            case rel => exact ⟨j + 1, by omega, by omega, by rw [HT2.out]; rfl, by go_num, ⟨_, rfl⟩⟩
          | false =>
            generalize hq : (x == y) = q at HT2
            go_wp2
            go_quiet (fail)
            go_wp2
            go_roundg (ys.length - (j + 1))
            case measure => omega
            case rel => exact ⟨j + 1, by omega, by omega, by rw [HT2.out]; simp [hq], by go_num, ⟨_, rfl⟩⟩
        · have ej : j = ys.length := by omega
          subst ej
          rw [List.take_length]
          generalize hq : (ys.any fun y => x == y) = q
          have HQ := Keep.mk hq
          clear hq
          cases q with
          | true =>
            go_wp2
            go_roundg (xs.length - (k + 1))
            case measure => omega
            case rel =>
              refine ⟨k + 1, by omega, by omega, by go_num, ⟨_, rfl⟩, ⟨fun z hz => ?_⟩⟩
              rw [HT.out] at hz
              rcases List.mem_append.1 hz with h | h
              · exact HA.out z h
              · rw [List.mem_singleton.1 h]; exact HQ.out
          | false =>
            go_wp2
            go_ret
            refine ⟨?_, ⟨_, rfl⟩⟩
            have : withinB xs ys = false := by
              unfold withinB
              rw [List.all_eq_false]
              refine ⟨x, ?_, by rw [HQ.out]; simp⟩
              have : x ∈ xs.take (k + 1) := by rw [HT.out]; simp
              exact List.mem_of_mem_take this
            rw [this]; rfl
    · have ek : k = xs.length := by omega
      subst ek
      go_wp2
      go_ret
      refine ⟨?_, ⟨_, rfl⟩⟩
      have : withinB xs ys = true := by
        unfold withinB
        rw [List.all_eq_true]
        intro x hx
        exact HA.out x (by rw [List.take_length]; exact hx)
      rw [this]; rfl

theorem rd_ints {w : World} {g : Nat} {t : TypeId} {xs : List Int} {B : Nat} (h : Blk w g t (ints .i64 xs)) (hB : g < B) : Rd eI 1 w B (some ⟨g, 0, none⟩) xs := by
  intro i hi
  refine ⟨_, rfl, hB, fun j u hu => ?_⟩
  have hj : j = 0 := by
    rcases j with _ | j
    · rfl
    · simp [eI] at hu
  subst hj
  have : ((Addr.mk g 0 none).add (i * 1)).add 0 = ⟨g, i, none⟩ := by by_cases h0 : i = 0 <;> simp [Addr.add, h0]
  rw [this, h.cell i, ints_at .i64 xs i hi]
  simpa [eI] using hu
/-- One production out of a block of them. -/
theorem rdP_at {w : World} {g : Nat} {t : TypeId} {cs : Array Value} (h : Blk w g t cs) (i : Nat) (p : Pr) (Ab : Option Addr) (cb : Nat) (h0 : cs[i * 3]? = some (.int .i64 p.head)) (h1 : cs[i * 3 + 1]? = some (.slice Ab p.body.length cb)) (h2 : cs[i * 3 + 2]? = some (.bool p.right)) :
    w.cell? ((Addr.mk g 0 none).add (i * 3)) = some (.int .i64 p.head) ∧ w.cell? ⟨((Addr.mk g 0 none).add (i * 3)).block, ((Addr.mk g 0 none).add (i * 3)).off + 1, none⟩ = some (.slice Ab p.body.length cb) ∧
    w.cell? ⟨((Addr.mk g 0 none).add (i * 3)).block, ((Addr.mk g 0 none).add (i * 3)).off + 2, none⟩ = some (.bool p.right) := by
  have e : (Addr.mk g 0 none).add (i * 3) = ⟨g, i * 3, none⟩ := by
    by_cases h0 : i = 0
    · subst h0; rfl
    · have h3 : i * 3 ≠ 0 := by omega
      simp [Addr.add, h3]
  rw [e]
  exact ⟨(h.cell _).trans h0, (h.cell _).trans h1, (h.cell _).trans h2⟩

def knownG : Gr := ⟨4, 6, 4, [⟨4, [4, 0, 5], false⟩, ⟨4, [5], false⟩, ⟨5, [1], false⟩, ⟨5, [2, 4, 3], false⟩]⟩
set_option maxRecDepth 100000 in
set_option maxHeartbeats 2000000 in
theorem known_any (w : World) :
    Calls Try.prog 34 #[] w fun e w' => ∃ A, e = .returned (grV knownG A 4) ∧ GrIn w' knownG A 4 ∧ Below w.heap.size w w' := by
  go_enter Try.func34, Try.ntmps34
  go_wp2
  generalize hw : World.alloc _ _ = wz
  have z := hw
  have b0 : Blk wz w.heap.size 24 #[.int .i64 4, .int .i64 6, .int .i64 4, .slice (some ⟨w.heap.size + 1 + 1 + 1 + 1 + 1, 0, none⟩) 4 4] := by
    rw [← hw]; exact (((((Blk.new _ _ _).alloc _).alloc _).alloc _).alloc _).alloc _
  have b1 : Blk wz (w.heap.size + 1) 3 (ints .i64 [4, 0, 5]) := by rw [← hw]; exact ((((Blk.newAt (by simp)).alloc _).alloc _).alloc _).alloc _
  have b2 : Blk wz (w.heap.size + 1 + 1) 3 (ints .i64 [5]) := by rw [← hw]; exact (((Blk.newAt (by simp)).alloc _).alloc _).alloc _
  have b3 : Blk wz (w.heap.size + 1 + 1 + 1) 3 (ints .i64 [1]) := by rw [← hw]; exact ((Blk.newAt (by simp)).alloc _).alloc _
  have b4 : Blk wz (w.heap.size + 1 + 1 + 1 + 1) 3 (ints .i64 [2, 4, 3]) := by rw [← hw]; exact (Blk.newAt (by simp)).alloc _
  have b5 : Blk wz (w.heap.size + 1 + 1 + 1 + 1 + 1) 38 #[.int .i64 4, .slice (some ⟨w.heap.size + 1, 0, none⟩) 3 3, .bool false, .int .i64 4, .slice (some ⟨w.heap.size + 1 + 1, 0, none⟩) 1 1, .bool false,
      .int .i64 5, .slice (some ⟨w.heap.size + 1 + 1 + 1, 0, none⟩) 1 1, .bool false, .int .i64 5, .slice (some ⟨w.heap.size + 1 + 1 + 1 + 1, 0, none⟩) 3 3, .bool false] := by rw [← hw]; exact Blk.newAt (by simp)
  have bw : Below w.heap.size w wz := by
    rw [← hw]
    exact ((((((Below.refl _ _).alloc (by simp) _).alloc (by simp) _).alloc (by simp; omega) _).alloc (by simp; omega) _).alloc (by simp; omega) _).alloc (by simp; omega) _
  clear hw z
  refine bodyPost_ret (v := grV knownG (some ⟨w.heap.size + 1 + 1 + 1 + 1 + 1, 0, none⟩) 4) ?_ rfl ⟨some ⟨w.heap.size + 1 + 1 + 1 + 1 + 1, 0, none⟩, rfl, ⟨by decide, by decide, ?_, ?_⟩, bw⟩
  · have c0 := b0.cell 0
    have c1 := b0.cell 1
    have c2 := b0.cell 2
    have c3 := b0.cell 3
    simp at c0 c1 c2 c3
    simp [results, Try.results34, go_sem, c0, c1, c2, c3, grV, knownG]
  · intro p hp
    have : p.body.length ≤ 3 := by
      simp only [knownG, List.mem_cons, List.not_mem_nil, or_false] at hp
      rcases hp with rfl | rfl | rfl | rfl <;> decide
    omega
  · intro i hi
    have hi4 : i < 4 := hi
    have h5 := b5.lt
    rcases i with _ | _ | _ | _ | i
    · obtain ⟨x0, x1, x2⟩ := rdP_at b5 0 ⟨4, [4, 0, 5], false⟩ _ 3 rfl rfl rfl
      exact ⟨_, _, _, rfl, h5, x0, x1, x2, Nat.le_refl _, rd_ints b1 b1.lt⟩
    · obtain ⟨x0, x1, x2⟩ := rdP_at b5 1 ⟨4, [5], false⟩ _ 1 rfl rfl rfl
      exact ⟨_, _, _, rfl, h5, x0, x1, x2, Nat.le_refl _, rd_ints b2 b2.lt⟩
    · obtain ⟨x0, x1, x2⟩ := rdP_at b5 2 ⟨5, [1], false⟩ _ 1 rfl rfl rfl
      exact ⟨_, _, _, rfl, h5, x0, x1, x2, Nat.le_refl _, rd_ints b3 b3.lt⟩
    · obtain ⟨x0, x1, x2⟩ := rdP_at b5 3 ⟨5, [2, 4, 3], false⟩ _ 3 rfl rfl rfl
      exact ⟨_, _, _, rfl, h5, x0, x1, x2, Nat.le_refl _, rd_ints b4 b4.lt⟩
    · omega
end Go.Proofs.Ytofidghilcbegaa.H
