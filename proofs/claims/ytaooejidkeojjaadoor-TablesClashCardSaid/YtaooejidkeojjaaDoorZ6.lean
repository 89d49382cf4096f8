import Derived.Test.YtaooejidkeojjaaDoorProg
import Derived.Below
import Derived.Deep.Draws
import Derived.Deep.AppendLies
import Derived.Maps.AppendAt
import Derived.OwnWalk
import Derived.Laws.BytesArg
import Derived.Laws.MakeOwn
import Derived.Laws.OwnMore
import Derived.Deep.OwnRows
import Derived.Tactics
import Derived.Lib.ConvBytes
import Derived.Laws.Slices
import Derived.WalkKit
import Derived.KernelRfl
import Derived.RowKit3
import Derived.Deep.LoopGhost
import Derived.Deep.QuietTactic
import Derived.BigQuiet
import Derived.WideLaws
import Derived.Deep.DeepCutAuto
import Derived.Deep.CutBlock
import Derived.Deep.RegionHeld3
import Derived.Laws.Rows
import Derived.Lib.AppendStr
import Derived.ArgAppend
import Derived.Laws.IdiomCopy
import Derived.OrdersHeld
import Derived.Laws.BitsLemmas
import Derived.RowKit
import Derived.Test.YtaooejidkeojjaaDoorZ4
import Derived.Test.YtaooejidkeojjaaDoorWWords
import Derived.Test.YtaooejidkeojjaaDoorZ5
import Derived.Test.YtaooejidkeojjaaDoorWRepsOne
import Derived.Test.YtaooejidkeojjaaDoorRows
import Derived.Test.YtaooejidkeojjaaDoorZ1
import Derived.LaidMore
import Derived.Stop.Joined
namespace Go.Proofs.YtaooejidkeojjaaDoor.PLi
open Go.RowKit Go.Proofs.YtaooejidkeojjaaDoorW.PrintWords Go.Proofs.YtaooejidkeojjaaDoorW.PrintLast Go.Proofs.YtaooejidkeojjaaDoorW.PrintMore
attribute [local go_sem] max2_int min2_int max_two min_two max_three min_three max_four min_four   -- for this text's walks alone
set_option linter.unusedVariables false
set_option linter.unusedSimpArgs false
theorem info41 : (Tryd.prog.info? 41).map (fun i => (i.zero, i.size, i.bytes)) = some (some (.agg #[(.int .i64 0), (.int .i64 0)]), 2, 16) := by kernel_rfl
structure S49 where
  f0 : Int
  f1 : (List Int)
  f2 : Bool
def z49 : S49 := ⟨(0 : Int), ([] : List Int), false⟩
def k49 : Kd S49 := Kd.iso (Kd.pair (Kd.int .i64) (Kd.pair (Kd.slice 3 (Kd.int .i64)) Kd.bool)) (fun x : S49 => (x.f0, x.f1, x.f2))
theorem k49_open {w : World} {x : S49} {cs : List Value} (h : k49.K w x cs) : ∃ A1 c1, cs = [.int .i64 x.f0, .slice A1 x.f1.length c1, .bool x.f2] ∧ x.f1.length ≤ c1 ∧ (Kd.int .i64).C w A1 x.f1.length x.f1 := by
  obtain ⟨_, _, rfl, rfl, ⟨_, _, rfl, ⟨A1, c1, rfl, l1, g1⟩, rfl⟩⟩ := h
  exact ⟨A1, c1, rfl, l1, g1⟩
theorem k49_mkM (w : World) (base : Nat) (ok : Nat → Prop) (x : S49) {v1 : Value} (g1 : (Kd.int .i64).R 3 w base ok v1 x.f1) : k49.M w base ok x [.int .i64 x.f0, v1, .bool x.f2] := ⟨[.int .i64 x.f0], [v1, .bool x.f2], rfl, rfl, ⟨[v1], [.bool x.f2], rfl, ⟨v1, rfl, g1⟩, rfl⟩⟩
def rd_T49 (xs : List S49) (i : Int) : S49 := xs.getD i.toNat z49
theorem at_T49 {w : World} {A : Option Addr} {n : Nat} {xs : List S49} (h : Kd.C k49 w A n xs) (i : Int) (h0 : 0 ≤ i) (h1 : i < n) : ∃ ad A1 c1, A = some ad ∧ w.cell? (ad.add (i.toNat * 3)) = some (.int .i64 (rd_T49 xs i).f0) ∧ w.cell? ⟨(ad.add (i.toNat * 3)).block, (ad.add (i.toNat * 3)).off + 1, none⟩ = some (.slice A1 (rd_T49 xs i).f1.length c1) ∧ w.cell? ⟨(ad.add (i.toNat * 3)).block, (ad.add (i.toNat * 3)).off + 2, none⟩ = some (.bool (rd_T49 xs i).f2) ∧ (rd_T49 xs i).f1.length ≤ c1 ∧ (Kd.int .i64).C w A1 (rd_T49 xs i).f1.length (rd_T49 xs i).f1 := by
  obtain ⟨ad, c, e, _, hK, hc0⟩ := Kd.C_get h z49 i h0 h1
  have hc : ∀ j u, c[j]? = some u → w.cell? (ad.add (i.toNat * 3 + j)) = some u := hc0
  obtain ⟨A1, c1, rfl, l1, g1⟩ := k49_open hK
  exact ⟨ad, A1, c1, e, hc 0 _ rfl, by rw [← add_field _ _ 1 (by omega)]; exact hc 1 _ rfl, by rw [← add_field _ _ 2 (by omega)]; exact hc 2 _ rfl, l1, g1⟩
structure S46 where
  f0 : Int
  f1 : (List Int)
  f2 : Bool
def z46 : S46 := ⟨(0 : Int), ([] : List Int), false⟩
def k46 : Kd S46 := Kd.iso (Kd.pair (Kd.int .i64) (Kd.pair (Kd.slice 3 (Kd.int .i64)) Kd.bool)) (fun x : S46 => (x.f0, x.f1, x.f2))
theorem k46_open {w : World} {x : S46} {cs : List Value} (h : k46.K w x cs) : ∃ A1 c1, cs = [.int .i64 x.f0, .slice A1 x.f1.length c1, .bool x.f2] ∧ x.f1.length ≤ c1 ∧ (Kd.int .i64).C w A1 x.f1.length x.f1 := by
  obtain ⟨_, _, rfl, rfl, ⟨_, _, rfl, ⟨A1, c1, rfl, l1, g1⟩, rfl⟩⟩ := h
  exact ⟨A1, c1, rfl, l1, g1⟩
theorem k46_openM {w : World} {base : Nat} {ok : Nat → Prop} {x : S46} {cs : List Value} (h : k46.M w base ok x cs) : ∃ v1, cs = [.int .i64 x.f0, v1, .bool x.f2] ∧ (Kd.int .i64).R 3 w base ok v1 x.f1 := by
  obtain ⟨_, _, rfl, rfl, ⟨_, _, rfl, ⟨v1, rfl, g1⟩, rfl⟩⟩ := h
  exact ⟨v1, rfl, g1⟩
def rd_T46 (xs : List S46) (i : Int) : S46 := xs.getD i.toNat z46
theorem at_T46 {w : World} {A : Option Addr} {n : Nat} {xs : List S46} (h : Kd.C k46 w A n xs) (i : Int) (h0 : 0 ≤ i) (h1 : i < n) : ∃ ad A1 c1, A = some ad ∧ w.cell? (ad.add (i.toNat * 3)) = some (.int .i64 (rd_T46 xs i).f0) ∧ w.cell? ⟨(ad.add (i.toNat * 3)).block, (ad.add (i.toNat * 3)).off + 1, none⟩ = some (.slice A1 (rd_T46 xs i).f1.length c1) ∧ w.cell? ⟨(ad.add (i.toNat * 3)).block, (ad.add (i.toNat * 3)).off + 2, none⟩ = some (.bool (rd_T46 xs i).f2) ∧ (rd_T46 xs i).f1.length ≤ c1 ∧ (Kd.int .i64).C w A1 (rd_T46 xs i).f1.length (rd_T46 xs i).f1 := by
  obtain ⟨ad, c, e, _, hK, hc0⟩ := Kd.C_get h z46 i h0 h1
  have hc : ∀ j u, c[j]? = some u → w.cell? (ad.add (i.toNat * 3 + j)) = some u := hc0
  obtain ⟨A1, c1, rfl, l1, g1⟩ := k46_open hK
  exact ⟨ad, A1, c1, e, hc 0 _ rfl, by rw [← add_field _ _ 1 (by omega)]; exact hc 1 _ rfl, by rw [← add_field _ _ 2 (by omega)]; exact hc 2 _ rfl, l1, g1⟩
def rd_L7 (xs : List (List S46)) (i : Int) : (List S46) := xs.getD i.toNat ([] : List S46)
theorem at_L7 {w : World} {A : Option Addr} {n : Nat} {xs : List (List S46)} (h : Kd.C (Kd.slice 46 k46) w A n xs) (i : Int) (h0 : 0 ≤ i) (h1 : i < n) : ∃ ad A0 c0, A = some ad ∧ w.cell? (ad.add i.toNat) = some (.slice A0 (rd_L7 xs i).length c0) ∧ (rd_L7 xs i).length ≤ c0 ∧ k46.C w A0 (rd_L7 xs i).length (rd_L7 xs i) := by
  obtain ⟨ad, c, e, _, hK, hc0⟩ := Kd.C_get h ([] : List S46) i h0 h1
  have hc : ∀ j u, c[j]? = some u → w.cell? (ad.add (i.toNat * 1 + j)) = some u := hc0
  obtain ⟨A0, c0, rfl, l0, g0⟩ := hK
  exact ⟨ad, A0, c0, e, by have hq := hc 0 _ rfl; rwa [Nat.mul_one, Nat.add_zero] at hq, l0, g0⟩
structure S41 where
  f0 : Int
  f1 : Int
def z41 : S41 := ⟨(0 : Int), (0 : Int)⟩
def k41 : Kd S41 := Kd.iso (Kd.pair (Kd.int .i64) (Kd.int .i64)) (fun x : S41 => (x.f0, x.f1))
theorem k41_openM {w : World} {base : Nat} {ok : Nat → Prop} {x : S41} {cs : List Value} (h : k41.M w base ok x cs) : cs = [.int .i64 x.f0, .int .i64 x.f1] := by
  obtain ⟨_, _, rfl, rfl, rfl⟩ := h
  exact rfl
theorem k41_mkM (w : World) (base : Nat) (ok : Nat → Prop) (x : S41)  : k41.M w base ok x [.int .i64 x.f0, .int .i64 x.f1] := ⟨[.int .i64 x.f0], [.int .i64 x.f1], rfl, rfl, rfl⟩
end Go.Proofs.YtaooejidkeojjaaDoor.PLi
namespace Go.Proofs.YtaooejidkeojjaaDoor.PLi
open Go.RowKit Go.Proofs.YtaooejidkeojjaaDoorW.PrintWords Go.Proofs.YtaooejidkeojjaaDoorW.PrintLast Go.Proofs.YtaooejidkeojjaaDoorW.PrintMore
attribute [local go_sem] max2_int min2_int max_two min_two max_three min_three max_four min_four   -- for this text's walks alone
set_option linter.unusedVariables false
set_option linter.unusedSimpArgs false
def toPr (x : S49) : H.Pr := ⟨x.f0, x.f1, x.f2⟩
def toGr (a b c : Int) (l : List S49) : H.Gr := ⟨a, b, c, l.map toPr⟩
theorem rdI_of {w : World} {A : Option Addr} {n : Nat} {xs : List Int} (h : (Kd.int .i64).C w A n xs) : H.Rd H.eI 1 w w.heap.size A xs := by
  intro i hi
  obtain ⟨h1, h2, h3⟩ := h
  obtain ⟨ad, e, hc⟩ := h3 (by omega)
  obtain ⟨c, _, hc1, hc2⟩ := hc i _ (List.getElem?_eq_getElem hi)
  have hc1' : c = [.int .i64 xs[i]] := hc1
  subst hc1'
  have h0 : w.cell? (ad.add (i * 1)) = some (.int .i64 xs[i]) := hc2 0 _ rfl
  refine ⟨ad, e, ?_, fun j u hu => ?_⟩
  · have := H.cell_lt h0; rwa [H.add_block] at this
  · have hj : j = 0 := by
      rcases j with _ | j
      · rfl
      · simp [H.eI] at hu
    subst hj
    have hu' : u = .int .i64 xs[i] := by simpa [H.eI] using hu.symm
    subst hu'
    have e0 : ∀ x : Addr, x.add 0 = x := fun x => by simp [Addr.add]
    rw [e0]
    exact h0
theorem rdP_of {w : World} {A : Option Addr} {l : List S49} (h : Kd.C k49 w A l.length l) : H.RdP w w.heap.size A (l.map toPr) := by
  intro i hi
  have hi' : i < l.length := by simpa using hi
  obtain ⟨ad, A1, c1, e, c0, k1, k2, hl, hr⟩ := at_T49 h (i : Int) (by omega) (by omega)
  have hx : rd_T49 l (i : Int) = l[i] := by simp [rd_T49, List.getD_eq_getElem?_getD, hi']
  rw [hx] at c0 k1 k2 hl hr
  simp only [Int.toNat_natCast] at c0 k1 k2
  refine ⟨ad, A1, c1, e, ?_, ?_, ?_, ?_, ?_, ?_⟩
  · have := H.cell_lt c0; rwa [H.add_block] at this
  · simpa [toPr] using c0
  · simpa [toPr] using k1
  · simpa [toPr] using k2
  · simpa [toPr] using hl
  · simpa [toPr] using rdI_of hr
theorem grIn_of {w : World} {A : Option Addr} {c : Nat} {x y z : Int} {l : List S49} (h : Kd.C k49 w A l.length l) (hc : l.length ≤ c) : H.GrIn w (toGr x y z l) A c := by
  refine ⟨by simpa [toGr] using hc, by have := Kd.C_max h; simpa [toGr] using this, fun p hp => ?_, rdP_of h⟩
  obtain ⟨i, hi, rfl⟩ := List.getElem_of_mem hp
  have hi' : i < l.length := by simpa [toGr] using hi
  obtain ⟨ad, A1, c1, e, c0, k1, k2, hl, hr⟩ := at_T49 h (i : Int) (by omega) (by omega)
  have hx : rd_T49 l (i : Int) = l[i] := by simp [rd_T49, List.getD_eq_getElem?_getD, hi']
  rw [hx] at hr
  have := Kd.C_max hr
  simpa [toGr, toPr] using this
theorem grV_of (A : Option Addr) (c : Nat) (x y z : Int) (l : List S49) : H.grV (toGr x y z l) A c = .agg #[.int .i64 x, .int .i64 y, .int .i64 z, .slice A l.length c] := by simp [H.grV, toGr]
def unPr (p : H.Pr) : S49 := ⟨p.head, p.body, p.right⟩
theorem rdI_to {w : World} {B : Nat} {A : Option Addr} {xs : List Int} (h : H.Rd H.eI 1 w B A xs) (hl : xs.length ≤ 9223372036854775807) : (Kd.int .i64).C w A xs.length xs := by
  refine ⟨rfl, hl, fun hn => ?_⟩
  obtain ⟨ad, e, _, _⟩ := h 0 hn
  refine ⟨ad, e, fun j p hj => ?_⟩
  obtain ⟨hj1, rfl⟩ := List.getElem?_eq_some_iff.1 hj
  obtain ⟨ad', e', _, hc⟩ := h j hj1
  rw [e] at e'
  injection e' with e'
  subst e'
  refine ⟨[.int .i64 xs[j]], rfl, rfl, fun i u hu => ?_⟩
  rcases i with _ | i
  · have hu' : u = .int .i64 xs[j] := by simpa using hu.symm
    subst hu'
    have e0 : ∀ x : Addr, x.add 0 = x := fun x => by simp [Addr.add]
    have := hc 0 _ (show (H.eI xs[j])[0]? = some (.int .i64 xs[j]) from rfl)
    rw [e0] at this
    exact this
  · simp at hu
noncomputable def rootstocklaw14_Sums.f  : Option (Int × Int × Int × (List (S49))) := some (2, 3, 2, (([(⟨2, (([2, 1, 2] : List Int)), false⟩ : S49), (⟨2, (([0] : List Int)), false⟩ : S49)] : List (S49))))
theorem own_blk {W : World} {g B n size : Nat} {e : TypeId} {cs : Array Value} (h : H.Blk W g e cs) (hB : B ≤ g) (hm : n ≤ maxLen) (hs : cs.size = n * size) : W.ownsRow B e size (.slice (some ⟨g, 0, none⟩) n n) n cs.toList :=
  ⟨by simpa using hs, .inr ⟨g, n, cs, rfl, hB, h, Nat.le_refl _, hm, hs, List.take_of_length_le (by rw [Array.length_toList, hs]; exact Nat.le_refl _)⟩⟩
set_option maxHeartbeats 4000000 in
set_option maxRecDepth 100000 in
theorem sums_walk (w : World) : Calls Tryd.prog 25 #[] w fun e W => e = .returned (.agg #[.int .i64 2, .int .i64 3, .int .i64 2, .slice (some ⟨w.heap.size + 3, 0, none⟩) 2 2]) ∧ H.Blk W (w.heap.size + 1) 3 #[.int .i64 2, .int .i64 1, .int .i64 2] ∧ H.Blk W (w.heap.size + 2) 3 #[.int .i64 0] ∧
    H.Blk W (w.heap.size + 3) 49 #[.int .i64 2, .slice (some ⟨w.heap.size + 1, 0, none⟩) 3 3, .bool false, .int .i64 2, .slice (some ⟨w.heap.size + 2, 0, none⟩) 1 1, .bool false] ∧ Below w.heap.size w W := by
  go_enter Tryd.func25, Tryd.ntmps25
  go_wp2
  refine bodyPost_ret (results_cell_row rfl _ _ w.heap.size 24 #[.int .i64 2, .int .i64 3, .int .i64 2, .slice (some ⟨w.heap.size + 3, 0, none⟩) 2 2] (0, 0) _ rfl (((H.Blk.new _ _ _).alloc _).alloc _ |>.alloc _) Tryd.underlying24 rfl (by kernel_rfl)) rfl ?_
  refine ⟨rfl, ((H.Blk.newAt (by simp)).alloc _).alloc _, (H.Blk.newAt (by simp)).alloc _, H.Blk.newAt (by simp), ((((Below.refl _ _).alloc (Nat.le_refl _) _).alloc (by simp) _).alloc (by simp; omega) _).alloc (by simp; omega) _⟩
theorem rootstocklaw14_Sums.calls  (r1 : Int) (r2 : Int) (r3 : Int) (r4 : List (S49)) (w : World) (h : rootstocklaw14_Sums.f  = some (r1, r2, r3, r4)) :
    Calls Tryd.prog 25 #[] w fun e w' => ∃ v3_ : Value, e = .returned (.agg #[.int .i64 r1, .int .i64 r2, .int .i64 r3, v3_]) ∧ Kd.R k49 49 w' w.heap.size (fun _ => True) v3_ r4 ∧ Below w.heap.size w w' := by
  have h' := Option.some.inj h
  simp only [Prod.mk.injEq] at h'
  obtain ⟨rfl, rfl, rfl, rfl⟩ := h'
  refine (sums_walk w).mono ?_
  rintro e W ⟨rfl, b1, b2, b3, hb⟩
  refine ⟨_, rfl, ⟨fun k hk => trivial, _, own_blk b3 (by omega) (by decide) rfl, ?_⟩, hb⟩
  · have r1 : (Kd.int .i64).R 3 W w.heap.size (fun k => True ∧ some k ≠ (Value.slice (some ⟨w.heap.size + 3, 0, none⟩) 2 2).ownBlock) (.slice (some ⟨w.heap.size + 1, 0, none⟩) 3 3) [2, 1, 2] := Kd.R_of_own (own_blk b1 (by omega) (by decide) rfl) (fun k hk => by simp [Value.ownBlock] at hk ⊢; omega)
    have r2 : (Kd.int .i64).R 3 W w.heap.size (fun k => True ∧ some k ≠ (Value.slice (some ⟨w.heap.size + 3, 0, none⟩) 2 2).ownBlock) (.slice (some ⟨w.heap.size + 2, 0, none⟩) 1 1) [0] := Kd.R_of_own (own_blk b2 (by omega) (by decide) rfl) (fun k hk => by simp [Value.ownBlock] at hk ⊢; omega)
    exact Reps.c3 (k49_mkM _ _ _ ⟨2, [2, 1, 2], false⟩ r1) (Reps.c3 (k49_mkM _ _ _ ⟨2, [0], false⟩ r2) (Reps.none _ _))
def unAc (x : H.Ac) : S46 := ⟨x.sh, x.rd, x.ac⟩
def tabP (g : H.Gr) : Int × Int × Int × List (S49) × List (List (S46)) × List (List Int) × Int :=
  if H.checkI g ≠ 0 then (0, 0, 0, [], [], [], H.checkI g) else if (H.statesM g).full = true then (0, 0, 0, [], [], [], 3) else
  (g.T, g.S, g.st, g.ps.map unPr, (H.statesM g).sts.map (fun s => (H.actsM g (H.firstEnd g) s).map unAc), (H.statesM g).sts.map H.StD.led, 0)
theorem R_map {α β : Type} {d : Kd α} {d' : Kd β} {e : Nat} {w : World} {base : Nat} {ok : Nat → Prop} {v : Value} {xs : List α} (f : α → β) (hs : d'.sz = d.sz) (hM : ∀ ok x cs, d.M w base ok x cs → d'.M w base ok (f x) cs) (h : d.R e w base ok v xs) : d'.R e w base ok v (xs.map f) := by
  obtain ⟨h0, inner, ho, hr⟩ := h
  refine ⟨h0, inner, by rw [hs, List.length_map]; exact ho, by rw [hs, List.length_map]; exact hr.1, fun j p hj => ?_⟩
  rw [List.getElem?_map] at hj
  obtain ⟨x, hx, rfl⟩ := Option.map_eq_some_iff.1 hj
  rw [hs]
  exact hM _ _ _ (hr.2 j x hx)
noncomputable def tables_Of.f (a0_0 : Int) (a0_1 : Int) (a0_2 : Int) (l0_3 : List (S49)) : Option (Int × Int × Int × List (S49) × List (List (S46)) × List (List Int) × Int) := some (tabP (toGr a0_0 a0_1 a0_2 l0_3))
theorem tables_Of.calls (a0_0 : Int) (a0_1 : Int) (a0_2 : Int) (A0_3 : Option Addr) (c0_3 : Nat) (l0_3 : List (S49)) (r1 : Int) (r2 : Int) (r3 : Int) (r4 : List (S49)) (r5 : List (List (S46))) (r6 : List (List Int)) (r7 : Int) (w : World) (hr0_3 : Kd.C k49 w A0_3 l0_3.length l0_3) (hc0_3 : l0_3.length ≤ c0_3) (h : tables_Of.f a0_0 a0_1 a0_2 l0_3 = some (r1, r2, r3, r4, r5, r6, r7)) (hl_ : H.Laid w) :
    Calls Tryd.prog 12 #[.agg #[.int .i64 a0_0, .int .i64 a0_1, .int .i64 a0_2, .slice A0_3 l0_3.length c0_3]] w fun e w' => ∃ v3_ v4_ v5_ : Value, e = .returned (.tuple #[.agg #[.int .i64 r1, .int .i64 r2, .int .i64 r3, v3_, v4_, v5_], .int .i64 r7]) ∧ Kd.R k49 49 w' w.heap.size (fun _ => True) v3_ r4 ∧ Kd.R (Kd.slice 46 k46) 37 w' w.heap.size (fun _ => True) v4_ r5 ∧ Kd.R (Kd.slice 3 (Kd.int .i64)) 44 w' w.heap.size (fun _ => True) v5_ r6 ∧ Below w.heap.size w w' := by
  have h' := Option.some.inj h
  rw [← grV_of]
  refine (H.of_tab _ _ _ w (grIn_of hr0_3 hc0_3) hl_).mono ?_
  rintro e w' ⟨hb, hp⟩
  unfold tabP at h'
  rcases hp with ⟨h1, rfl⟩ | ⟨h1, h2, rfl⟩ | ⟨h1, h2, vP, vA, vG, rfl, hP, hA, hG⟩
  · rw [if_pos h1] at h'
    simp only [Prod.mk.injEq] at h'
    obtain ⟨rfl, rfl, rfl, rfl, rfl, rfl, rfl⟩ := h'
    exact ⟨_, _, _, rfl, Kd.R_nil _ _ _ _ _, Kd.R_nil _ _ _ _ _, Kd.R_nil _ _ _ _ _, hb⟩
  · rw [if_neg (fun e => e h1), if_pos h2] at h'
    simp only [Prod.mk.injEq] at h'
    obtain ⟨rfl, rfl, rfl, rfl, rfl, rfl, rfl⟩ := h'
    exact ⟨_, _, _, rfl, Kd.R_nil _ _ _ _ _, Kd.R_nil _ _ _ _ _, Kd.R_nil _ _ _ _ _, hb⟩
  · rw [if_neg (fun e => e h1), if_neg (by rw [h2]; exact Bool.false_ne_true)] at h'
    simp only [Prod.mk.injEq] at h'
    obtain ⟨rfl, rfl, rfl, rfl, rfl, rfl, rfl⟩ := h'
    refine ⟨vP, vA, vG, rfl, R_map unPr rfl (fun _ _ _ h => h) hP, ?_, hG, hb⟩
    have := R_map (d := H.kRow) (d' := Kd.slice 46 k46) (fun l : List H.Ac => l.map unAc) rfl (fun ok x cs ⟨v, e, hv⟩ => ⟨v, e, R_map unAc rfl (fun _ _ _ h => h) hv⟩) hA
    rw [List.map_map] at this
    exact this
mutual
noncomputable def tables_Clashes.l0 : Nat → List (S41) → List (List (S46)) → Int → Int → Option ((List (S41)))
  | 0, _, _, _, _ => none
  | k + 1, x3, x10, x11, x12 => if x12 < x11 then (if 0 ≤ x12 then (if x12 < (x10.length : Int) then (tables_Clashes.l1 k x3 x12 x10 x11 x12 (rd_L7 x10 x12) ((rd_L7 x10 x12).length : Int) 0) else (none)) else (none)) else (some x3)
noncomputable def tables_Clashes.l1 : Nat → List (S41) → Int → List (List (S46)) → Int → Int → List (S46) → Int → Int → Option ((List (S41)))
  | 0, _, _, _, _, _, _, _, _ => none
  | k + 1, x3, x4, x10, x11, x12, x17, x18, x19 => if x19 < x18 then (if 0 ≤ x19 then (if x19 < (x17.length : Int) then (if ((rd_T46 x17 x19).f0) ≥ 0 then (tables_Clashes.j2 k x3 x4 x19 (wrap64 ((((rd_T46 x17 x19).f1).length : Int) + 1)) x10 x11 x12 x17 x18 x19 ((rd_T46 x17 x19).f0) ((rd_T46 x17 x19).f1) ((rd_T46 x17 x19).f2)) else (tables_Clashes.j2 k x3 x4 x19 (((rd_T46 x17 x19).f1).length : Int) x10 x11 x12 x17 x18 x19 ((rd_T46 x17 x19).f0) ((rd_T46 x17 x19).f1) ((rd_T46 x17 x19).f2))) else (none)) else (none)) else (tables_Clashes.l0 k x3 x10 x11 (wrap64 (x12 + 1)))
noncomputable def tables_Clashes.j2 : Nat → List (S41) → Int → Int → Int → List (List (S46)) → Int → Int → List (S46) → Int → Int → Int → List Int → Bool → Option ((List (S41)))
  | 0, _, _, _, _, _, _, _, _, _, _, _, _, _ => none
  | k + 1, x3, x4, x6, x8, x10, x11, x12, x17, x18, x19, x105000, x105001, x105002 => if x105002 = true then (if (wrap64 (x8 + 1)) > 1 then (if x3.length < 8796093022208 then (tables_Clashes.l1 k (x3 ++ [(⟨x4, x6⟩ : S41)]) x4 x10 x11 x12 x17 x18 (wrap64 (x19 + 1))) else (none)) else (tables_Clashes.l1 k x3 x4 x10 x11 x12 x17 x18 (wrap64 (x19 + 1)))) else (if x8 > 1 then (if x3.length < 8796093022208 then (tables_Clashes.l1 k (x3 ++ [(⟨x4, x6⟩ : S41)]) x4 x10 x11 x12 x17 x18 (wrap64 (x19 + 1))) else (none)) else (tables_Clashes.l1 k x3 x4 x10 x11 x12 x17 x18 (wrap64 (x19 + 1))))
end
noncomputable def tables_Clashes.f (k : Nat) (a0_0 : Int) (a0_1 : Int) (a0_2 : Int) (l0_3 : List (S49)) (l0_4 : List (List (S46))) (l0_5 : List (List Int)) : Option ((List (S41))) := tables_Clashes.l0 k ([] : List (S41)) l0_4 (l0_4.length : Int) 0
set_option maxHeartbeats 8000000 in
set_option maxRecDepth 100000 in
theorem tables_Clashes.calls (k : Nat) (a0_0 : Int) (a0_1 : Int) (a0_2 : Int) (A0_3 : Option Addr) (c0_3 : Nat) (l0_3 : List (S49)) (A0_4 : Option Addr) (c0_4 : Nat) (l0_4 : List (List (S46))) (A0_5 : Option Addr) (c0_5 : Nat) (l0_5 : List (List Int)) (r : List (S41)) (w : World) (hr0_3 : Kd.C k49 w A0_3 l0_3.length l0_3) (hc0_3 : l0_3.length ≤ c0_3) (hr0_4 : Kd.C (Kd.slice 46 k46) w A0_4 l0_4.length l0_4) (hc0_4 : l0_4.length ≤ c0_4) (hr0_5 : Kd.C (Kd.slice 3 (Kd.int .i64)) w A0_5 l0_5.length l0_5) (hc0_5 : l0_5.length ≤ c0_5) (h : tables_Clashes.f k a0_0 a0_1 a0_2 l0_3 l0_4 l0_5 = some r) :
    Calls Tryd.prog 15 #[.agg #[.int .i64 a0_0, .int .i64 a0_1, .int .i64 a0_2, .slice A0_3 l0_3.length c0_3, .slice A0_4 l0_4.length c0_4, .slice A0_5 l0_5.length c0_5]] w fun e w' => ∃ v0_ : Value, e = .returned (v0_) ∧ Kd.R k41 41 w' w.heap.size (fun _ => True) v0_ r ∧ Below w.heap.size w w' := by
 have hu30 := Tryd.underlying30
 have hu46 := Tryd.underlying46
 have hu41 := Tryd.underlying41
 have HR0_3 := Aside0.mk hr0_3
 have HC0_3 := Aside0.mk hc0_3
 clear hr0_3 hc0_3
 have HR0_4 := Aside0.mk hr0_4
 have HC0_4 := Aside0.mk hc0_4
 clear hr0_4 hc0_4
 have HR0_5 := Aside0.mk hr0_5
 have HC0_5 := Aside0.mk hc0_5
 clear hr0_5 hc0_5
 have HB := Aside0.mk (Below.refl w.heap.size w)
 have H : (tables_Clashes.l0 k ([] : List (S41)) l0_4 (l0_4.length : Int) 0) = some r := h
 clear h
 have H' := Aside0.mk H
 clear H
 go_enter Tryd.func15, Tryd.ntmps15
 go_wp2_with (first | ((with_reducible refine gate_dst (N := 1) rfl ?_); refine box_event ?hg (N := 1) ?hd (cs := #[.int .i64 a0_0, .int .i64 a0_1, .int .i64 a0_2, .slice A0_3 l0_3.length c0_3, .slice A0_4 l0_4.length c0_4, .slice A0_5 l0_5.length c0_5]) (t := 30) ?hr ?_; (case hd => rfl); (case hg => rfl); (case hr => first | (go_simp; done) | (go_simp; rfl)); intro gb101 hg w2 hbox hb; have n0_ := Aside0.mk (below_step (by repeat (first | (with_reducible first | exact HB.out | apply below_alloc | apply pw_below_drewN | apply below_drew1) | exact HB.out)) hb); have n1_ := Aside0.mk (hbox); have n2_ := Aside0.mk ((by rw [hg]; exact (below_size (by repeat (first | (with_reducible first | exact HB.out | apply below_alloc | apply pw_below_drewN | apply below_drew1) | exact HB.out))) : w.heap.size ≤ gb101)); have n3_ := Aside0.mk ((by rw [hg]; exact (below_size (by repeat (first | (with_reducible first | exact HB.out | apply below_alloc | apply pw_below_drewN | apply below_drew1) | exact HB.out))) : w.heap.size ≤ gb101)); clear HB; have HB := n0_; have BK101 := n1_; have GW101 := n2_; have GE101 := n3_; clear n0_ n1_ n2_ n3_; clear hb hbox hg; have hcz3_0 : w2.cell? ⟨gb101, 0, none⟩ = some (.int .i64 a0_0) := (blk_cell BK101.out 0).trans rfl; have hcz3_1 : w2.cell? ⟨gb101, 1, none⟩ = some (.int .i64 a0_1) := (blk_cell BK101.out 1).trans rfl; have hcz3_2 : w2.cell? ⟨gb101, 2, none⟩ = some (.int .i64 a0_2) := (blk_cell BK101.out 2).trans rfl; have hcz3_3 : w2.cell? ⟨gb101, 3, none⟩ = some (.slice A0_3 l0_3.length c0_3) := (blk_cell BK101.out 3).trans rfl; have hcz3_4 : w2.cell? ⟨gb101, 4, none⟩ = some (.slice A0_4 l0_4.length c0_4) := (blk_cell BK101.out 4).trans rfl; have hcz3_5 : w2.cell? ⟨gb101, 5, none⟩ = some (.slice A0_5 l0_5.length c0_5) := (blk_cell BK101.out 5).trans rfl; have hfz3_0 := blk_frozen BK101.out 0; have hfz3_1 := blk_frozen BK101.out 1; have hfz3_2 := blk_frozen BK101.out 2; have hfz3_3 := blk_frozen BK101.out 3; have hfz3_4 := blk_frozen BK101.out 4; have hfz3_5 := blk_frozen BK101.out 5))
 go_loopg [3, 12] k (fun kq v3 v12 w' => ∃ (x3_1 : List (S41)) (x12_1 : Int), v12 = .int .i64 x12_1 ∧ Aside0 (tables_Clashes.l0 kq x3_1 l0_4 (l0_4.length : Int) x12_1 = some r) ∧ Aside0 (kq ≤ k) ∧ Aside0 (Kd.R k41 41 w' w.heap.size (fun _ => True) v3 x3_1) ∧ Aside0 (w'.heap[gb101]? = some (.cells #[.int .i64 a0_0, .int .i64 a0_1, .int .i64 a0_2, (.slice A0_3 l0_3.length c0_3), (.slice A0_4 l0_4.length c0_4), (.slice A0_5 l0_5.length c0_5)] 30 (0, 0))) ∧ Aside0 (Below w.heap.size w w'))
 case atStart => exact ⟨(([] : List (S41))), (0), (by first | rfl | (simp; done) | (simp [*]; done)), H', ⟨Nat.le_refl _⟩, ⟨by first | exact Kd.R_nil _ _ _ _ _ | exact Kd.N_nil _ _ _ _ _ | exact Kd.V_nil _ _ _ _ _ | exact Kd.Q_nil _ _ _ _ _ | exact Kd.S_nil _ _ _ _ _⟩, ⟨by (with_reducible repeat (first | refine blk_drewN ?_ _ | refine blk_drew ?_ | refine blk_alloc ?_ _)); exact BK101.out⟩, ⟨by repeat (first | (with_reducible first | exact HB.out | apply below_alloc | apply pw_below_drewN | apply below_drew1 | refine below_set ?_ GE101.out) | exact HB.out)⟩⟩
 case round =>
  as_aux_lemma =>
   clear H'
   try clear c1
   try clear p2
   try clear hcz3_0
   try clear hcz3_1
   try clear hcz3_2
   try clear hcz3_3
   try clear hcz3_4
   try clear hcz3_5
   try clear hfz3_0
   try clear hfz3_1
   try clear hfz3_2
   try clear hfz3_3
   try clear hfz3_4
   try clear hfz3_5
   obtain ⟨x3_1, x12_1, rfl, HA, HK1, HO_3, BK101, HB⟩ := hrel
   cases gk with
   | zero => exact absurd HA.out (by simp [tables_Clashes.l0])
   | succ k1 =>
    have H := HA.out
    clear HA
    simp only [tables_Clashes.l0] at H
    by_cases c4 : x12_1 < (l0_4.length : Int)
    rotate_left
    · rw [if_neg c4] at H
      have c4b0 : decide (x12_1 < (l0_4.length : Int)) = false := decide_eq_false c4
      clear c4
      as_aux_lemma =>
       obtain rfl := Option.some.inj H
       go_wp2
       go_ret
       exact ⟨_, by first | rfl | (simp [errW_none, errW_some] <;> rfl) | (simp [*, errW_none, errW_some] <;> rfl), by (with_reducible repeat (first | apply Kd.R_alloc | apply Kd.R_drewN | apply Kd.R_drew)); exact HO_3.out, by repeat (first | (with_reducible first | exact HB.out | apply below_alloc | apply pw_below_drewN | apply below_drew1 | refine below_set ?_ GE101.out) | exact HB.out)⟩
    rw [if_pos c4] at H
    have c4b0 : decide (x12_1 < (l0_4.length : Int)) = true := decide_eq_true c4
    clear c4
    by_cases c5 : 0 ≤ x12_1
    rotate_left
    · rw [if_neg c5] at H
      exact absurd H (by simp)
    rw [if_pos c5] at H
    have c5b0 : decide (0 ≤ x12_1) = true := decide_eq_true c5
    clear c5
    by_cases c6 : x12_1 < (l0_4.length : Int)
    rotate_left
    · rw [if_neg c6] at H
      exact absurd H (by simp)
    rw [if_pos c6] at H
    have c6b0 : decide (x12_1 < (l0_4.length : Int)) = true := decide_eq_true c6
    clear c6
    have H' := Aside0.mk H
    clear H
    have p102 : 0 ≤ (x12_1 : Int) := of_decide_eq_true (by first | (with_reducible assumption) | assumption)
    have q102 : x12_1 < (l0_4.length : Int) := of_decide_eq_true (by first | (with_reducible assumption) | assumption)
    obtain ⟨ad102, A102_0, c102_0, e102, hx102_0, hl102_0, hi102_0⟩ := at_L7 HR0_4.out x12_1 p102 q102
    cases e102
    replace hx102_0 := (HB.out.cell (World.block_lt_of_cell? w _ hx102_0)).trans hx102_0
    have HR102_0 := Aside0.mk hi102_0
    have HC102_0 := Aside0.mk hl102_0
    clear hi102_0 hl102_0
    replace p102 := eq_true p102
    replace q102 := eq_true q102
    go_wp2
    go_loopg [3, 19] k1 (fun kq v3 v19 w' => ∃ (x3_2 : List (S41)) (x19_2 : Int), v19 = .int .i64 x19_2 ∧ Aside0 (tables_Clashes.l1 kq x3_2 x12_1 l0_4 (l0_4.length : Int) x12_1 (rd_L7 l0_4 x12_1) ((rd_L7 l0_4 x12_1).length : Int) x19_2 = some r) ∧ Aside0 (kq ≤ k1) ∧ Aside0 (Kd.R k41 41 w' w.heap.size (fun _ => True) v3 x3_2) ∧ Aside0 (w'.heap[gb101]? = some (.cells #[.int .i64 a0_0, .int .i64 a0_1, .int .i64 a0_2, (.slice A0_3 l0_3.length c0_3), (.slice (some ad102) l0_4.length c0_4), (.slice A0_5 l0_5.length c0_5)] 30 (0, 0))) ∧ Aside0 (Below w.heap.size w w'))
    case atStart => exact ⟨(x3_1), (0), (by first | rfl | (simp; done) | (simp [*]; done)), H', ⟨Nat.le_refl _⟩, ⟨by (with_reducible repeat (first | apply Kd.R_alloc | apply Kd.R_drewN | apply Kd.R_drew)); exact HO_3.out⟩, ⟨by (with_reducible repeat (first | refine blk_drewN ?_ _ | refine blk_drew ?_ | refine blk_alloc ?_ _)); exact BK101.out⟩, ⟨by repeat (first | (with_reducible first | exact HB.out | apply below_alloc | apply pw_below_drewN | apply below_drew1 | refine below_set ?_ GE101.out) | exact HB.out)⟩⟩
    case round =>
     as_aux_lemma =>
      clear H'
      try clear c1
      try clear p1
      try clear q1
      try clear hx1
      try clear p2
      try clear c4
      try clear c4b0
      try clear c5
      try clear c5b0
      try clear c6
      try clear c6b0
      try clear hcz3_0
      try clear hcz3_1
      try clear hcz3_2
      try clear hcz3_3
      try clear hcz3_4
      try clear hcz3_5
      try clear hfz3_0
      try clear hfz3_1
      try clear hfz3_2
      try clear hfz3_3
      try clear hfz3_4
      try clear hfz3_5
      try clear hx102_0
      try clear p102
      try clear p2
      try clear q102
      obtain ⟨x3_2, x19_2, rfl, HA, HK2, HO_3, BK101, HB⟩ := hrel
      cases gk with
      | zero => exact absurd HA.out (by simp [tables_Clashes.l1])
      | succ k2 =>
       have H := HA.out
       clear HA
       simp only [tables_Clashes.l1] at H
       by_cases c7 : x19_2 < ((rd_L7 l0_4 x12_1).length : Int)
       rotate_left
       · rw [if_neg c7] at H
         have c7b0 : decide (x19_2 < ((rd_L7 l0_4 x12_1).length : Int)) = false := decide_eq_false c7
         clear c7
         as_aux_lemma =>
          have H' := Aside0.mk H
          clear H
          go_wp2
          go_roundg k2
          case measure => have := HK1.out; have := HK2.out; omega
          case rel => exact ⟨(x3_2), (wrap64 (x12_1 + 1)), (by first | rfl | (simp; done) | (simp [*]; done)), H', ⟨by have := HK1.out; have := HK2.out; omega⟩, ⟨by (with_reducible repeat (first | apply Kd.R_alloc | apply Kd.R_drewN | apply Kd.R_drew)); exact HO_3.out⟩, ⟨by (with_reducible repeat (first | refine blk_drewN ?_ _ | refine blk_drew ?_ | refine blk_alloc ?_ _)); exact BK101.out⟩, ⟨by repeat (first | (with_reducible first | exact HB.out | apply below_alloc | apply pw_below_drewN | apply below_drew1 | refine below_set ?_ GE101.out) | exact HB.out)⟩⟩
       rw [if_pos c7] at H
       have c7b0 : decide (x19_2 < ((rd_L7 l0_4 x12_1).length : Int)) = true := decide_eq_true c7
       clear c7
       by_cases c8 : 0 ≤ x19_2
       rotate_left
       · rw [if_neg c8] at H
         exact absurd H (by simp)
       rw [if_pos c8] at H
       have c8b0 : decide (0 ≤ x19_2) = true := decide_eq_true c8
       clear c8
       by_cases c9 : x19_2 < ((rd_L7 l0_4 x12_1).length : Int)
       rotate_left
       · rw [if_neg c9] at H
         exact absurd H (by simp)
       rw [if_pos c9] at H
       have c9b0 : decide (x19_2 < ((rd_L7 l0_4 x12_1).length : Int)) = true := decide_eq_true c9
       clear c9
       have HC10 := Aside0.mk H
       clear H
       have p103 : 0 ≤ (x19_2 : Int) := of_decide_eq_true (by first | (with_reducible assumption) | assumption)
       have q103 : x19_2 < ((rd_L7 l0_4 x12_1).length : Int) := of_decide_eq_true (by first | (with_reducible assumption) | assumption)
       obtain ⟨ad103, A103_1, c103_1, e103, hx103_0, hx103_1, hx103_2, hl103_1, hi103_1⟩ := at_T46 HR102_0.out x19_2 p103 q103
       cases e103
       replace hx103_0 := (HB.out.cell (World.block_lt_of_cell? w _ hx103_0)).trans hx103_0
       replace hx103_1 := (HB.out.cell (World.block_lt_of_cell? w _ hx103_1)).trans hx103_1
       replace hx103_2 := (HB.out.cell (World.block_lt_of_cell? w _ hx103_2)).trans hx103_2
       have HR103_1 := Aside0.mk hi103_1
       have HC103_1 := Aside0.mk hl103_1
       clear hi103_1 hl103_1
       replace p103 := eq_true p103
       replace q103 := eq_true q103
       go_upto_if 29 with (first | ((with_reducible refine gate_dst (N := 7) rfl ?_); refine box_event ?hg (N := 7) ?hd (cs := #[.int .i64 0, .slice none 0 0, .bool false]) (t := 46) ?hr ?_; (case hd => rfl); (case hg => rfl); (case hr => first | (go_simp; done) | (go_simp; rfl)); intro gb104 hg w11 hbox hb; have n0_ := Aside0.mk (Kd.R_below (by (with_reducible repeat (first | apply Kd.R_alloc | apply Kd.R_drewN | apply Kd.R_drew)); exact HO_3.out) hb); have n1_ := Aside0.mk (blk_below (g := gb101) (o := .cells #[.int .i64 a0_0, .int .i64 a0_1, .int .i64 a0_2, .slice A0_3 l0_3.length c0_3, .slice (some ad102) l0_4.length c0_4, .slice A0_5 l0_5.length c0_5] 30 (0, 0)) (by (with_reducible repeat (first | refine blk_drewN ?_ _ | refine blk_drew ?_ | refine blk_alloc ?_ _)); exact BK101.out) hb); have n2_ := Aside0.mk (below_step (by repeat (first | (with_reducible first | exact HB.out | apply below_alloc | apply pw_below_drewN | apply below_drew1 | refine below_set ?_ GE101.out) | exact HB.out)) hb); have n3_ := Aside0.mk (hbox); have n4_ := Aside0.mk ((by rw [hg]; exact (below_size (by repeat (first | (with_reducible first | exact HB.out | apply below_alloc | apply pw_below_drewN | apply below_drew1 | refine below_set ?_ GE101.out) | exact HB.out))) : w.heap.size ≤ gb104)); have n5_ := Aside0.mk ((by rw [hg]; exact (below_size (by repeat (first | (with_reducible first | exact HB.out | apply below_alloc | apply pw_below_drewN | apply below_drew1 | refine below_set ?_ GE101.out) | exact HB.out))) : w.heap.size ≤ gb104)); have n6_ := Aside0.mk ((by rw [hg]; exact Nat.ne_of_lt (blk_lt (g := gb101) (o := .cells #[.int .i64 a0_0, .int .i64 a0_1, .int .i64 a0_2, .slice A0_3 l0_3.length c0_3, .slice (some ad102) l0_4.length c0_4, .slice A0_5 l0_5.length c0_5] 30 (0, 0)) (by (with_reducible repeat (first | refine blk_drewN ?_ _ | refine blk_drew ?_ | refine blk_alloc ?_ _)); exact BK101.out)) : gb101 ≠ gb104)); have n7_ := Aside0.mk ((by rw [hg]; exact Nat.ne_of_gt (blk_lt (g := gb101) (o := .cells #[.int .i64 a0_0, .int .i64 a0_1, .int .i64 a0_2, .slice A0_3 l0_3.length c0_3, .slice (some ad102) l0_4.length c0_4, .slice A0_5 l0_5.length c0_5] 30 (0, 0)) (by (with_reducible repeat (first | refine blk_drewN ?_ _ | refine blk_drew ?_ | refine blk_alloc ?_ _)); exact BK101.out)) : gb104 ≠ gb101)); clear HO_3; clear BK101; clear HB; have HO_3 := n0_; have BK101 := n1_; have HB := n2_; have BK104 := n3_; have GW104 := n4_; have GE104 := n5_; have NB101_104 := n6_; have NB104_101 := n7_; clear n0_ n1_ n2_ n3_ n4_ n5_ n6_ n7_; clear hb hbox hg; have hnb12 := NB104_101.out; have hnc12 := NB101_104.out; have hcz13_0 : w11.cell? ⟨gb104, 0, none⟩ = some (.int .i64 0) := (blk_cell BK104.out 0).trans rfl; have hcz13_1 : w11.cell? ⟨gb104, 1, none⟩ = some (.slice none 0 0) := (blk_cell BK104.out 1).trans rfl; have hcz13_2 : w11.cell? ⟨gb104, 2, none⟩ = some (.bool false) := (blk_cell BK104.out 2).trans rfl; have hfz13_0 := blk_frozen BK104.out 0; have hfz13_1 := blk_frozen BK104.out 1; have hfz13_2 := blk_frozen BK104.out 2))
       (try simp only [Act.put, List.setIfInBounds_toArray, List.set_cons_zero, List.set_cons_succ])
       go_cut [8] (fun v8 wc => ∃ (kq : Nat) (x8_9 : Int), v8 = .int .i64 x8_9 ∧ Aside0 (tables_Clashes.j2 kq x3_2 x12_1 x19_2 x8_9 l0_4 (l0_4.length : Int) x12_1 (rd_L7 l0_4 x12_1) ((rd_L7 l0_4 x12_1).length : Int) x19_2 ((rd_T46 (rd_L7 l0_4 x12_1) x19_2).f0) ((rd_T46 (rd_L7 l0_4 x12_1) x19_2).f1) ((rd_T46 (rd_L7 l0_4 x12_1) x19_2).f2) = some r) ∧ Aside0 (kq ≤ k2) ∧ Aside0 (Kd.R k41 41 wc w.heap.size (fun _ => True) u3 x3_2) ∧ Aside0 (wc.heap[gb101]? = some (.cells #[.int .i64 a0_0, .int .i64 a0_1, .int .i64 a0_2, (.slice A0_3 l0_3.length c0_3), (.slice (some ad102) l0_4.length c0_4), (.slice A0_5 l0_5.length c0_5)] 30 (0, 0))) ∧ Aside0 (wc.heap[gb104]? = some (.cells #[.int .i64 ((rd_T46 (rd_L7 l0_4 x12_1) x19_2).f0), (.slice A103_1 ((rd_T46 (rd_L7 l0_4 x12_1) x19_2).f1).length c103_1), .bool ((rd_T46 (rd_L7 l0_4 x12_1) x19_2).f2)] 46 (0, 0))) ∧ Aside0 (Below w.heap.size w wc))
       case first =>
        have H := HC10.out
        clear HC10
        by_cases c14 : ((rd_T46 (rd_L7 l0_4 x12_1) x19_2).f0) ≥ 0
        rotate_left
        · rw [if_neg c14] at H
          have c14b0 : decide (0 ≤ ((rd_T46 (rd_L7 l0_4 x12_1) x19_2).f0)) = false := decide_eq_false c14
          clear c14
          (first | rw [c14b0] | (simp only [i64_w, i32_w]; rw [c14b0]) | skip)
          as_aux_lemma =>
           have H' := Aside0.mk H
           clear H
           go_wp2
           go_meet
           case rel => exact ⟨_, ((((rd_T46 (rd_L7 l0_4 x12_1) x19_2).f1).length : Int)), (by first | rfl | (simp; done) | (simp [*]; done)), H', ⟨by have := HK1.out; have := HK2.out; first | omega | exact Nat.le_refl _⟩, ⟨by (with_reducible repeat (first | apply Kd.R_alloc | apply Kd.R_drewN | apply Kd.R_drew)); exact Kd.R_mono (Kd.R_far (p := ⟨gb104, 2, none⟩) (Kd.R_far (p := ⟨gb104, 1, none⟩) (Kd.R_far (p := ⟨gb104, 0, none⟩) (Kd.R_types HO_3.out BK104.out (by decide)) (fun _ hk => hk.2) (.int .i64 ((rd_T46 (rd_L7 l0_4 x12_1) x19_2).f0))) (fun _ hk => hk.2) (.slice A103_1 ((rd_T46 (rd_L7 l0_4 x12_1) x19_2).f1).length c103_1)) (fun _ hk => hk.2) (.bool ((rd_T46 (rd_L7 l0_4 x12_1) x19_2).f2))) (fun _ hk => trivial)⟩, ⟨by (with_reducible repeat (first | refine blk_drewN ?_ _ | refine blk_drew ?_ | refine blk_alloc ?_ _)); refine blk_far ?_ NB101_104.out _; (with_reducible repeat (first | refine blk_drewN ?_ _ | refine blk_drew ?_ | refine blk_alloc ?_ _)); refine blk_far ?_ NB101_104.out _; (with_reducible repeat (first | refine blk_drewN ?_ _ | refine blk_drew ?_ | refine blk_alloc ?_ _)); refine blk_far ?_ NB101_104.out _; (with_reducible repeat (first | refine blk_drewN ?_ _ | refine blk_drew ?_ | refine blk_alloc ?_ _)); exact BK101.out⟩, ⟨by (with_reducible repeat (first | refine blk_drewN ?_ _ | refine blk_drew ?_ | refine blk_alloc ?_ _)); refine blk_put (cs := #[.int .i64 ((rd_T46 (rd_L7 l0_4 x12_1) x19_2).f0), .slice A103_1 ((rd_T46 (rd_L7 l0_4 x12_1) x19_2).f1).length c103_1, .bool false]) ?_ 2 _ rfl; (with_reducible repeat (first | refine blk_drewN ?_ _ | refine blk_drew ?_ | refine blk_alloc ?_ _)); refine blk_put (cs := #[.int .i64 ((rd_T46 (rd_L7 l0_4 x12_1) x19_2).f0), .slice none 0 0, .bool false]) ?_ 1 _ rfl; (with_reducible repeat (first | refine blk_drewN ?_ _ | refine blk_drew ?_ | refine blk_alloc ?_ _)); refine blk_put (cs := #[.int .i64 0, .slice none 0 0, .bool false]) ?_ 0 _ rfl; (with_reducible repeat (first | refine blk_drewN ?_ _ | refine blk_drew ?_ | refine blk_alloc ?_ _)); exact BK104.out⟩, ⟨by repeat (first | (with_reducible first | exact HB.out | apply below_alloc | apply pw_below_drewN | apply below_drew1 | refine below_set ?_ GE101.out | refine below_set ?_ GE104.out) | exact HB.out)⟩⟩
        rw [if_pos c14] at H
        have c14b0 : decide (0 ≤ ((rd_T46 (rd_L7 l0_4 x12_1) x19_2).f0)) = true := decide_eq_true c14
        clear c14
        (first | rw [c14b0] | (simp only [i64_w, i32_w]; rw [c14b0]) | skip)
        as_aux_lemma =>
         have H' := Aside0.mk H
         clear H
         go_wp2
         go_meet
         case rel => exact ⟨_, (wrap64 ((((rd_T46 (rd_L7 l0_4 x12_1) x19_2).f1).length : Int) + 1)), (by first | rfl | (simp; done) | (simp [*]; done)), H', ⟨by have := HK1.out; have := HK2.out; first | omega | exact Nat.le_refl _⟩, ⟨by (with_reducible repeat (first | apply Kd.R_alloc | apply Kd.R_drewN | apply Kd.R_drew)); exact Kd.R_mono (Kd.R_far (p := ⟨gb104, 2, none⟩) (Kd.R_far (p := ⟨gb104, 1, none⟩) (Kd.R_far (p := ⟨gb104, 0, none⟩) (Kd.R_types HO_3.out BK104.out (by decide)) (fun _ hk => hk.2) (.int .i64 ((rd_T46 (rd_L7 l0_4 x12_1) x19_2).f0))) (fun _ hk => hk.2) (.slice A103_1 ((rd_T46 (rd_L7 l0_4 x12_1) x19_2).f1).length c103_1)) (fun _ hk => hk.2) (.bool ((rd_T46 (rd_L7 l0_4 x12_1) x19_2).f2))) (fun _ hk => trivial)⟩, ⟨by (with_reducible repeat (first | refine blk_drewN ?_ _ | refine blk_drew ?_ | refine blk_alloc ?_ _)); refine blk_far ?_ NB101_104.out _; (with_reducible repeat (first | refine blk_drewN ?_ _ | refine blk_drew ?_ | refine blk_alloc ?_ _)); refine blk_far ?_ NB101_104.out _; (with_reducible repeat (first | refine blk_drewN ?_ _ | refine blk_drew ?_ | refine blk_alloc ?_ _)); refine blk_far ?_ NB101_104.out _; (with_reducible repeat (first | refine blk_drewN ?_ _ | refine blk_drew ?_ | refine blk_alloc ?_ _)); exact BK101.out⟩, ⟨by (with_reducible repeat (first | refine blk_drewN ?_ _ | refine blk_drew ?_ | refine blk_alloc ?_ _)); refine blk_put (cs := #[.int .i64 ((rd_T46 (rd_L7 l0_4 x12_1) x19_2).f0), .slice A103_1 ((rd_T46 (rd_L7 l0_4 x12_1) x19_2).f1).length c103_1, .bool false]) ?_ 2 _ rfl; (with_reducible repeat (first | refine blk_drewN ?_ _ | refine blk_drew ?_ | refine blk_alloc ?_ _)); refine blk_put (cs := #[.int .i64 ((rd_T46 (rd_L7 l0_4 x12_1) x19_2).f0), .slice none 0 0, .bool false]) ?_ 1 _ rfl; (with_reducible repeat (first | refine blk_drewN ?_ _ | refine blk_drew ?_ | refine blk_alloc ?_ _)); refine blk_put (cs := #[.int .i64 0, .slice none 0 0, .bool false]) ?_ 0 _ rfl; (with_reducible repeat (first | refine blk_drewN ?_ _ | refine blk_drew ?_ | refine blk_alloc ?_ _)); exact BK104.out⟩, ⟨by repeat (first | (with_reducible first | exact HB.out | apply below_alloc | apply pw_below_drewN | apply below_drew1 | refine below_set ?_ GE101.out | refine below_set ?_ GE104.out) | exact HB.out)⟩⟩
       case rest =>
        as_aux_lemma =>
         clear HC10
         try clear c1
         try clear p1
         try clear q1
         try clear hx1
         try clear p2
         try clear c4
         try clear c4b0
         try clear c5
         try clear c5b0
         try clear c6
         try clear c6b0
         try clear p6
         try clear c7
         try clear c7b0
         try clear c8
         try clear c8b0
         try clear c9
         try clear c9b0
         try clear c10
         try clear p10
         try clear q10
         try clear hx10
         try clear c12
         try clear c14
         try clear c14b0
         try clear hcz13_0
         try clear hcz13_1
         try clear hcz13_2
         try clear hcz3_0
         try clear hcz3_1
         try clear hcz3_2
         try clear hcz3_3
         try clear hcz3_4
         try clear hcz3_5
         try clear hfz13_0
         try clear hfz13_1
         try clear hfz13_2
         try clear hfz3_0
         try clear hfz3_1
         try clear hfz3_2
         try clear hfz3_3
         try clear hfz3_4
         try clear hfz3_5
         try clear hx102_0
         try clear hx103_0
         try clear hx103_1
         try clear hx103_2
         try clear p1
         try clear p102
         try clear p103
         try clear p2
         try clear q1
         try clear q102
         try clear q103
         obtain ⟨kq, x8_9, rfl, HA, HJ9, HO_3, BK101, BK104, HB⟩ := hcut
         cases kq with
         | zero => exact absurd HA.out (by simp [tables_Clashes.j2])
         | succ kj9 =>
          have H := HA.out
          clear HA
          simp only [tables_Clashes.j2] at H
          by_cases c15 : ((rd_T46 (rd_L7 l0_4 x12_1) x19_2).f2) = true
          rotate_left
          · rw [if_neg c15] at H
            have c15b0 : ((rd_T46 (rd_L7 l0_4 x12_1) x19_2).f2) = false := by simpa using c15
            clear c15
            by_cases c23 : x8_9 > 1
            rotate_left
            · rw [if_neg c23] at H
              have c23b0 : decide (1 < x8_9) = false := decide_eq_false c23
              clear c23
              as_aux_lemma =>
               have H' := Aside0.mk H
               clear H
               have hnb28 := NB104_101.out
               have hnc28 := NB101_104.out
               have hcz29_0 : wc.cell? ⟨gb104, 0, none⟩ = some (.int .i64 ((rd_T46 (rd_L7 l0_4 x12_1) x19_2).f0)) := (blk_cell BK104.out 0).trans rfl
               have hcz29_1 : wc.cell? ⟨gb104, 1, none⟩ = some (.slice A103_1 ((rd_T46 (rd_L7 l0_4 x12_1) x19_2).f1).length c103_1) := (blk_cell BK104.out 1).trans rfl
               have hcz29_2 : wc.cell? ⟨gb104, 2, none⟩ = some (.bool ((rd_T46 (rd_L7 l0_4 x12_1) x19_2).f2)) := (blk_cell BK104.out 2).trans rfl
               have hfz29_0 := blk_frozen BK104.out 0
               have hfz29_1 := blk_frozen BK104.out 1
               have hfz29_2 := blk_frozen BK104.out 2
               go_wp2
               go_roundg kj9
               case measure => have := HK1.out; have := HK2.out; have := HJ9.out; omega
               case rel => exact ⟨(x3_2), (wrap64 (x19_2 + 1)), (by first | rfl | (simp; done) | (simp [*]; done)), H', ⟨by have := HK1.out; have := HK2.out; have := HJ9.out; omega⟩, ⟨by (with_reducible repeat (first | apply Kd.R_alloc | apply Kd.R_drewN | apply Kd.R_drew)); exact HO_3.out⟩, ⟨by (with_reducible repeat (first | refine blk_drewN ?_ _ | refine blk_drew ?_ | refine blk_alloc ?_ _)); exact BK101.out⟩, ⟨by repeat (first | (with_reducible first | exact HB.out | apply below_alloc | apply pw_below_drewN | apply below_drew1 | refine below_set ?_ GE101.out | refine below_set ?_ GE104.out) | exact HB.out)⟩⟩
            rw [if_pos c23] at H
            have c23b0 : decide (1 < x8_9) = true := decide_eq_true c23
            clear c23
            by_cases c24 : x3_2.length < 8796093022208
            rotate_left
            · rw [if_neg c24] at H
              exact absurd H (by simp)
            rw [if_pos c24] at H
            have LMc24 := Aside0.mk c24
            clear c24
            obtain ⟨y108, hy108⟩ : ∃ y_ : List (S41), y_ = (x3_2 ++ [(⟨x12_1, x19_2⟩ : S41)]) := ⟨_, rfl⟩
            replace H : (tables_Clashes.l1 kj9 y108 x12_1 l0_4 (l0_4.length : Int) x12_1 (rd_L7 l0_4 x12_1) ((rd_L7 l0_4 x12_1).length : Int) (wrap64 (x19_2 + 1))) = some r := by first | (rw [hy108]; with_reducible exact H) | (have H2_ := (Option.bind_some _ _).symm.trans H; rw [hy108]; with_reducible exact H2_) | (have H2_ := (Option.bind_some _ _).symm.trans H; with_reducible exact H2_) | with_reducible exact H | (rw [hy108]; exact H) | exact H
            have Ny108 := Aside0.mk hy108
            clear hy108
            as_aux_lemma =>
             have H' := Aside0.mk H
             clear H
             have hnb25 := NB104_101.out
             have hnc25 := NB101_104.out
             have hcz26_0 : wc.cell? ⟨gb104, 0, none⟩ = some (.int .i64 ((rd_T46 (rd_L7 l0_4 x12_1) x19_2).f0)) := (blk_cell BK104.out 0).trans rfl
             have hcz26_1 : wc.cell? ⟨gb104, 1, none⟩ = some (.slice A103_1 ((rd_T46 (rd_L7 l0_4 x12_1) x19_2).f1).length c103_1) := (blk_cell BK104.out 1).trans rfl
             have hcz26_2 : wc.cell? ⟨gb104, 2, none⟩ = some (.bool ((rd_T46 (rd_L7 l0_4 x12_1) x19_2).f2)) := (blk_cell BK104.out 2).trans rfl
             have hfz26_0 := blk_frozen BK104.out 0
             have hfz26_1 := blk_frozen BK104.out 1
             have hfz26_2 := blk_frozen BK104.out 2
             go_wp2_with (first | ((with_reducible refine gate_builtin (b := .append) (xs := #[.tmp 38, .tmp 42]) rfl ?_); at_builtin; refine Kd.R_append k41 (w0 := w) w.heap.size rfl (.tmp 38) (.tmp 42) 38 41 (.agg #[(.int .i64 0), (.int .i64 0)]) 16 rfl Tryd.underlying38 info41 rfl (by decide) (by omega) u3 x3_2 (⟨x12_1, x19_2⟩ : S41) [.int .i64 x12_1, .int .i64 x19_2] (fun _ => True) (fun _ => False) rfl rfl ?aP (fun _ hk => hk.elim) ?aF ?aO ?aB ?aS ?aL ?_; (case aP => exact k41_mkM _ _ _ (⟨x12_1, x19_2⟩ : S41)); (case aB => exact (by repeat (first | (with_reducible first | exact HB.out | apply below_alloc | apply pw_below_drewN | apply below_drew1 | refine below_set ?_ GE101.out | refine below_set ?_ GE104.out) | exact HB.out))); (case aF => exact (fun _ _ => trivial)); (case aO => exact (by (with_reducible repeat (first | apply Kd.R_alloc | apply Kd.R_drewN | apply Kd.R_drew)); exact HO_3.out)); (case aS => exact (below_size (by repeat (first | (with_reducible first | exact HB.out | apply below_alloc | apply pw_below_drewN | apply below_drew1 | refine below_set ?_ GE101.out | refine below_set ?_ GE104.out) | exact HB.out)))); (case aL => have := LMc24.out; omega); intro v109 w27 ho hb hg hat; rw [← Ny108.out] at ho; have n0_ := Aside0.mk (blk_grown (g := gb101) (o := .cells #[.int .i64 a0_0, .int .i64 a0_1, .int .i64 a0_2, .slice A0_3 l0_3.length c0_3, .slice (some ad102) l0_4.length c0_4, .slice A0_5 l0_5.length c0_5] 30 (0, 0)) (by (with_reducible repeat (first | refine blk_drewN ?_ _ | refine blk_drew ?_ | refine blk_alloc ?_ _)); exact BK101.out) hg (Kd.R_ne HO_3.out BK101.out (by decide))); have n1_ := Aside0.mk (blk_grown (g := gb104) (o := .cells #[.int .i64 ((rd_T46 (rd_L7 l0_4 x12_1) x19_2).f0), .slice A103_1 ((rd_T46 (rd_L7 l0_4 x12_1) x19_2).f1).length c103_1, .bool ((rd_T46 (rd_L7 l0_4 x12_1) x19_2).f2)] 46 (0, 0)) (by (with_reducible repeat (first | refine blk_drewN ?_ _ | refine blk_drew ?_ | refine blk_alloc ?_ _)); exact BK104.out) hg (Kd.R_ne HO_3.out BK104.out (by decide))); have n2_ := Aside0.mk (hb); have n3_ := Aside0.mk (ho); clear BK101; clear BK104; clear HB; clear HO_3; have BK101 := n0_; have BK104 := n1_; have HB := n2_; have HO110 := n3_; clear n0_ n1_ n2_ n3_; clear ho hb hg hat))
             go_roundg kj9
             case measure => have := HK1.out; have := HK2.out; have := HJ9.out; omega
             case rel => exact ⟨(y108), (wrap64 (x19_2 + 1)), (by first | rfl | (simp; done) | (simp [*]; done)), H', ⟨by have := HK1.out; have := HK2.out; have := HJ9.out; omega⟩, ⟨by (with_reducible repeat (first | apply Kd.R_alloc | apply Kd.R_drewN | apply Kd.R_drew)); exact HO110.out⟩, ⟨by (with_reducible repeat (first | refine blk_drewN ?_ _ | refine blk_drew ?_ | refine blk_alloc ?_ _)); exact BK101.out⟩, ⟨by repeat (first | (with_reducible first | exact HB.out | apply below_alloc | apply pw_below_drewN | apply below_drew1 | refine below_set ?_ GE101.out | refine below_set ?_ GE104.out) | exact HB.out)⟩⟩
          rw [if_pos c15] at H
          have c15b0 : ((rd_T46 (rd_L7 l0_4 x12_1) x19_2).f2) = true := c15
          clear c15
          by_cases c16 : (wrap64 (x8_9 + 1)) > 1
          rotate_left
          · rw [if_neg c16] at H
            have c16b0 : decide (1 < (wrap64 (x8_9 + 1))) = false := decide_eq_false c16
            clear c16
            as_aux_lemma =>
             have H' := Aside0.mk H
             clear H
             have hnb21 := NB104_101.out
             have hnc21 := NB101_104.out
             have hcz22_0 : wc.cell? ⟨gb104, 0, none⟩ = some (.int .i64 ((rd_T46 (rd_L7 l0_4 x12_1) x19_2).f0)) := (blk_cell BK104.out 0).trans rfl
             have hcz22_1 : wc.cell? ⟨gb104, 1, none⟩ = some (.slice A103_1 ((rd_T46 (rd_L7 l0_4 x12_1) x19_2).f1).length c103_1) := (blk_cell BK104.out 1).trans rfl
             have hcz22_2 : wc.cell? ⟨gb104, 2, none⟩ = some (.bool ((rd_T46 (rd_L7 l0_4 x12_1) x19_2).f2)) := (blk_cell BK104.out 2).trans rfl
             have hfz22_0 := blk_frozen BK104.out 0
             have hfz22_1 := blk_frozen BK104.out 1
             have hfz22_2 := blk_frozen BK104.out 2
             go_wp2
             go_roundg kj9
             case measure => have := HK1.out; have := HK2.out; have := HJ9.out; omega
             case rel => exact ⟨(x3_2), (wrap64 (x19_2 + 1)), (by first | rfl | (simp; done) | (simp [*]; done)), H', ⟨by have := HK1.out; have := HK2.out; have := HJ9.out; omega⟩, ⟨by (with_reducible repeat (first | apply Kd.R_alloc | apply Kd.R_drewN | apply Kd.R_drew)); exact HO_3.out⟩, ⟨by (with_reducible repeat (first | refine blk_drewN ?_ _ | refine blk_drew ?_ | refine blk_alloc ?_ _)); exact BK101.out⟩, ⟨by repeat (first | (with_reducible first | exact HB.out | apply below_alloc | apply pw_below_drewN | apply below_drew1 | refine below_set ?_ GE101.out | refine below_set ?_ GE104.out) | exact HB.out)⟩⟩
          rw [if_pos c16] at H
          have c16b0 : decide (1 < (wrap64 (x8_9 + 1))) = true := decide_eq_true c16
          clear c16
          by_cases c17 : x3_2.length < 8796093022208
          rotate_left
          · rw [if_neg c17] at H
            exact absurd H (by simp)
          rw [if_pos c17] at H
          have LMc17 := Aside0.mk c17
          clear c17
          obtain ⟨y105, hy105⟩ : ∃ y_ : List (S41), y_ = (x3_2 ++ [(⟨x12_1, x19_2⟩ : S41)]) := ⟨_, rfl⟩
          replace H : (tables_Clashes.l1 kj9 y105 x12_1 l0_4 (l0_4.length : Int) x12_1 (rd_L7 l0_4 x12_1) ((rd_L7 l0_4 x12_1).length : Int) (wrap64 (x19_2 + 1))) = some r := by first | (rw [hy105]; with_reducible exact H) | (have H2_ := (Option.bind_some _ _).symm.trans H; rw [hy105]; with_reducible exact H2_) | (have H2_ := (Option.bind_some _ _).symm.trans H; with_reducible exact H2_) | with_reducible exact H | (rw [hy105]; exact H) | exact H
          have Ny105 := Aside0.mk hy105
          clear hy105
          as_aux_lemma =>
           have H' := Aside0.mk H
           clear H
           have hnb18 := NB104_101.out
           have hnc18 := NB101_104.out
           have hcz19_0 : wc.cell? ⟨gb104, 0, none⟩ = some (.int .i64 ((rd_T46 (rd_L7 l0_4 x12_1) x19_2).f0)) := (blk_cell BK104.out 0).trans rfl
           have hcz19_1 : wc.cell? ⟨gb104, 1, none⟩ = some (.slice A103_1 ((rd_T46 (rd_L7 l0_4 x12_1) x19_2).f1).length c103_1) := (blk_cell BK104.out 1).trans rfl
           have hcz19_2 : wc.cell? ⟨gb104, 2, none⟩ = some (.bool ((rd_T46 (rd_L7 l0_4 x12_1) x19_2).f2)) := (blk_cell BK104.out 2).trans rfl
           have hfz19_0 := blk_frozen BK104.out 0
           have hfz19_1 := blk_frozen BK104.out 1
           have hfz19_2 := blk_frozen BK104.out 2
           go_wp2_with (first | ((with_reducible refine gate_builtin (b := .append) (xs := #[.tmp 38, .tmp 42]) rfl ?_); at_builtin; refine Kd.R_append k41 (w0 := w) w.heap.size rfl (.tmp 38) (.tmp 42) 38 41 (.agg #[(.int .i64 0), (.int .i64 0)]) 16 rfl Tryd.underlying38 info41 rfl (by decide) (by omega) u3 x3_2 (⟨x12_1, x19_2⟩ : S41) [.int .i64 x12_1, .int .i64 x19_2] (fun _ => True) (fun _ => False) rfl rfl ?aP (fun _ hk => hk.elim) ?aF ?aO ?aB ?aS ?aL ?_; (case aP => exact k41_mkM _ _ _ (⟨x12_1, x19_2⟩ : S41)); (case aB => exact (by repeat (first | (with_reducible first | exact HB.out | apply below_alloc | apply pw_below_drewN | apply below_drew1 | refine below_set ?_ GE101.out | refine below_set ?_ GE104.out) | exact HB.out))); (case aF => exact (fun _ _ => trivial)); (case aO => exact (by (with_reducible repeat (first | apply Kd.R_alloc | apply Kd.R_drewN | apply Kd.R_drew)); exact HO_3.out)); (case aS => exact (below_size (by repeat (first | (with_reducible first | exact HB.out | apply below_alloc | apply pw_below_drewN | apply below_drew1 | refine below_set ?_ GE101.out | refine below_set ?_ GE104.out) | exact HB.out)))); (case aL => have := LMc17.out; omega); intro v106 w20 ho hb hg hat; rw [← Ny105.out] at ho; have n0_ := Aside0.mk (blk_grown (g := gb101) (o := .cells #[.int .i64 a0_0, .int .i64 a0_1, .int .i64 a0_2, .slice A0_3 l0_3.length c0_3, .slice (some ad102) l0_4.length c0_4, .slice A0_5 l0_5.length c0_5] 30 (0, 0)) (by (with_reducible repeat (first | refine blk_drewN ?_ _ | refine blk_drew ?_ | refine blk_alloc ?_ _)); exact BK101.out) hg (Kd.R_ne HO_3.out BK101.out (by decide))); have n1_ := Aside0.mk (blk_grown (g := gb104) (o := .cells #[.int .i64 ((rd_T46 (rd_L7 l0_4 x12_1) x19_2).f0), .slice A103_1 ((rd_T46 (rd_L7 l0_4 x12_1) x19_2).f1).length c103_1, .bool ((rd_T46 (rd_L7 l0_4 x12_1) x19_2).f2)] 46 (0, 0)) (by (with_reducible repeat (first | refine blk_drewN ?_ _ | refine blk_drew ?_ | refine blk_alloc ?_ _)); exact BK104.out) hg (Kd.R_ne HO_3.out BK104.out (by decide))); have n2_ := Aside0.mk (hb); have n3_ := Aside0.mk (ho); clear BK101; clear BK104; clear HB; clear HO_3; have BK101 := n0_; have BK104 := n1_; have HB := n2_; have HO107 := n3_; clear n0_ n1_ n2_ n3_; clear ho hb hg hat))
           go_roundg kj9
           case measure => have := HK1.out; have := HK2.out; have := HJ9.out; omega
           case rel => exact ⟨(y105), (wrap64 (x19_2 + 1)), (by first | rfl | (simp; done) | (simp [*]; done)), H', ⟨by have := HK1.out; have := HK2.out; have := HJ9.out; omega⟩, ⟨by (with_reducible repeat (first | apply Kd.R_alloc | apply Kd.R_drewN | apply Kd.R_drew)); exact HO107.out⟩, ⟨by (with_reducible repeat (first | refine blk_drewN ?_ _ | refine blk_drew ?_ | refine blk_alloc ?_ _)); exact BK101.out⟩, ⟨by repeat (first | (with_reducible first | exact HB.out | apply below_alloc | apply pw_below_drewN | apply below_drew1 | refine below_set ?_ GE101.out | refine below_set ?_ GE104.out) | exact HB.out)⟩⟩
noncomputable def rootstocklaw14_SameInts.l0 : Nat → List Int → List Int → Int → Option (Bool)
  | 0, _, _, _ => none
  | k + 1, x0, x1, x5 => if x5 < (x0.length : Int) then (if 0 ≤ x5 then (if x5 < (x1.length : Int) then (if (rd x0 x5) = (rd x1 x5) then (rootstocklaw14_SameInts.l0 k x0 x1 (wrap64 (x5 + 1))) else (some false)) else (none)) else (none)) else (some true)
noncomputable def rootstocklaw14_SameInts.f (k : Nat) (l0 : List Int) (l1 : List Int) : Option (Bool) := if (l0.length : Int) = (l1.length : Int) then (rootstocklaw14_SameInts.l0 k l0 l1 0) else (some false)
set_option maxHeartbeats 8000000 in
set_option maxRecDepth 100000 in
theorem rootstocklaw14_SameInts.calls (k : Nat) (A0 : Option Addr) (c0 : Nat) (l0 : List Int) (A1 : Option Addr) (c1 : Nat) (l1 : List Int) (r : Bool) (w : World) (hr0 : Kd.C (Kd.int .i64) w A0 l0.length l0) (hc0 : l0.length ≤ c0) (hr1 : Kd.C (Kd.int .i64) w A1 l1.length l1) (hc1 : l1.length ≤ c1) (h : rootstocklaw14_SameInts.f k l0 l1 = some r) :
    Calls Tryd.prog 37 #[.slice A0 l0.length c0, .slice A1 l1.length c1] w fun e w' => e = .returned (.bool r) ∧ Drawn0 w w' := by
 have HR0 := Aside0.mk hr0
 have HC0 := Aside0.mk hc0
 clear hr0 hc0
 have HR1 := Aside0.mk hr1
 have HC1 := Aside0.mk hc1
 clear hr1 hc1
 have H : (if (l0.length : Int) = (l1.length : Int) then (rootstocklaw14_SameInts.l0 k l0 l1 0) else (some false)) = some r := h
 clear h
 by_cases c3 : (l0.length : Int) = (l1.length : Int)
 rotate_left
 · rw [if_neg c3] at H
   have c3b0 : ((l0.length : Int) == (l1.length : Int)) = false := beq_eq_false_iff_ne.mpr c3
   have c3b1 : ((l0.length : Int) != (l1.length : Int)) = true := bne_iff_ne.mpr c3
   have c3b2 : (l0.length == l1.length) = false := by first | simpa using c3 | (simp at c3 ⊢; omega)
   as_aux_lemma =>
    obtain rfl := Option.some.inj H
    go_enter Tryd.func37, Tryd.ntmps37
    go_wp2
    repeat (go_quiet (fail); try go_wp2)
    go_ret
    exact ⟨by first | rfl | (simp; done) | (simp [*]; done), by repeat (first | exact Drawn0.refl _ | apply Drawn0.step)⟩
 rw [if_pos c3] at H
 have c3b0 : ((l0.length : Int) == (l1.length : Int)) = true := beq_iff_eq.mpr c3
 have c3b1 : ((l0.length : Int) != (l1.length : Int)) = false := bne_eq_false_iff_eq.mpr c3
 have c3b2 : (l0.length == l1.length) = true := by first | simpa using c3 | (simp at c3 ⊢; omega)
 clear c3
 have H' := Aside0.mk H
 clear H
 go_enter Tryd.func37, Tryd.ntmps37
 go_wp2
 repeat (go_quiet (fail); try go_wp2)
 go_loopg [5] k (fun kq v5 w' => ∃ (x5_1 : Int), v5 = .int .i64 x5_1 ∧ Aside0 (rootstocklaw14_SameInts.l0 kq l0 l1 x5_1 = some r) ∧ Aside0 (kq ≤ k) ∧ Drawn0 w w')
 case atStart => exact ⟨(0), (by first | rfl | (simp; done) | (simp [*]; done)), H', ⟨Nat.le_refl _⟩, by repeat (first | exact Drawn0.refl _ | apply Drawn0.step)⟩
 case round =>
  clear H'
  try clear c1
  try clear p2
  try clear c3
  try clear c3b0
  try clear c3b1
  try clear c3b2
  obtain ⟨x5_1, rfl, HA, HK1, ⟨m1, rfl⟩⟩ := hrel
  cases gk with
  | zero => exact absurd HA.out (by simp [rootstocklaw14_SameInts.l0])
  | succ k1 =>
   have H := HA.out
   clear HA
   simp only [rootstocklaw14_SameInts.l0] at H
   by_cases c4 : x5_1 < (l0.length : Int)
   rotate_left
   · rw [if_neg c4] at H
     have c4b0 : decide (x5_1 < (l0.length : Int)) = false := decide_eq_false c4
     clear c4
     as_aux_lemma =>
      obtain rfl := Option.some.inj H
      go_wp2
      repeat (go_quiet (fail); try go_wp2)
      go_ret
      exact ⟨by first | rfl | (simp; done) | (simp [*]; done), by repeat (first | exact Drawn0.refl _ | apply Drawn0.step)⟩
   rw [if_pos c4] at H
   have c4b0 : decide (x5_1 < (l0.length : Int)) = true := decide_eq_true c4
   clear c4
   by_cases c5 : 0 ≤ x5_1
   rotate_left
   · rw [if_neg c5] at H
     exact absurd H (by simp)
   rw [if_pos c5] at H
   have c5b0 : decide (0 ≤ x5_1) = true := decide_eq_true c5
   clear c5
   by_cases c6 : x5_1 < (l1.length : Int)
   rotate_left
   · rw [if_neg c6] at H
     exact absurd H (by simp)
   rw [if_pos c6] at H
   have c6b0 : decide (x5_1 < (l1.length : Int)) = true := decide_eq_true c6
   clear c6
   by_cases c7 : (rd l0 x5_1) = (rd l1 x5_1)
   rotate_left
   · rw [if_neg c7] at H
     have c7b0 : ((rd l0 x5_1) == (rd l1 x5_1)) = false := beq_eq_false_iff_ne.mpr c7
     have c7b1 : ((rd l0 x5_1) != (rd l1 x5_1)) = true := bne_iff_ne.mpr c7
     as_aux_lemma =>
      obtain rfl := Option.some.inj H
      have p111 : 0 ≤ (x5_1 : Int) := of_decide_eq_true (by first | (with_reducible assumption) | assumption)
      have q111 : x5_1 < (l0.length : Int) := of_decide_eq_true (by first | (with_reducible assumption) | assumption)
      obtain ⟨ad111, e111, hx111_0⟩ := Kd.at_int HR0.out x5_1 p111 q111
      cases e111
      replace p111 := eq_true p111
      replace q111 := eq_true q111
      have p112 : 0 ≤ (x5_1 : Int) := of_decide_eq_true (by first | (with_reducible assumption) | assumption)
      have q112 : x5_1 < (l1.length : Int) := of_decide_eq_true (by first | (with_reducible assumption) | assumption)
      obtain ⟨ad112, e112, hx112_0⟩ := Kd.at_int HR1.out x5_1 p112 q112
      cases e112
      replace p112 := eq_true p112
      replace q112 := eq_true q112
      go_wp2
      repeat (go_quiet (fail); try go_wp2)
      go_ret
      exact ⟨by first | rfl | (simp; done) | (simp [*]; done), by repeat (first | exact Drawn0.refl _ | apply Drawn0.step)⟩
   rw [if_pos c7] at H
   have c7b0 : ((rd l0 x5_1) == (rd l1 x5_1)) = true := beq_iff_eq.mpr c7
   have c7b1 : ((rd l0 x5_1) != (rd l1 x5_1)) = false := bne_eq_false_iff_eq.mpr c7
   clear c7
   as_aux_lemma =>
    have H' := Aside0.mk H
    clear H
    have p111 : 0 ≤ (x5_1 : Int) := of_decide_eq_true (by first | (with_reducible assumption) | assumption)
    have q111 : x5_1 < (l0.length : Int) := of_decide_eq_true (by first | (with_reducible assumption) | assumption)
    obtain ⟨ad111, e111, hx111_0⟩ := Kd.at_int HR0.out x5_1 p111 q111
    cases e111
    replace p111 := eq_true p111
    replace q111 := eq_true q111
    have p112 : 0 ≤ (x5_1 : Int) := of_decide_eq_true (by first | (with_reducible assumption) | assumption)
    have q112 : x5_1 < (l1.length : Int) := of_decide_eq_true (by first | (with_reducible assumption) | assumption)
    obtain ⟨ad112, e112, hx112_0⟩ := Kd.at_int HR1.out x5_1 p112 q112
    cases e112
    replace p112 := eq_true p112
    replace q112 := eq_true q112
    go_wp2
    repeat (go_quiet (fail); try go_wp2)
    go_roundg k1
    case measure => have := HK1.out; omega
    case rel => exact ⟨(wrap64 (x5_1 + 1)), (by first | rfl | (simp; done) | (simp [*]; done)), H', ⟨by have := HK1.out; omega⟩, by repeat (first | exact Drawn0.refl _ | apply Drawn0.step)⟩
noncomputable def rootstocklaw17_SameAction.f (k : Nat) (a0_0 : Int) (l0_1 : List Int) (a0_2 : Bool) (a1_0 : Int) (l1_1 : List Int) (a1_2 : Bool) : Option (Bool) := if a0_0 = a1_0 then (if (a0_2 == a1_2) = true then ((rootstocklaw14_SameInts.f k l0_1 l1_1).bind fun t115 => (some t115)) else (some false)) else (some false)
set_option maxHeartbeats 8000000 in
set_option maxRecDepth 100000 in
theorem rootstocklaw17_SameAction.calls (k : Nat) (a0_0 : Int) (A0_1 : Option Addr) (c0_1 : Nat) (l0_1 : List Int) (a0_2 : Bool) (a1_0 : Int) (A1_1 : Option Addr) (c1_1 : Nat) (l1_1 : List Int) (a1_2 : Bool) (r : Bool) (w : World) (hr0_1 : Kd.C (Kd.int .i64) w A0_1 l0_1.length l0_1) (hc0_1 : l0_1.length ≤ c0_1) (hr1_1 : Kd.C (Kd.int .i64) w A1_1 l1_1.length l1_1) (hc1_1 : l1_1.length ≤ c1_1) (h : rootstocklaw17_SameAction.f k a0_0 l0_1 a0_2 a1_0 l1_1 a1_2 = some r) :
    Calls Tryd.prog 26 #[.agg #[.int .i64 a0_0, .slice A0_1 l0_1.length c0_1, .bool a0_2], .agg #[.int .i64 a1_0, .slice A1_1 l1_1.length c1_1, .bool a1_2]] w fun e w' => e = .returned (.bool r) ∧ Below w.heap.size w w' := by
 have hu46 := Tryd.underlying46
 have HR0_1 := Aside0.mk hr0_1
 have HC0_1 := Aside0.mk hc0_1
 clear hr0_1 hc0_1
 have HR1_1 := Aside0.mk hr1_1
 have HC1_1 := Aside0.mk hc1_1
 clear hr1_1 hc1_1
 have HB := Aside0.mk (Below.refl w.heap.size w)
 have H : (if a0_0 = a1_0 then (if (a0_2 == a1_2) = true then ((rootstocklaw14_SameInts.f k l0_1 l1_1).bind fun t115 => (some t115)) else (some false)) else (some false)) = some r := h
 clear h
 by_cases c3 : a0_0 = a1_0
 rotate_left
 · rw [if_neg c3] at H
   have c3b0 : (a0_0 == a1_0) = false := beq_eq_false_iff_ne.mpr c3
   have c3b1 : (a0_0 != a1_0) = true := bne_iff_ne.mpr c3
   as_aux_lemma =>
    obtain rfl := Option.some.inj H
    go_enter Tryd.func26, Tryd.ntmps26
    go_wp2_with (first | ((with_reducible refine gate_dst (N := 2) rfl ?_); refine box_event ?hg (N := 2) ?hd (cs := #[.int .i64 a0_0, .slice A0_1 l0_1.length c0_1, .bool a0_2]) (t := 46) ?hr ?_; (case hd => rfl); (case hg => rfl); (case hr => first | (go_simp; done) | (go_simp; rfl)); intro gb113 hg w16 hbox hb; have n0_ := Aside0.mk (below_step (by repeat (first | (with_reducible first | exact HB.out | apply below_alloc | apply pw_below_drewN | apply below_drew1) | exact HB.out)) hb); have n1_ := Aside0.mk (hbox); have n2_ := Aside0.mk ((by rw [hg]; exact (below_size (by repeat (first | (with_reducible first | exact HB.out | apply below_alloc | apply pw_below_drewN | apply below_drew1) | exact HB.out))) : w.heap.size ≤ gb113)); have n3_ := Aside0.mk ((by rw [hg]; exact (below_size (by repeat (first | (with_reducible first | exact HB.out | apply below_alloc | apply pw_below_drewN | apply below_drew1) | exact HB.out))) : w.heap.size ≤ gb113)); clear HB; have HB := n0_; have BK113 := n1_; have GW113 := n2_; have GE113 := n3_; clear n0_ n1_ n2_ n3_; clear hb hbox hg) | ((with_reducible refine gate_dst (N := 3) rfl ?_); refine box_event ?hg (N := 3) ?hd (cs := #[.int .i64 a1_0, .slice A1_1 l1_1.length c1_1, .bool a1_2]) (t := 46) ?hr ?_; (case hd => rfl); (case hg => rfl); (case hr => first | (go_simp; done) | (go_simp; rfl)); intro gb114 hg w17 hbox hb; have n0_ := Aside0.mk (blk_below (g := gb113) (o := .cells #[.int .i64 a0_0, .slice A0_1 l0_1.length c0_1, .bool a0_2] 46 (0, 0)) (by (with_reducible repeat (first | refine blk_drewN ?_ _ | refine blk_drew ?_ | refine blk_alloc ?_ _)); exact BK113.out) hb); have n1_ := Aside0.mk (below_step (by repeat (first | (with_reducible first | exact HB.out | apply below_alloc | apply pw_below_drewN | apply below_drew1 | refine below_set ?_ GE113.out) | exact HB.out)) hb); have n2_ := Aside0.mk (hbox); have n3_ := Aside0.mk ((by rw [hg]; exact (below_size (by repeat (first | (with_reducible first | exact HB.out | apply below_alloc | apply pw_below_drewN | apply below_drew1 | refine below_set ?_ GE113.out) | exact HB.out))) : w.heap.size ≤ gb114)); have n4_ := Aside0.mk ((by rw [hg]; exact (below_size (by repeat (first | (with_reducible first | exact HB.out | apply below_alloc | apply pw_below_drewN | apply below_drew1 | refine below_set ?_ GE113.out) | exact HB.out))) : w.heap.size ≤ gb114)); have n5_ := Aside0.mk ((by rw [hg]; exact Nat.ne_of_lt (blk_lt (g := gb113) (o := .cells #[.int .i64 a0_0, .slice A0_1 l0_1.length c0_1, .bool a0_2] 46 (0, 0)) (by (with_reducible repeat (first | refine blk_drewN ?_ _ | refine blk_drew ?_ | refine blk_alloc ?_ _)); exact BK113.out)) : gb113 ≠ gb114)); have n6_ := Aside0.mk ((by rw [hg]; exact Nat.ne_of_gt (blk_lt (g := gb113) (o := .cells #[.int .i64 a0_0, .slice A0_1 l0_1.length c0_1, .bool a0_2] 46 (0, 0)) (by (with_reducible repeat (first | refine blk_drewN ?_ _ | refine blk_drew ?_ | refine blk_alloc ?_ _)); exact BK113.out)) : gb114 ≠ gb113)); clear BK113; clear HB; have BK113 := n0_; have HB := n1_; have BK114 := n2_; have GW114 := n3_; have GE114 := n4_; have NB113_114 := n5_; have NB114_113 := n6_; clear n0_ n1_ n2_ n3_ n4_ n5_ n6_; clear hb hbox hg; have hnb18 := NB113_114.out; have hnc18 := NB114_113.out; have hcz19_0 : w17.cell? ⟨gb113, 0, none⟩ = some (.int .i64 a0_0) := (blk_cell BK113.out 0).trans rfl; have hcz19_1 : w17.cell? ⟨gb113, 1, none⟩ = some (.slice A0_1 l0_1.length c0_1) := (blk_cell BK113.out 1).trans rfl; have hcz19_2 : w17.cell? ⟨gb113, 2, none⟩ = some (.bool a0_2) := (blk_cell BK113.out 2).trans rfl; have hfz19_0 := blk_frozen BK113.out 0; have hfz19_1 := blk_frozen BK113.out 1; have hfz19_2 := blk_frozen BK113.out 2; have hcz20_0 : w17.cell? ⟨gb114, 0, none⟩ = some (.int .i64 a1_0) := (blk_cell BK114.out 0).trans rfl; have hcz20_1 : w17.cell? ⟨gb114, 1, none⟩ = some (.slice A1_1 l1_1.length c1_1) := (blk_cell BK114.out 1).trans rfl; have hcz20_2 : w17.cell? ⟨gb114, 2, none⟩ = some (.bool a1_2) := (blk_cell BK114.out 2).trans rfl; have hfz20_0 := blk_frozen BK114.out 0; have hfz20_1 := blk_frozen BK114.out 1; have hfz20_2 := blk_frozen BK114.out 2))
    go_ret
    exact ⟨by first | rfl | (simp [errW_none, errW_some] <;> rfl) | (simp [*, errW_none, errW_some] <;> rfl), by repeat (first | (with_reducible first | exact HB.out | apply below_alloc | apply pw_below_drewN | apply below_drew1 | refine below_set ?_ GE113.out | refine below_set ?_ GE114.out) | exact HB.out)⟩
 rw [if_pos c3] at H
 have c3b0 : (a0_0 == a1_0) = true := beq_iff_eq.mpr c3
 have c3b1 : (a0_0 != a1_0) = false := bne_eq_false_iff_eq.mpr c3
 clear c3
 by_cases c4 : (a0_2 == a1_2) = true
 rotate_left
 · rw [if_neg c4] at H
   have c4b0 : (a0_2 == a1_2) = false := by simpa using c4
   (try (have c4b1 : decide (a0_2 = a1_2) = false := by simpa using c4))
   (try (have c4b2 : (a0_2 == a1_2) = false := by simpa using c4))
   (try (have c4b3 : ¬ (a0_2 = a1_2) := by simpa using c4))
   clear c4
   as_aux_lemma =>
    obtain rfl := Option.some.inj H
    go_enter Tryd.func26, Tryd.ntmps26
    go_wp2_with (first | ((with_reducible refine gate_dst (N := 2) rfl ?_); refine box_event ?hg (N := 2) ?hd (cs := #[.int .i64 a0_0, .slice A0_1 l0_1.length c0_1, .bool a0_2]) (t := 46) ?hr ?_; (case hd => rfl); (case hg => rfl); (case hr => first | (go_simp; done) | (go_simp; rfl)); intro gb113 hg w11 hbox hb; have n0_ := Aside0.mk (below_step (by repeat (first | (with_reducible first | exact HB.out | apply below_alloc | apply pw_below_drewN | apply below_drew1) | exact HB.out)) hb); have n1_ := Aside0.mk (hbox); have n2_ := Aside0.mk ((by rw [hg]; exact (below_size (by repeat (first | (with_reducible first | exact HB.out | apply below_alloc | apply pw_below_drewN | apply below_drew1) | exact HB.out))) : w.heap.size ≤ gb113)); have n3_ := Aside0.mk ((by rw [hg]; exact (below_size (by repeat (first | (with_reducible first | exact HB.out | apply below_alloc | apply pw_below_drewN | apply below_drew1) | exact HB.out))) : w.heap.size ≤ gb113)); clear HB; have HB := n0_; have BK113 := n1_; have GW113 := n2_; have GE113 := n3_; clear n0_ n1_ n2_ n3_; clear hb hbox hg) | ((with_reducible refine gate_dst (N := 3) rfl ?_); refine box_event ?hg (N := 3) ?hd (cs := #[.int .i64 a1_0, .slice A1_1 l1_1.length c1_1, .bool a1_2]) (t := 46) ?hr ?_; (case hd => rfl); (case hg => rfl); (case hr => first | (go_simp; done) | (go_simp; rfl)); intro gb114 hg w12 hbox hb; have n0_ := Aside0.mk (blk_below (g := gb113) (o := .cells #[.int .i64 a0_0, .slice A0_1 l0_1.length c0_1, .bool a0_2] 46 (0, 0)) (by (with_reducible repeat (first | refine blk_drewN ?_ _ | refine blk_drew ?_ | refine blk_alloc ?_ _)); exact BK113.out) hb); have n1_ := Aside0.mk (below_step (by repeat (first | (with_reducible first | exact HB.out | apply below_alloc | apply pw_below_drewN | apply below_drew1 | refine below_set ?_ GE113.out) | exact HB.out)) hb); have n2_ := Aside0.mk (hbox); have n3_ := Aside0.mk ((by rw [hg]; exact (below_size (by repeat (first | (with_reducible first | exact HB.out | apply below_alloc | apply pw_below_drewN | apply below_drew1 | refine below_set ?_ GE113.out) | exact HB.out))) : w.heap.size ≤ gb114)); have n4_ := Aside0.mk ((by rw [hg]; exact (below_size (by repeat (first | (with_reducible first | exact HB.out | apply below_alloc | apply pw_below_drewN | apply below_drew1 | refine below_set ?_ GE113.out) | exact HB.out))) : w.heap.size ≤ gb114)); have n5_ := Aside0.mk ((by rw [hg]; exact Nat.ne_of_lt (blk_lt (g := gb113) (o := .cells #[.int .i64 a0_0, .slice A0_1 l0_1.length c0_1, .bool a0_2] 46 (0, 0)) (by (with_reducible repeat (first | refine blk_drewN ?_ _ | refine blk_drew ?_ | refine blk_alloc ?_ _)); exact BK113.out)) : gb113 ≠ gb114)); have n6_ := Aside0.mk ((by rw [hg]; exact Nat.ne_of_gt (blk_lt (g := gb113) (o := .cells #[.int .i64 a0_0, .slice A0_1 l0_1.length c0_1, .bool a0_2] 46 (0, 0)) (by (with_reducible repeat (first | refine blk_drewN ?_ _ | refine blk_drew ?_ | refine blk_alloc ?_ _)); exact BK113.out)) : gb114 ≠ gb113)); clear BK113; clear HB; have BK113 := n0_; have HB := n1_; have BK114 := n2_; have GW114 := n3_; have GE114 := n4_; have NB113_114 := n5_; have NB114_113 := n6_; clear n0_ n1_ n2_ n3_ n4_ n5_ n6_; clear hb hbox hg; have hnb13 := NB113_114.out; have hnc13 := NB114_113.out; have hcz14_0 : w12.cell? ⟨gb113, 0, none⟩ = some (.int .i64 a0_0) := (blk_cell BK113.out 0).trans rfl; have hcz14_1 : w12.cell? ⟨gb113, 1, none⟩ = some (.slice A0_1 l0_1.length c0_1) := (blk_cell BK113.out 1).trans rfl; have hcz14_2 : w12.cell? ⟨gb113, 2, none⟩ = some (.bool a0_2) := (blk_cell BK113.out 2).trans rfl; have hfz14_0 := blk_frozen BK113.out 0; have hfz14_1 := blk_frozen BK113.out 1; have hfz14_2 := blk_frozen BK113.out 2; have hcz15_0 : w12.cell? ⟨gb114, 0, none⟩ = some (.int .i64 a1_0) := (blk_cell BK114.out 0).trans rfl; have hcz15_1 : w12.cell? ⟨gb114, 1, none⟩ = some (.slice A1_1 l1_1.length c1_1) := (blk_cell BK114.out 1).trans rfl; have hcz15_2 : w12.cell? ⟨gb114, 2, none⟩ = some (.bool a1_2) := (blk_cell BK114.out 2).trans rfl; have hfz15_0 := blk_frozen BK114.out 0; have hfz15_1 := blk_frozen BK114.out 1; have hfz15_2 := blk_frozen BK114.out 2))
    go_ret
    exact ⟨by first | rfl | (simp [errW_none, errW_some] <;> rfl) | (simp [*, errW_none, errW_some] <;> rfl), by repeat (first | (with_reducible first | exact HB.out | apply below_alloc | apply pw_below_drewN | apply below_drew1 | refine below_set ?_ GE113.out | refine below_set ?_ GE114.out) | exact HB.out)⟩
 rw [if_pos c4] at H
 have c4b0 : (a0_2 == a1_2) = true := c4
 (try (have c4b1 : decide (a0_2 = a1_2) = true := by simpa using c4))
 (try (have c4b2 : (a0_2 == a1_2) = true := by simpa using c4))
 clear c4
 replace H := Option.bind_eq_some_iff.mp H
 obtain ⟨t115, A50, H⟩ := H
 replace H : (some t115) = some r := H
 have A5 := Aside0.mk A50
 clear A50
 as_aux_lemma =>
  obtain rfl := Option.some.inj H
  go_enter Tryd.func26, Tryd.ntmps26
  go_wp2_with (first | ((with_reducible refine gate_dst (N := 2) rfl ?_); refine box_event ?hg (N := 2) ?hd (cs := #[.int .i64 a0_0, .slice A0_1 l0_1.length c0_1, .bool a0_2]) (t := 46) ?hr ?_; (case hd => rfl); (case hg => rfl); (case hr => first | (go_simp; done) | (go_simp; rfl)); intro gb113 hg w6 hbox hb; have n0_ := Aside0.mk (below_step (by repeat (first | (with_reducible first | exact HB.out | apply below_alloc | apply pw_below_drewN | apply below_drew1) | exact HB.out)) hb); have n1_ := Aside0.mk (hbox); have n2_ := Aside0.mk ((by rw [hg]; exact (below_size (by repeat (first | (with_reducible first | exact HB.out | apply below_alloc | apply pw_below_drewN | apply below_drew1) | exact HB.out))) : w.heap.size ≤ gb113)); have n3_ := Aside0.mk ((by rw [hg]; exact (below_size (by repeat (first | (with_reducible first | exact HB.out | apply below_alloc | apply pw_below_drewN | apply below_drew1) | exact HB.out))) : w.heap.size ≤ gb113)); clear HB; have HB := n0_; have BK113 := n1_; have GW113 := n2_; have GE113 := n3_; clear n0_ n1_ n2_ n3_; clear hb hbox hg) | ((with_reducible refine gate_dst (N := 3) rfl ?_); refine box_event ?hg (N := 3) ?hd (cs := #[.int .i64 a1_0, .slice A1_1 l1_1.length c1_1, .bool a1_2]) (t := 46) ?hr ?_; (case hd => rfl); (case hg => rfl); (case hr => first | (go_simp; done) | (go_simp; rfl)); intro gb114 hg w7 hbox hb; have n0_ := Aside0.mk (blk_below (g := gb113) (o := .cells #[.int .i64 a0_0, .slice A0_1 l0_1.length c0_1, .bool a0_2] 46 (0, 0)) (by (with_reducible repeat (first | refine blk_drewN ?_ _ | refine blk_drew ?_ | refine blk_alloc ?_ _)); exact BK113.out) hb); have n1_ := Aside0.mk (below_step (by repeat (first | (with_reducible first | exact HB.out | apply below_alloc | apply pw_below_drewN | apply below_drew1 | refine below_set ?_ GE113.out) | exact HB.out)) hb); have n2_ := Aside0.mk (hbox); have n3_ := Aside0.mk ((by rw [hg]; exact (below_size (by repeat (first | (with_reducible first | exact HB.out | apply below_alloc | apply pw_below_drewN | apply below_drew1 | refine below_set ?_ GE113.out) | exact HB.out))) : w.heap.size ≤ gb114)); have n4_ := Aside0.mk ((by rw [hg]; exact (below_size (by repeat (first | (with_reducible first | exact HB.out | apply below_alloc | apply pw_below_drewN | apply below_drew1 | refine below_set ?_ GE113.out) | exact HB.out))) : w.heap.size ≤ gb114)); have n5_ := Aside0.mk ((by rw [hg]; exact Nat.ne_of_lt (blk_lt (g := gb113) (o := .cells #[.int .i64 a0_0, .slice A0_1 l0_1.length c0_1, .bool a0_2] 46 (0, 0)) (by (with_reducible repeat (first | refine blk_drewN ?_ _ | refine blk_drew ?_ | refine blk_alloc ?_ _)); exact BK113.out)) : gb113 ≠ gb114)); have n6_ := Aside0.mk ((by rw [hg]; exact Nat.ne_of_gt (blk_lt (g := gb113) (o := .cells #[.int .i64 a0_0, .slice A0_1 l0_1.length c0_1, .bool a0_2] 46 (0, 0)) (by (with_reducible repeat (first | refine blk_drewN ?_ _ | refine blk_drew ?_ | refine blk_alloc ?_ _)); exact BK113.out)) : gb114 ≠ gb113)); clear BK113; clear HB; have BK113 := n0_; have HB := n1_; have BK114 := n2_; have GW114 := n3_; have GE114 := n4_; have NB113_114 := n5_; have NB114_113 := n6_; clear n0_ n1_ n2_ n3_ n4_ n5_ n6_; clear hb hbox hg; have hnb8 := NB113_114.out; have hnc8 := NB114_113.out; have hcz9_0 : w7.cell? ⟨gb113, 0, none⟩ = some (.int .i64 a0_0) := (blk_cell BK113.out 0).trans rfl; have hcz9_1 : w7.cell? ⟨gb113, 1, none⟩ = some (.slice A0_1 l0_1.length c0_1) := (blk_cell BK113.out 1).trans rfl; have hcz9_2 : w7.cell? ⟨gb113, 2, none⟩ = some (.bool a0_2) := (blk_cell BK113.out 2).trans rfl; have hfz9_0 := blk_frozen BK113.out 0; have hfz9_1 := blk_frozen BK113.out 1; have hfz9_2 := blk_frozen BK113.out 2; have hcz10_0 : w7.cell? ⟨gb114, 0, none⟩ = some (.int .i64 a1_0) := (blk_cell BK114.out 0).trans rfl; have hcz10_1 : w7.cell? ⟨gb114, 1, none⟩ = some (.slice A1_1 l1_1.length c1_1) := (blk_cell BK114.out 1).trans rfl; have hcz10_2 : w7.cell? ⟨gb114, 2, none⟩ = some (.bool a1_2) := (blk_cell BK114.out 2).trans rfl; have hfz10_0 := blk_frozen BK114.out 0; have hfz10_1 := blk_frozen BK114.out 1; have hfz10_2 := blk_frozen BK114.out 2) | (go_at_call 37; (with_reducible refine (rootstocklaw14_SameInts.calls k _ _ l0_1 _ _ l1_1 t115 _ ?side1 ?side2 ?side3 ?side4 A5.out).mono ?_); (case side1 => repeat (first | exact (Kd.C_below HR0_1.out HB.out) | (with_reducible refine Kd.C_alloc ?_ _) | (with_reducible refine Kd.C_drewN ?_ _) | (with_reducible refine Kd.C_drew ?_))); (case side2 => exact HC0_1.out); (case side3 => repeat (first | exact (Kd.C_below HR1_1.out HB.out) | (with_reducible refine Kd.C_alloc ?_ _) | (with_reducible refine Kd.C_drewN ?_ _) | (with_reducible refine Kd.C_drew ?_))); (case side4 => exact HC1_1.out); rintro e w' ⟨rfl, ⟨nd, rfl⟩⟩))
  go_ret
  exact ⟨by first | rfl | (simp [errW_none, errW_some] <;> rfl) | (simp [*, errW_none, errW_some] <;> rfl), by repeat (first | (with_reducible first | exact HB.out | apply below_alloc | apply pw_below_drewN | apply below_drew1 | refine below_set ?_ GE113.out | refine below_set ?_ GE114.out) | exact HB.out)⟩
end Go.Proofs.YtaooejidkeojjaaDoor.PLi
namespace Go.Proofs.YtaooejidkeojjaaDoor.PLi
open Go.RowKit Go.Proofs.YtaooejidkeojjaaDoorW.PrintWords Go.Proofs.YtaooejidkeojjaaDoorW.PrintLast Go.Proofs.YtaooejidkeojjaaDoorW.PrintMore
set_option linter.unusedVariables false
set_option linter.unusedSimpArgs false
set_option maxRecDepth 100000
def sumsL : List S49 := [⟨2, [2, 1, 2], false⟩, ⟨2, [0], false⟩]
def acOf (x : Int × List Int × Bool) : S46 := ⟨x.1, x.2.1, x.2.2⟩
def sumsA : List (List S46) := [[⟨1, [], false⟩, ⟨-1, [], false⟩, ⟨-1, [], false⟩], [⟨-1, [], false⟩, ⟨-1, [1], false⟩, ⟨-1, [1], false⟩], [⟨-1, [], false⟩, ⟨3, [], false⟩, ⟨-1, [], true⟩], [⟨1, [], false⟩, ⟨-1, [], false⟩, ⟨-1, [], false⟩], [⟨-1, [], false⟩, ⟨3, [0], false⟩, ⟨-1, [0], false⟩]]
def sumsT : List (List Int) := [[1, -1, 2], [-1, -1, -1], [-1, 3, -1], [1, -1, 4], [-1, 3, -1]]
theorem sums_of : tables_Of.f 2 3 2 sumsL = some (2, 3, 2, sumsL, sumsA, sumsT, 0) := by
  have e : toGr 2 3 2 sumsL = H.sumsG := rfl
  unfold tables_Of.f tabP
  rw [e, if_neg (by rw [H.sums_check]; simp), if_neg (by rw [H.sums_full]; exact Bool.false_ne_true), H.sums_led]
  have h : (H.statesM H.sumsG).sts.map (fun s => (H.actsM H.sumsG (H.firstEnd H.sumsG) s).map unAc) = sumsA := by
    have h1 := congrArg (List.map (List.map acOf)) H.sums_acts
    rw [List.map_map] at h1
    have e2 : (List.map acOf ∘ fun s => (H.actsM H.sumsG (H.firstEnd H.sumsG) s).map fun a => (a.sh, a.rd, a.ac)) = fun s => (H.actsM H.sumsG (H.firstEnd H.sumsG) s).map unAc := by
      funext s
      simp only [Function.comp, List.map_map]
      rfl
    rw [e2] at h1
    exact h1
  rw [h]
  rfl
theorem sums_clash : ∃ k, tables_Clashes.f k 2 3 2 sumsL sumsA sumsT = some [⟨4, 1⟩] := ⟨60, by kernel_rfl⟩
theorem sums_same : ∃ k, rootstocklaw17_SameAction.f k 3 [0] false 3 [0] false = some true := ⟨20, by kernel_rfl⟩
section
variable {α : Type} {d : Kd α} {t e g n c b : Nat} {W : World} {ok : Nat → Prop} {v : Value}
theorem own_head {xs : List α} (h : d.R e W b ok v xs) (hn : 0 < xs.length) : ∃ g c, v = .slice (some ⟨g, 0, none⟩) xs.length c ∧ g < W.heap.size := by
  obtain ⟨g, c, e, _, hl, _⟩ := Kd.R_form h hn
  exact ⟨g, c, e, hl⟩
theorem own_in {xs : List (List α)} (h : Kd.R (Kd.slice t d) e W b ok (.slice (some ⟨g, 0, none⟩) n c) xs) (i : Nat) (hi : i < n) : ∃ v ok', W.cell? ⟨g, i, none⟩ = some v ∧ d.R t W b ok' v (xs.getD i []) := by
  obtain ⟨cs, _, ⟨v, rfl, hR⟩, hc⟩ := Kd.R_getA h ([] : List α) (i : Int) (by omega) (by omega)
  refine ⟨v, _, ?_, hR⟩
  have h0 := hc 0 v rfl
  have es : (Kd.slice t d).sz = 1 := rfl
  rw [es, Nat.mul_one, Nat.add_zero, add_at, Nat.zero_add] at h0
  exact h0
theorem act_in {xs : List S46} (h : Kd.R k46 46 W b ok (.slice (some ⟨g, 0, none⟩) n c) xs) (i : Nat) (hi : i < n) : ∃ v ok', W.cell? ⟨g, i * 3, none⟩ = some (.int .i64 (xs.getD i z46).f0) ∧ W.cell? ⟨g, i * 3 + 1, none⟩ = some v ∧ W.cell? ⟨g, i * 3 + 2, none⟩ = some (.bool (xs.getD i z46).f2) ∧ (Kd.int .i64).R 3 W b ok' v (xs.getD i z46).f1 := by
  obtain ⟨cs, _, hM, hc⟩ := Kd.R_getA h z46 (i : Int) (by omega) (by omega)
  obtain ⟨v, rfl, hR⟩ := k46_openM hM
  have es : k46.sz = 3 := rfl
  have h0 := hc 0 _ rfl
  have h1 := hc 1 _ rfl
  have h2 := hc 2 _ rfl
  simp only [es, add_at, Nat.zero_add, Int.toNat_natCast] at h0 h1 h2
  exact ⟨v, _, h0, h1, h2, hR⟩
theorem int_in {xs : List Int} (h : (Kd.int .i64).R 3 W b ok (.slice (some ⟨g, 0, none⟩) n c) xs) (i : Nat) (hi : i < n) : W.cell? ⟨g, i, none⟩ = some (.int .i64 (xs.getD i 0)) := by
  obtain ⟨cs, _, hM, hc⟩ := Kd.R_getA h (0 : Int) (i : Int) (by omega) (by omega)
  have hM' : cs = [.int .i64 (xs.getD i 0)] := hM
  subst hM'
  have h0 := hc 0 _ rfl
  have es : (Kd.int .i64).sz = 1 := rfl
  rw [es, Nat.mul_one, Nat.add_zero, add_at, Nat.zero_add] at h0
  exact h0
end
theorem eqA41 (W : World) : (Op.equalIn 10000 41 (.agg #[.int .i64 4, .int .i64 1]) (.agg #[.int .i64 4, .int .i64 1])).run Tryd.prog W = .ok true W := by kernel_rfl
attribute [local go_sem high] eqA41
set_option maxHeartbeats 8000000 in
theorem lives_any (w : World) (hl : H.Laid w) : Calls Tryd.prog 9 #[] w fun e w' => e = .returned (.bool true) ∧ Below w.heap.size w w' := by
  have HL := H.Keep.mk hl
  clear hl
  go_enter Tryd.func9, Tryd.ntmps9
  go_wp2_with fail
  refine (rootstocklaw14_Sums.calls 2 3 2 sumsL w rfl).mono ?_
  rintro e w1 ⟨vS, rfl, hR, hb⟩
  obtain ⟨A1, c1, e1, l1, hC⟩ := Kd.R_reads hR
  subst e1
  have B1 := H.Keep.mk hb
  have C1 := H.Keep.mk hC
  have L1 := H.Keep.mk l1
  have HL1 := H.Keep.mk (HL.out.below hb)
  clear hR hb hC l1
  dsimp only
  go_wp2_with fail
  refine (tables_Of.calls 2 3 2 A1 c1 sumsL 2 3 2 sumsL sumsA sumsT 0 w1 C1.out L1.out sums_of HL1.out).mono ?_
  rintro e w2 ⟨v3, v4, v5, rfl, hP, hA, hT, hb⟩
  obtain ⟨gP, cP, e3, _⟩ := own_head hP (by decide)
  obtain ⟨gA, cA, e4, lA⟩ := own_head hA (by decide)
  obtain ⟨gT, cT, e5, lT⟩ := own_head hT (by decide)
  subst e3 e4 e5
  obtain ⟨v0, o0, a0, r0⟩ := own_in hA 0 (by decide)
  obtain ⟨v2, o2, a2, r2⟩ := own_in hA 2 (by decide)
  obtain ⟨v4, o4, a4, r4⟩ := own_in hA 4 (by decide)
  obtain ⟨u0, p0, b0, s0⟩ := own_in hT 0 (by decide)
  obtain ⟨g0, c0, e0, _⟩ := own_head r0 (by decide)
  obtain ⟨g2, c2, e2, _⟩ := own_head r2 (by decide)
  obtain ⟨g4, c4, e4, _⟩ := own_head r4 (by decide)
  obtain ⟨t0, d0, e5, _⟩ := own_head s0 (by decide)
  subst e0 e2 e4 e5
  obtain ⟨_, _, x0, _, _, _⟩ := act_in r0 0 (by decide)
  obtain ⟨_, _, _, _, x2, _⟩ := act_in r2 2 (by decide)
  obtain ⟨v9, o9, x4, x5, x6, r9⟩ := act_in r4 1 (by decide)
  have y2 := int_in s0 2 (by decide)
  have y1 := int_in s0 1 (by decide)
  obtain ⟨A9, c9, e9, l9, C9⟩ := Kd.R_reads r9
  subst e9
  have HC9 := H.Keep.mk C9
  have HL9 := H.Keep.mk l9
  obtain ⟨_, hlP, hCP⟩ := Kd.R_reads' hP
  obtain ⟨_, hlA, hCA⟩ := Kd.R_reads' hA
  obtain ⟨_, hlT, hCT⟩ := Kd.R_reads' hT
  have B2 := H.Keep.mk (H.below_step B1.out hb B1.out.size)
  have KP := H.Keep.mk hCP
  have KA := H.Keep.mk hCA
  have KT := H.Keep.mk hCT
  have KLP := H.Keep.mk hlP
  have KLA := H.Keep.mk hlA
  have KLT := H.Keep.mk hlT
  have FCT : H.Keep (∀ W, Below w2.heap.size w2 W → W.cell? ⟨gA, 0, none⟩ = some (.slice (some ⟨g0, 0, none⟩) 3 c0) ∧ W.cell? ⟨gA, 2, none⟩ = some (.slice (some ⟨g2, 0, none⟩) 3 c2) ∧ W.cell? ⟨gA, 4, none⟩ = some (.slice (some ⟨g4, 0, none⟩) 3 c4) ∧ W.cell? ⟨gT, 0, none⟩ = some (.slice (some ⟨t0, 0, none⟩) 3 d0) ∧
      W.cell? ⟨g0, 0, none⟩ = some (.int .i64 1) ∧ W.cell? ⟨g2, 8, none⟩ = some (.bool true) ∧ W.cell? ⟨g4, 3, none⟩ = some (.int .i64 3) ∧ W.cell? ⟨g4, 4, none⟩ = some (.slice A9 1 c9) ∧ W.cell? ⟨g4, 5, none⟩ = some (.bool false) ∧ W.cell? ⟨t0, 2, none⟩ = some (.int .i64 2) ∧ W.cell? ⟨t0, 1, none⟩ = some (.int .i64 (-1))) := ⟨fun W hW =>
    ⟨H.cell_below a0 hW (H.cell_lt a0), H.cell_below a2 hW (H.cell_lt a2), H.cell_below a4 hW (H.cell_lt a4), H.cell_below b0 hW (H.cell_lt b0), H.cell_below x0 hW (H.cell_lt x0), H.cell_below x2 hW (H.cell_lt x2), H.cell_below x4 hW (H.cell_lt x4), H.cell_below x5 hW (H.cell_lt x5), H.cell_below x6 hW (H.cell_lt x6), H.cell_below y2 hW (H.cell_lt y2), H.cell_below y1 hW (H.cell_lt y1)⟩⟩
  clear hP hA hT hb a0 a2 a4 b0 r0 r2 r4 s0 x0 x2 x4 x5 x6 y2 y1 r9 C9 l9 hCP hCA hCT hlP hlA hlT lA lT
  have hTB : H.Blk (w2.alloc (.cells #[.int .i64 0, .int .i64 0, .int .i64 0, .slice none 0 0, .slice none 0 0, .slice none 0 0] 30)) w2.heap.size 30 #[.int .i64 0, .int .i64 0, .int .i64 0, .slice none 0 0, .slice none 0 0, .slice none 0 0] := H.Blk.new _ _ _
  have TH : H.Keep ((w2.alloc (.cells #[.int .i64 0, .int .i64 0, .int .i64 0, .slice none 0 0, .slice none 0 0, .slice none 0 0] 30)).there w2.heap.size 0 6) := ⟨fun j hj => by
    rw [Nat.zero_add, hTB.cell j, hTB.frozen j]
    refine ⟨?_, rfl⟩
    rcases j with _ | _ | _ | _ | _ | _ | j <;> first | rfl | omega⟩
  have hB3 : Below w2.heap.size w2 (w2.alloc (.cells #[.int .i64 0, .int .i64 0, .int .i64 0, .slice none 0 0, .slice none 0 0, .slice none 0 0] 30)) := (Below.refl _ _).alloc (Nat.le_refl _) _
  obtain ⟨w3, hw3⟩ : ∃ W : World, W = (w2.alloc (.cells #[.int .i64 0, .int .i64 0, .int .i64 0, .slice none 0 0, .slice none 0 0, .slice none 0 0] 30)).setCells w2.heap.size 0 [.int .i64 2, .int .i64 3, .int .i64 2, .slice (some ⟨gP, 0, none⟩) 2 cP, .slice (some ⟨gA, 0, none⟩) 5 cA, .slice (some ⟨gT, 0, none⟩) 5 cT] := ⟨_, rfl⟩
  have BK3 : H.Keep (H.Blk w3 w2.heap.size 30 #[.int .i64 2, .int .i64 3, .int .i64 2, .slice (some ⟨gP, 0, none⟩) 2 cP, .slice (some ⟨gA, 0, none⟩) 5 cA, .slice (some ⟨gT, 0, none⟩) 5 cT]) := ⟨by
    rw [hw3]
    exact ((((((hTB.set_ 0 (.int .i64 2)).set_ 1 (.int .i64 3)).set_ 2 (.int .i64 2)).set_ 3 (.slice (some ⟨gP, 0, none⟩) 2 cP)).set_ 4 (.slice (some ⟨gA, 0, none⟩) 5 cA)).set_ 5 (.slice (some ⟨gT, 0, none⟩) 5 cT))⟩
  have BL3 : H.Keep (Below w2.heap.size w2 w3) := ⟨by
    rw [hw3]
    have l := Nat.le_refl w2.heap.size
    exact ((((((hB3.setCell l (.int .i64 2)).setCell l (.int .i64 3)).setCell l (.int .i64 2)).setCell l (.slice (some ⟨gP, 0, none⟩) 2 cP)).setCell l (.slice (some ⟨gA, 0, none⟩) 5 cA)).setCell l (.slice (some ⟨gT, 0, none⟩) 5 cT))⟩
  have HW3 := H.Keep.mk hw3
  clear hTB hB3 hw3
  dsimp only
  go_upto_region 2 with (refine wpList_store_mid rfl _ _ _ rfl w2.heap.size 0 #[.int .i64 2, .int .i64 3, .int .i64 2, .slice (some ⟨gP, 0, none⟩) 2 cP, .slice (some ⟨gA, 0, none⟩) 5 cA, .slice (some ⟨gT, 0, none⟩) 5 cT] rfl rfl TH.out (by kernel_rfl) (by simp [Value.oneCell']) ?_; rw [← HW3.out])
  have d0 := BK3.out.cell 0
  have d1 := BK3.out.cell 1
  have d2 := BK3.out.cell 2
  have d3 := BK3.out.cell 3
  have d4 := BK3.out.cell 4
  have d5 := BK3.out.cell 5
  simp at d0 d1 d2 d3 d4 d5
  obtain ⟨f1, f2, f3, f4, f5, f6, f7, f8, f9, f10, f11⟩ := FCT.out w3 BL3.out
  have nT := BK3.out.lt
  have KC : H.Keep (Calls Tryd.prog 15 #[.agg #[.int .i64 2, .int .i64 3, .int .i64 2, .slice (some ⟨gP, 0, none⟩) 2 cP, .slice (some ⟨gA, 0, none⟩) 5 cA, .slice (some ⟨gT, 0, none⟩) 5 cT]] w3 fun e w' => ∃ v0_ : Value, e = .returned (v0_) ∧ Kd.R k41 41 w' w3.heap.size (fun _ => True) v0_ [⟨4, 1⟩] ∧ Below w3.heap.size w3 w') := ⟨by
    obtain ⟨k, hk⟩ := sums_clash
    exact tables_Clashes.calls k 2 3 2 (some ⟨gP, 0, none⟩) cP sumsL (some ⟨gA, 0, none⟩) cA sumsA (some ⟨gT, 0, none⟩) cT sumsT [⟨4, 1⟩] w3 (Kd.C_below KP.out BL3.out) KLP.out (Kd.C_below KA.out BL3.out) KLA.out (Kd.C_below KT.out BL3.out) KLT.out hk⟩
  clear HW3 TH
  obtain ⟨tB, htB⟩ : ∃ n, n = w2.heap.size := ⟨_, rfl⟩
  rw [← htB] at d0 d1 d2 d3 d4 d5 nT ⊢
  clear htB BK3
  go_upto_region 4 with fail
  go_wp2_with fail
  refine KC.out.mono ?_
  rintro e w4 ⟨vC, rfl, hR, hb⟩
  obtain ⟨gC, cC, eC, lC⟩ := own_head hR (by decide)
  subst eC
  obtain ⟨cs, _, hM, hc⟩ := Kd.R_getA hR z41 0 (by decide) (by decide)
  have hM' : k41.M w4 w3.heap.size _ ⟨4, 1⟩ cs := hM
  have hcs := k41_openM hM'
  dsimp only at hcs
  subst hcs
  have q0 : w4.cell? ⟨gC, 0, none⟩ = some (.int .i64 4) := by
    have := hc 0 _ rfl
    simpa [add_at] using this
  have q1 : w4.cell? ⟨gC, 1, none⟩ = some (.int .i64 1) := by
    have := hc 1 _ rfl
    simpa [add_at] using this
  have B4 := H.Keep.mk (H.below_step B2.out (H.below_step BL3.out hb BL3.out.size) B2.out.size)
  have BL4 := H.Keep.mk (H.below_step BL3.out hb BL3.out.size)
  have F4 : H.Keep (∀ W, Below w4.heap.size w4 W → W.cell? ⟨tB, 4, none⟩ = some (.slice (some ⟨gA, 0, none⟩) 5 cA) ∧ W.cell? ⟨tB, 5, none⟩ = some (.slice (some ⟨gT, 0, none⟩) 5 cT) ∧ W.cell? ⟨gC, 0, none⟩ = some (.int .i64 4) ∧ W.cell? ⟨gC, 1, none⟩ = some (.int .i64 1)) := ⟨fun W hW =>
    ⟨H.cell_below (H.cell_below d4 hb nT) hW (Nat.lt_of_lt_of_le nT hb.size), H.cell_below (H.cell_below d5 hb nT) hW (Nat.lt_of_lt_of_le nT hb.size), H.cell_below q0 hW lC, H.cell_below q1 hW lC⟩⟩
  have FW : H.Keep (∀ W, Below w4.heap.size w4 W → Below w2.heap.size w2 W) := ⟨fun W hW => H.below_step (H.below_step BL3.out hb BL3.out.size) hW (Nat.le_trans BL3.out.size hb.size)⟩
  clear hR hb hM hM' hc q0 q1 d0 d1 d2 d3 d4 d5 f1 f2 f3 f4 f5 f6 f7 f8 f9 f10 f11 KC
  obtain ⟨d4, d5, q0, q1⟩ := F4.out w4 (Below.refl _ _)
  obtain ⟨f1, f2, f3, f4, f5, f6, f7, f8, f9, f10, f11⟩ := FCT.out w4 (FW.out w4 (Below.refl _ _))
  obtain ⟨w5, hw5⟩ : ∃ W : World, W = w4.alloc (.cells #[.int .i64 0] 3) := ⟨_, rfl⟩
  have hb5 : Below w4.heap.size w4 w5 := by rw [hw5]; exact (Below.refl _ _).alloc (Nat.le_refl _) _
  have KS : H.Keep (Calls Tryd.prog 26 #[.agg #[.int .i64 3, .slice A9 1 c9, .bool false], .agg #[.int .i64 3, .slice (some ⟨w4.heap.size, 0, none⟩) 1 1, .bool false]] w5 fun e w' => e = .returned (.bool true) ∧ Below w5.heap.size w5 w') := ⟨by
    obtain ⟨k, hk⟩ := sums_same
    have ho : H.OwnI w5 0 (.slice (some ⟨w4.heap.size, 0, none⟩) 1 1) [0] := ⟨rfl, .inr ⟨_, 1, _, rfl, Nat.zero_le _, by rw [hw5]; exact H.Blk.new w4 3 #[.int .i64 0], Nat.le_refl _, by decide, rfl, rfl⟩⟩
    obtain ⟨A', c', e', _, _, hr, _⟩ := ho.open_
    injection e' with e1 _ _
    subst e1
    exact rootstocklaw17_SameAction.calls k 3 A9 c9 [0] false 3 (some ⟨w4.heap.size, 0, none⟩) 1 [0] false true w5 (Kd.C_below HC9.out (FW.out w5 hb5)) HL9.out (rdI_to hr (by decide)) (by decide) hk⟩
  have HW5 := H.Keep.mk hw5
  have BL5 := H.Keep.mk hb5
  clear hw5 hb5
  dsimp only
  go_wp2_with fail
  rw [← HW5.out]
  refine KS.out.mono ?_
  rintro e w6 ⟨rfl, hb⟩
  have hb6 : Below w4.heap.size w4 w6 := H.below_step BL5.out hb BL5.out.size
  have FIN : H.Keep (Below w.heap.size w w6) := ⟨H.below_step B4.out hb6 B4.out.size⟩
  clear d4 d5 q0 q1 f1 f2 f3 f4 f5 f6 f7 f8 f9 f10 f11
  obtain ⟨d4, d5, q0, q1⟩ := F4.out w6 hb6
  obtain ⟨f1, f2, f3, f4, f5, f6, f7, f8, f9, f10, f11⟩ := FCT.out w6 (FW.out w6 hb6)
  clear hb hb6 KS F4 FCT FW HW5
  dsimp only
  go_wp2_with fail
  go_ret
  exact ⟨rfl, FIN.out⟩
end Go.Proofs.YtaooejidkeojjaaDoor.PLi
namespace Go.Proofs.YtaooejidkeojjaaDoor.PCl
open Go.RowKit Go.Proofs.YtaooejidkeojjaaDoorW.PrintWords Go.Proofs.YtaooejidkeojjaaDoorW.PrintLast Go.Proofs.YtaooejidkeojjaaDoorW.PrintMore
attribute [local go_sem] max2_int min2_int max_two min_two max_three min_three max_four min_four   -- for this text's walks alone
set_option linter.unusedVariables false
set_option linter.unusedSimpArgs false
theorem info41 : (Tryd.prog.info? 41).map (fun i => (i.zero, i.size, i.bytes)) = some (some (.agg #[(.int .i64 0), (.int .i64 0)]), 2, 16) := by kernel_rfl
structure S46 where
  f0 : Int
  f1 : (List Int)
  f2 : Bool
def z46 : S46 := ⟨(0 : Int), ([] : List Int), false⟩
def k46 : Kd S46 := Kd.iso (Kd.pair (Kd.int .i64) (Kd.pair (Kd.slice 3 (Kd.int .i64)) Kd.bool)) (fun x : S46 => (x.f0, x.f1, x.f2))
theorem k46_open {w : World} {x : S46} {cs : List Value} (h : k46.K w x cs) : ∃ A1 c1, cs = [.int .i64 x.f0, .slice A1 x.f1.length c1, .bool x.f2] ∧ x.f1.length ≤ c1 ∧ (Kd.int .i64).C w A1 x.f1.length x.f1 := by
  obtain ⟨_, _, rfl, rfl, ⟨_, _, rfl, ⟨A1, c1, rfl, l1, g1⟩, rfl⟩⟩ := h
  exact ⟨A1, c1, rfl, l1, g1⟩
def rd_T46 (xs : List S46) (i : Int) : S46 := xs.getD i.toNat z46
theorem at_T46 {w : World} {A : Option Addr} {n : Nat} {xs : List S46} (h : Kd.C k46 w A n xs) (i : Int) (h0 : 0 ≤ i) (h1 : i < n) : ∃ ad A1 c1, A = some ad ∧ w.cell? (ad.add (i.toNat * 3)) = some (.int .i64 (rd_T46 xs i).f0) ∧ w.cell? ⟨(ad.add (i.toNat * 3)).block, (ad.add (i.toNat * 3)).off + 1, none⟩ = some (.slice A1 (rd_T46 xs i).f1.length c1) ∧ w.cell? ⟨(ad.add (i.toNat * 3)).block, (ad.add (i.toNat * 3)).off + 2, none⟩ = some (.bool (rd_T46 xs i).f2) ∧ (rd_T46 xs i).f1.length ≤ c1 ∧ (Kd.int .i64).C w A1 (rd_T46 xs i).f1.length (rd_T46 xs i).f1 := by
  obtain ⟨ad, c, e, _, hK, hc0⟩ := Kd.C_get h z46 i h0 h1
  have hc : ∀ j u, c[j]? = some u → w.cell? (ad.add (i.toNat * 3 + j)) = some u := hc0
  obtain ⟨A1, c1, rfl, l1, g1⟩ := k46_open hK
  exact ⟨ad, A1, c1, e, hc 0 _ rfl, by rw [← add_field _ _ 1 (by omega)]; exact hc 1 _ rfl, by rw [← add_field _ _ 2 (by omega)]; exact hc 2 _ rfl, l1, g1⟩
def rd_L4 (xs : List (List S46)) (i : Int) : (List S46) := xs.getD i.toNat ([] : List S46)
theorem at_L4 {w : World} {A : Option Addr} {n : Nat} {xs : List (List S46)} (h : Kd.C (Kd.slice 46 k46) w A n xs) (i : Int) (h0 : 0 ≤ i) (h1 : i < n) : ∃ ad A0 c0, A = some ad ∧ w.cell? (ad.add i.toNat) = some (.slice A0 (rd_L4 xs i).length c0) ∧ (rd_L4 xs i).length ≤ c0 ∧ k46.C w A0 (rd_L4 xs i).length (rd_L4 xs i) := by
  obtain ⟨ad, c, e, _, hK, hc0⟩ := Kd.C_get h ([] : List S46) i h0 h1
  have hc : ∀ j u, c[j]? = some u → w.cell? (ad.add (i.toNat * 1 + j)) = some u := hc0
  obtain ⟨A0, c0, rfl, l0, g0⟩ := hK
  exact ⟨ad, A0, c0, e, by have hq := hc 0 _ rfl; rwa [Nat.mul_one, Nat.add_zero] at hq, l0, g0⟩
structure S41 where
  f0 : Int
  f1 : Int
def z41 : S41 := ⟨(0 : Int), (0 : Int)⟩
def k41 : Kd S41 := Kd.iso (Kd.pair (Kd.int .i64) (Kd.int .i64)) (fun x : S41 => (x.f0, x.f1))
theorem k41_open {w : World} {x : S41} {cs : List Value} (h : k41.K w x cs) : cs = [.int .i64 x.f0, .int .i64 x.f1] := by
  obtain ⟨_, _, rfl, rfl, rfl⟩ := h
  exact rfl
theorem k41_mkM (w : World) (base : Nat) (ok : Nat → Prop) (x : S41)  : k41.M w base ok x [.int .i64 x.f0, .int .i64 x.f1] := ⟨[.int .i64 x.f0], [.int .i64 x.f1], rfl, rfl, rfl⟩
def rd_T41 (xs : List S41) (i : Int) : S41 := xs.getD i.toNat z41
theorem at_T41 {w : World} {A : Option Addr} {n : Nat} {xs : List S41} (h : Kd.C k41 w A n xs) (i : Int) (h0 : 0 ≤ i) (h1 : i < n) : ∃ ad , A = some ad ∧ w.cell? (ad.add (i.toNat * 2)) = some (.int .i64 (rd_T41 xs i).f0) ∧ w.cell? ⟨(ad.add (i.toNat * 2)).block, (ad.add (i.toNat * 2)).off + 1, none⟩ = some (.int .i64 (rd_T41 xs i).f1) := by
  obtain ⟨ad, c, e, _, hK, hc0⟩ := Kd.C_get h z41 i h0 h1
  have hc : ∀ j u, c[j]? = some u → w.cell? (ad.add (i.toNat * 2 + j)) = some u := hc0
  obtain rfl := k41_open hK
  exact ⟨ad, e, hc 0 _ rfl, by rw [← add_field _ _ 1 (by omega)]; exact hc 1 _ rfl⟩
structure S49 where
  f0 : Int
  f1 : (List Int)
  f2 : Bool
def k49 : Kd S49 := Kd.iso (Kd.pair (Kd.int .i64) (Kd.pair (Kd.slice 3 (Kd.int .i64)) Kd.bool)) (fun x : S49 => (x.f0, x.f1, x.f2))
end Go.Proofs.YtaooejidkeojjaaDoor.PCl
namespace Go.Proofs.YtaooejidkeojjaaDoor.PCl
open Go.RowKit Go.Proofs.YtaooejidkeojjaaDoorW.PrintWords Go.Proofs.YtaooejidkeojjaaDoorW.PrintLast Go.Proofs.YtaooejidkeojjaaDoorW.PrintMore
attribute [local go_sem] max2_int min2_int max_two min_two max_three min_three max_four min_four   -- for this text's walks alone
set_option linter.unusedVariables false
set_option linter.unusedSimpArgs false
theorem eqA41 (d : Nat) (w : World) (x0 y0 : Int) (x1 y1 : Int) :
    (Op.equalIn (d + 2) 41 (.agg #[.int .i64 x0, .int .i64 x1]) (.agg #[.int .i64 y0, .int .i64 y1])).run Tryd.prog w = .ok (x0 == y0 && (x1 == y1)) w := by
  refine eqA_of Tryd.underlying41 (by kernel_rfl) ?_
  refine eqf_cons (by rfl) (by go_simp; rfl) (by go_simp; rfl) (by go_simp) ?_
  exact eqf_last (by rfl) (by go_simp; rfl) (by go_simp; rfl) (by go_simp)
end Go.Proofs.YtaooejidkeojjaaDoor.PCl
namespace Go.Proofs.YtaooejidkeojjaaDoor.PCl
open Go.RowKit Go.Proofs.YtaooejidkeojjaaDoorW.PrintWords Go.Proofs.YtaooejidkeojjaaDoorW.PrintLast Go.Proofs.YtaooejidkeojjaaDoorW.PrintMore
attribute [local go_sem] max2_int min2_int max_two min_two max_three min_three max_four min_four   -- for this text's walks alone
set_option linter.unusedVariables false
set_option linter.unusedSimpArgs false
noncomputable def rootstocklaw17_lives.f  : Option (Bool) := some true
theorem rootstocklaw17_lives.calls  (r : Bool) (w : World) (h : rootstocklaw17_lives.f  = some r) (hl_ : H.Laid w) :
    Calls Tryd.prog 9 #[] w fun e w' => e = .returned (.bool r) ∧ Below w.heap.size w w' := by
  obtain rfl := Option.some.inj h
  exact PLi.lives_any w hl_
mutual
noncomputable def tables_Clashes.l0 : Nat → List (S41) → List (List (S46)) → Int → Int → Option ((List (S41)))
  | 0, _, _, _, _ => none
  | k + 1, x3, x10, x11, x12 => if x12 < x11 then (if 0 ≤ x12 then (if x12 < (x10.length : Int) then (tables_Clashes.l1 k x3 x12 x10 x11 x12 (rd_L4 x10 x12) ((rd_L4 x10 x12).length : Int) 0) else (none)) else (none)) else (some x3)
noncomputable def tables_Clashes.l1 : Nat → List (S41) → Int → List (List (S46)) → Int → Int → List (S46) → Int → Int → Option ((List (S41)))
  | 0, _, _, _, _, _, _, _, _ => none
  | k + 1, x3, x4, x10, x11, x12, x17, x18, x19 => if x19 < x18 then (if 0 ≤ x19 then (if x19 < (x17.length : Int) then (if ((rd_T46 x17 x19).f0) ≥ 0 then (tables_Clashes.j2 k x3 x4 x19 (wrap64 ((((rd_T46 x17 x19).f1).length : Int) + 1)) x10 x11 x12 x17 x18 x19 ((rd_T46 x17 x19).f0) ((rd_T46 x17 x19).f1) ((rd_T46 x17 x19).f2)) else (tables_Clashes.j2 k x3 x4 x19 (((rd_T46 x17 x19).f1).length : Int) x10 x11 x12 x17 x18 x19 ((rd_T46 x17 x19).f0) ((rd_T46 x17 x19).f1) ((rd_T46 x17 x19).f2))) else (none)) else (none)) else (tables_Clashes.l0 k x3 x10 x11 (wrap64 (x12 + 1)))
noncomputable def tables_Clashes.j2 : Nat → List (S41) → Int → Int → Int → List (List (S46)) → Int → Int → List (S46) → Int → Int → Int → List Int → Bool → Option ((List (S41)))
  | 0, _, _, _, _, _, _, _, _, _, _, _, _, _ => none
  | k + 1, x3, x4, x6, x8, x10, x11, x12, x17, x18, x19, x105000, x105001, x105002 => if x105002 = true then (if (wrap64 (x8 + 1)) > 1 then (if x3.length < 8796093022208 then (tables_Clashes.l1 k (x3 ++ [(⟨x4, x6⟩ : S41)]) x4 x10 x11 x12 x17 x18 (wrap64 (x19 + 1))) else (none)) else (tables_Clashes.l1 k x3 x4 x10 x11 x12 x17 x18 (wrap64 (x19 + 1)))) else (if x8 > 1 then (if x3.length < 8796093022208 then (tables_Clashes.l1 k (x3 ++ [(⟨x4, x6⟩ : S41)]) x4 x10 x11 x12 x17 x18 (wrap64 (x19 + 1))) else (none)) else (tables_Clashes.l1 k x3 x4 x10 x11 x12 x17 x18 (wrap64 (x19 + 1))))
end
noncomputable def tables_Clashes.f (k : Nat) (a0_0 : Int) (a0_1 : Int) (a0_2 : Int) (l0_3 : List (S49)) (l0_4 : List (List (S46))) (l0_5 : List (List Int)) : Option ((List (S41))) := tables_Clashes.l0 k ([] : List (S41)) l0_4 (l0_4.length : Int) 0
set_option maxHeartbeats 8000000 in
set_option maxRecDepth 100000 in
theorem tables_Clashes.calls (k : Nat) (a0_0 : Int) (a0_1 : Int) (a0_2 : Int) (A0_3 : Option Addr) (c0_3 : Nat) (l0_3 : List (S49)) (A0_4 : Option Addr) (c0_4 : Nat) (l0_4 : List (List (S46))) (A0_5 : Option Addr) (c0_5 : Nat) (l0_5 : List (List Int)) (r : List (S41)) (w : World) (hr0_3 : Kd.C k49 w A0_3 l0_3.length l0_3) (hc0_3 : l0_3.length ≤ c0_3) (hr0_4 : Kd.C (Kd.slice 46 k46) w A0_4 l0_4.length l0_4) (hc0_4 : l0_4.length ≤ c0_4) (hr0_5 : Kd.C (Kd.slice 3 (Kd.int .i64)) w A0_5 l0_5.length l0_5) (hc0_5 : l0_5.length ≤ c0_5) (h : tables_Clashes.f k a0_0 a0_1 a0_2 l0_3 l0_4 l0_5 = some r) :
    Calls Tryd.prog 15 #[.agg #[.int .i64 a0_0, .int .i64 a0_1, .int .i64 a0_2, .slice A0_3 l0_3.length c0_3, .slice A0_4 l0_4.length c0_4, .slice A0_5 l0_5.length c0_5]] w fun e w' => ∃ v0_ : Value, e = .returned (v0_) ∧ Kd.R k41 41 w' w.heap.size (fun _ => True) v0_ r ∧ Below w.heap.size w w' := by
 have hu30 := Tryd.underlying30
 have hu46 := Tryd.underlying46
 have hu41 := Tryd.underlying41
 have HR0_3 := Aside0.mk hr0_3
 have HC0_3 := Aside0.mk hc0_3
 clear hr0_3 hc0_3
 have HR0_4 := Aside0.mk hr0_4
 have HC0_4 := Aside0.mk hc0_4
 clear hr0_4 hc0_4
 have HR0_5 := Aside0.mk hr0_5
 have HC0_5 := Aside0.mk hc0_5
 clear hr0_5 hc0_5
 have HB := Aside0.mk (Below.refl w.heap.size w)
 have H : (tables_Clashes.l0 k ([] : List (S41)) l0_4 (l0_4.length : Int) 0) = some r := h
 clear h
 have H' := Aside0.mk H
 clear H
 go_enter Tryd.func15, Tryd.ntmps15
 go_wp2_with (first | ((with_reducible refine gate_dst (N := 1) rfl ?_); refine box_event ?hg (N := 1) ?hd (cs := #[.int .i64 a0_0, .int .i64 a0_1, .int .i64 a0_2, .slice A0_3 l0_3.length c0_3, .slice A0_4 l0_4.length c0_4, .slice A0_5 l0_5.length c0_5]) (t := 30) ?hr ?_; (case hd => rfl); (case hg => rfl); (case hr => first | (go_simp; done) | (go_simp; rfl)); intro gb101 hg w2 hbox hb; have n0_ := Aside0.mk (below_step (by repeat (first | (with_reducible first | exact HB.out | apply below_alloc | apply pw_below_drewN | apply below_drew1) | exact HB.out)) hb); have n1_ := Aside0.mk (hbox); have n2_ := Aside0.mk ((by rw [hg]; exact (below_size (by repeat (first | (with_reducible first | exact HB.out | apply below_alloc | apply pw_below_drewN | apply below_drew1) | exact HB.out))) : w.heap.size ≤ gb101)); have n3_ := Aside0.mk ((by rw [hg]; exact (below_size (by repeat (first | (with_reducible first | exact HB.out | apply below_alloc | apply pw_below_drewN | apply below_drew1) | exact HB.out))) : w.heap.size ≤ gb101)); clear HB; have HB := n0_; have BK101 := n1_; have GW101 := n2_; have GE101 := n3_; clear n0_ n1_ n2_ n3_; clear hb hbox hg; have hcz3_0 : w2.cell? ⟨gb101, 0, none⟩ = some (.int .i64 a0_0) := (blk_cell BK101.out 0).trans rfl; have hcz3_1 : w2.cell? ⟨gb101, 1, none⟩ = some (.int .i64 a0_1) := (blk_cell BK101.out 1).trans rfl; have hcz3_2 : w2.cell? ⟨gb101, 2, none⟩ = some (.int .i64 a0_2) := (blk_cell BK101.out 2).trans rfl; have hcz3_3 : w2.cell? ⟨gb101, 3, none⟩ = some (.slice A0_3 l0_3.length c0_3) := (blk_cell BK101.out 3).trans rfl; have hcz3_4 : w2.cell? ⟨gb101, 4, none⟩ = some (.slice A0_4 l0_4.length c0_4) := (blk_cell BK101.out 4).trans rfl; have hcz3_5 : w2.cell? ⟨gb101, 5, none⟩ = some (.slice A0_5 l0_5.length c0_5) := (blk_cell BK101.out 5).trans rfl; have hfz3_0 := blk_frozen BK101.out 0; have hfz3_1 := blk_frozen BK101.out 1; have hfz3_2 := blk_frozen BK101.out 2; have hfz3_3 := blk_frozen BK101.out 3; have hfz3_4 := blk_frozen BK101.out 4; have hfz3_5 := blk_frozen BK101.out 5))
 go_loopg [3, 12] k (fun kq v3 v12 w' => ∃ (x3_1 : List (S41)) (x12_1 : Int), v12 = .int .i64 x12_1 ∧ Aside0 (tables_Clashes.l0 kq x3_1 l0_4 (l0_4.length : Int) x12_1 = some r) ∧ Aside0 (kq ≤ k) ∧ Aside0 (Kd.R k41 41 w' w.heap.size (fun _ => True) v3 x3_1) ∧ Aside0 (w'.heap[gb101]? = some (.cells #[.int .i64 a0_0, .int .i64 a0_1, .int .i64 a0_2, (.slice A0_3 l0_3.length c0_3), (.slice A0_4 l0_4.length c0_4), (.slice A0_5 l0_5.length c0_5)] 30 (0, 0))) ∧ Aside0 (Below w.heap.size w w'))
 case atStart => exact ⟨(([] : List (S41))), (0), (by first | rfl | (simp; done) | (simp [*]; done)), H', ⟨Nat.le_refl _⟩, ⟨by first | exact Kd.R_nil _ _ _ _ _ | exact Kd.N_nil _ _ _ _ _ | exact Kd.V_nil _ _ _ _ _ | exact Kd.Q_nil _ _ _ _ _ | exact Kd.S_nil _ _ _ _ _⟩, ⟨by (with_reducible repeat (first | refine blk_drewN ?_ _ | refine blk_drew ?_ | refine blk_alloc ?_ _)); exact BK101.out⟩, ⟨by repeat (first | (with_reducible first | exact HB.out | apply below_alloc | apply pw_below_drewN | apply below_drew1 | refine below_set ?_ GE101.out) | exact HB.out)⟩⟩
 case round =>
  as_aux_lemma =>
   clear H'
   try clear c1
   try clear p2
   try clear hcz3_0
   try clear hcz3_1
   try clear hcz3_2
   try clear hcz3_3
   try clear hcz3_4
   try clear hcz3_5
   try clear hfz3_0
   try clear hfz3_1
   try clear hfz3_2
   try clear hfz3_3
   try clear hfz3_4
   try clear hfz3_5
   obtain ⟨x3_1, x12_1, rfl, HA, HK1, HO_3, BK101, HB⟩ := hrel
   cases gk with
   | zero => exact absurd HA.out (by simp [tables_Clashes.l0])
   | succ k1 =>
    have H := HA.out
    clear HA
    simp only [tables_Clashes.l0] at H
    by_cases c4 : x12_1 < (l0_4.length : Int)
    rotate_left
    · rw [if_neg c4] at H
      have c4b0 : decide (x12_1 < (l0_4.length : Int)) = false := decide_eq_false c4
      clear c4
      as_aux_lemma =>
       obtain rfl := Option.some.inj H
       go_wp2
       go_ret
       exact ⟨_, by first | rfl | (simp [errW_none, errW_some] <;> rfl) | (simp [*, errW_none, errW_some] <;> rfl), by (with_reducible repeat (first | apply Kd.R_alloc | apply Kd.R_drewN | apply Kd.R_drew)); exact HO_3.out, by repeat (first | (with_reducible first | exact HB.out | apply below_alloc | apply pw_below_drewN | apply below_drew1 | refine below_set ?_ GE101.out) | exact HB.out)⟩
    rw [if_pos c4] at H
    have c4b0 : decide (x12_1 < (l0_4.length : Int)) = true := decide_eq_true c4
    clear c4
    by_cases c5 : 0 ≤ x12_1
    rotate_left
    · rw [if_neg c5] at H
      exact absurd H (by simp)
    rw [if_pos c5] at H
    have c5b0 : decide (0 ≤ x12_1) = true := decide_eq_true c5
    clear c5
    by_cases c6 : x12_1 < (l0_4.length : Int)
    rotate_left
    · rw [if_neg c6] at H
      exact absurd H (by simp)
    rw [if_pos c6] at H
    have c6b0 : decide (x12_1 < (l0_4.length : Int)) = true := decide_eq_true c6
    clear c6
    have H' := Aside0.mk H
    clear H
    have p102 : 0 ≤ (x12_1 : Int) := of_decide_eq_true (by first | (with_reducible assumption) | assumption)
    have q102 : x12_1 < (l0_4.length : Int) := of_decide_eq_true (by first | (with_reducible assumption) | assumption)
    obtain ⟨ad102, A102_0, c102_0, e102, hx102_0, hl102_0, hi102_0⟩ := at_L4 HR0_4.out x12_1 p102 q102
    cases e102
    replace hx102_0 := (HB.out.cell (World.block_lt_of_cell? w _ hx102_0)).trans hx102_0
    have HR102_0 := Aside0.mk hi102_0
    have HC102_0 := Aside0.mk hl102_0
    clear hi102_0 hl102_0
    replace p102 := eq_true p102
    replace q102 := eq_true q102
    go_wp2
    go_loopg [3, 19] k1 (fun kq v3 v19 w' => ∃ (x3_2 : List (S41)) (x19_2 : Int), v19 = .int .i64 x19_2 ∧ Aside0 (tables_Clashes.l1 kq x3_2 x12_1 l0_4 (l0_4.length : Int) x12_1 (rd_L4 l0_4 x12_1) ((rd_L4 l0_4 x12_1).length : Int) x19_2 = some r) ∧ Aside0 (kq ≤ k1) ∧ Aside0 (Kd.R k41 41 w' w.heap.size (fun _ => True) v3 x3_2) ∧ Aside0 (w'.heap[gb101]? = some (.cells #[.int .i64 a0_0, .int .i64 a0_1, .int .i64 a0_2, (.slice A0_3 l0_3.length c0_3), (.slice (some ad102) l0_4.length c0_4), (.slice A0_5 l0_5.length c0_5)] 30 (0, 0))) ∧ Aside0 (Below w.heap.size w w'))
    case atStart => exact ⟨(x3_1), (0), (by first | rfl | (simp; done) | (simp [*]; done)), H', ⟨Nat.le_refl _⟩, ⟨by (with_reducible repeat (first | apply Kd.R_alloc | apply Kd.R_drewN | apply Kd.R_drew)); exact HO_3.out⟩, ⟨by (with_reducible repeat (first | refine blk_drewN ?_ _ | refine blk_drew ?_ | refine blk_alloc ?_ _)); exact BK101.out⟩, ⟨by repeat (first | (with_reducible first | exact HB.out | apply below_alloc | apply pw_below_drewN | apply below_drew1 | refine below_set ?_ GE101.out) | exact HB.out)⟩⟩
    case round =>
     as_aux_lemma =>
      clear H'
      try clear c1
      try clear p1
      try clear q1
      try clear hx1
      try clear p2
      try clear c4
      try clear c4b0
      try clear c5
      try clear c5b0
      try clear c6
      try clear c6b0
      try clear hcz3_0
      try clear hcz3_1
      try clear hcz3_2
      try clear hcz3_3
      try clear hcz3_4
      try clear hcz3_5
      try clear hfz3_0
      try clear hfz3_1
      try clear hfz3_2
      try clear hfz3_3
      try clear hfz3_4
      try clear hfz3_5
      try clear hx102_0
      try clear p102
      try clear p2
      try clear q102
      obtain ⟨x3_2, x19_2, rfl, HA, HK2, HO_3, BK101, HB⟩ := hrel
      cases gk with
      | zero => exact absurd HA.out (by simp [tables_Clashes.l1])
      | succ k2 =>
       have H := HA.out
       clear HA
       simp only [tables_Clashes.l1] at H
       by_cases c7 : x19_2 < ((rd_L4 l0_4 x12_1).length : Int)
       rotate_left
       · rw [if_neg c7] at H
         have c7b0 : decide (x19_2 < ((rd_L4 l0_4 x12_1).length : Int)) = false := decide_eq_false c7
         clear c7
         as_aux_lemma =>
          have H' := Aside0.mk H
          clear H
          go_wp2
          go_roundg k2
          case measure => have := HK1.out; have := HK2.out; omega
          case rel => exact ⟨(x3_2), (wrap64 (x12_1 + 1)), (by first | rfl | (simp; done) | (simp [*]; done)), H', ⟨by have := HK1.out; have := HK2.out; omega⟩, ⟨by (with_reducible repeat (first | apply Kd.R_alloc | apply Kd.R_drewN | apply Kd.R_drew)); exact HO_3.out⟩, ⟨by (with_reducible repeat (first | refine blk_drewN ?_ _ | refine blk_drew ?_ | refine blk_alloc ?_ _)); exact BK101.out⟩, ⟨by repeat (first | (with_reducible first | exact HB.out | apply below_alloc | apply pw_below_drewN | apply below_drew1 | refine below_set ?_ GE101.out) | exact HB.out)⟩⟩
       rw [if_pos c7] at H
       have c7b0 : decide (x19_2 < ((rd_L4 l0_4 x12_1).length : Int)) = true := decide_eq_true c7
       clear c7
       by_cases c8 : 0 ≤ x19_2
       rotate_left
       · rw [if_neg c8] at H
         exact absurd H (by simp)
       rw [if_pos c8] at H
       have c8b0 : decide (0 ≤ x19_2) = true := decide_eq_true c8
       clear c8
       by_cases c9 : x19_2 < ((rd_L4 l0_4 x12_1).length : Int)
       rotate_left
       · rw [if_neg c9] at H
         exact absurd H (by simp)
       rw [if_pos c9] at H
       have c9b0 : decide (x19_2 < ((rd_L4 l0_4 x12_1).length : Int)) = true := decide_eq_true c9
       clear c9
       have HC10 := Aside0.mk H
       clear H
       have p103 : 0 ≤ (x19_2 : Int) := of_decide_eq_true (by first | (with_reducible assumption) | assumption)
       have q103 : x19_2 < ((rd_L4 l0_4 x12_1).length : Int) := of_decide_eq_true (by first | (with_reducible assumption) | assumption)
       obtain ⟨ad103, A103_1, c103_1, e103, hx103_0, hx103_1, hx103_2, hl103_1, hi103_1⟩ := at_T46 HR102_0.out x19_2 p103 q103
       cases e103
       replace hx103_0 := (HB.out.cell (World.block_lt_of_cell? w _ hx103_0)).trans hx103_0
       replace hx103_1 := (HB.out.cell (World.block_lt_of_cell? w _ hx103_1)).trans hx103_1
       replace hx103_2 := (HB.out.cell (World.block_lt_of_cell? w _ hx103_2)).trans hx103_2
       have HR103_1 := Aside0.mk hi103_1
       have HC103_1 := Aside0.mk hl103_1
       clear hi103_1 hl103_1
       replace p103 := eq_true p103
       replace q103 := eq_true q103
       go_upto_if 29 with (first | ((with_reducible refine gate_dst (N := 7) rfl ?_); refine box_event ?hg (N := 7) ?hd (cs := #[.int .i64 0, .slice none 0 0, .bool false]) (t := 46) ?hr ?_; (case hd => rfl); (case hg => rfl); (case hr => first | (go_simp; done) | (go_simp; rfl)); intro gb104 hg w11 hbox hb; have n0_ := Aside0.mk (Kd.R_below (by (with_reducible repeat (first | apply Kd.R_alloc | apply Kd.R_drewN | apply Kd.R_drew)); exact HO_3.out) hb); have n1_ := Aside0.mk (blk_below (g := gb101) (o := .cells #[.int .i64 a0_0, .int .i64 a0_1, .int .i64 a0_2, .slice A0_3 l0_3.length c0_3, .slice (some ad102) l0_4.length c0_4, .slice A0_5 l0_5.length c0_5] 30 (0, 0)) (by (with_reducible repeat (first | refine blk_drewN ?_ _ | refine blk_drew ?_ | refine blk_alloc ?_ _)); exact BK101.out) hb); have n2_ := Aside0.mk (below_step (by repeat (first | (with_reducible first | exact HB.out | apply below_alloc | apply pw_below_drewN | apply below_drew1 | refine below_set ?_ GE101.out) | exact HB.out)) hb); have n3_ := Aside0.mk (hbox); have n4_ := Aside0.mk ((by rw [hg]; exact (below_size (by repeat (first | (with_reducible first | exact HB.out | apply below_alloc | apply pw_below_drewN | apply below_drew1 | refine below_set ?_ GE101.out) | exact HB.out))) : w.heap.size ≤ gb104)); have n5_ := Aside0.mk ((by rw [hg]; exact (below_size (by repeat (first | (with_reducible first | exact HB.out | apply below_alloc | apply pw_below_drewN | apply below_drew1 | refine below_set ?_ GE101.out) | exact HB.out))) : w.heap.size ≤ gb104)); have n6_ := Aside0.mk ((by rw [hg]; exact Nat.ne_of_lt (blk_lt (g := gb101) (o := .cells #[.int .i64 a0_0, .int .i64 a0_1, .int .i64 a0_2, .slice A0_3 l0_3.length c0_3, .slice (some ad102) l0_4.length c0_4, .slice A0_5 l0_5.length c0_5] 30 (0, 0)) (by (with_reducible repeat (first | refine blk_drewN ?_ _ | refine blk_drew ?_ | refine blk_alloc ?_ _)); exact BK101.out)) : gb101 ≠ gb104)); have n7_ := Aside0.mk ((by rw [hg]; exact Nat.ne_of_gt (blk_lt (g := gb101) (o := .cells #[.int .i64 a0_0, .int .i64 a0_1, .int .i64 a0_2, .slice A0_3 l0_3.length c0_3, .slice (some ad102) l0_4.length c0_4, .slice A0_5 l0_5.length c0_5] 30 (0, 0)) (by (with_reducible repeat (first | refine blk_drewN ?_ _ | refine blk_drew ?_ | refine blk_alloc ?_ _)); exact BK101.out)) : gb104 ≠ gb101)); clear HO_3; clear BK101; clear HB; have HO_3 := n0_; have BK101 := n1_; have HB := n2_; have BK104 := n3_; have GW104 := n4_; have GE104 := n5_; have NB101_104 := n6_; have NB104_101 := n7_; clear n0_ n1_ n2_ n3_ n4_ n5_ n6_ n7_; clear hb hbox hg; have hnb12 := NB104_101.out; have hnc12 := NB101_104.out; have hcz13_0 : w11.cell? ⟨gb104, 0, none⟩ = some (.int .i64 0) := (blk_cell BK104.out 0).trans rfl; have hcz13_1 : w11.cell? ⟨gb104, 1, none⟩ = some (.slice none 0 0) := (blk_cell BK104.out 1).trans rfl; have hcz13_2 : w11.cell? ⟨gb104, 2, none⟩ = some (.bool false) := (blk_cell BK104.out 2).trans rfl; have hfz13_0 := blk_frozen BK104.out 0; have hfz13_1 := blk_frozen BK104.out 1; have hfz13_2 := blk_frozen BK104.out 2))
       (try simp only [Act.put, List.setIfInBounds_toArray, List.set_cons_zero, List.set_cons_succ])
       go_cut [8] (fun v8 wc => ∃ (kq : Nat) (x8_9 : Int), v8 = .int .i64 x8_9 ∧ Aside0 (tables_Clashes.j2 kq x3_2 x12_1 x19_2 x8_9 l0_4 (l0_4.length : Int) x12_1 (rd_L4 l0_4 x12_1) ((rd_L4 l0_4 x12_1).length : Int) x19_2 ((rd_T46 (rd_L4 l0_4 x12_1) x19_2).f0) ((rd_T46 (rd_L4 l0_4 x12_1) x19_2).f1) ((rd_T46 (rd_L4 l0_4 x12_1) x19_2).f2) = some r) ∧ Aside0 (kq ≤ k2) ∧ Aside0 (Kd.R k41 41 wc w.heap.size (fun _ => True) u3 x3_2) ∧ Aside0 (wc.heap[gb101]? = some (.cells #[.int .i64 a0_0, .int .i64 a0_1, .int .i64 a0_2, (.slice A0_3 l0_3.length c0_3), (.slice (some ad102) l0_4.length c0_4), (.slice A0_5 l0_5.length c0_5)] 30 (0, 0))) ∧ Aside0 (wc.heap[gb104]? = some (.cells #[.int .i64 ((rd_T46 (rd_L4 l0_4 x12_1) x19_2).f0), (.slice A103_1 ((rd_T46 (rd_L4 l0_4 x12_1) x19_2).f1).length c103_1), .bool ((rd_T46 (rd_L4 l0_4 x12_1) x19_2).f2)] 46 (0, 0))) ∧ Aside0 (Below w.heap.size w wc))
       case first =>
        have H := HC10.out
        clear HC10
        by_cases c14 : ((rd_T46 (rd_L4 l0_4 x12_1) x19_2).f0) ≥ 0
        rotate_left
        · rw [if_neg c14] at H
          have c14b0 : decide (0 ≤ ((rd_T46 (rd_L4 l0_4 x12_1) x19_2).f0)) = false := decide_eq_false c14
          clear c14
          (first | rw [c14b0] | (simp only [i64_w, i32_w]; rw [c14b0]) | skip)
          as_aux_lemma =>
           have H' := Aside0.mk H
           clear H
           go_wp2
           go_meet
           case rel => exact ⟨_, ((((rd_T46 (rd_L4 l0_4 x12_1) x19_2).f1).length : Int)), (by first | rfl | (simp; done) | (simp [*]; done)), H', ⟨by have := HK1.out; have := HK2.out; first | omega | exact Nat.le_refl _⟩, ⟨by (with_reducible repeat (first | apply Kd.R_alloc | apply Kd.R_drewN | apply Kd.R_drew)); exact Kd.R_mono (Kd.R_far (p := ⟨gb104, 2, none⟩) (Kd.R_far (p := ⟨gb104, 1, none⟩) (Kd.R_far (p := ⟨gb104, 0, none⟩) (Kd.R_types HO_3.out BK104.out (by decide)) (fun _ hk => hk.2) (.int .i64 ((rd_T46 (rd_L4 l0_4 x12_1) x19_2).f0))) (fun _ hk => hk.2) (.slice A103_1 ((rd_T46 (rd_L4 l0_4 x12_1) x19_2).f1).length c103_1)) (fun _ hk => hk.2) (.bool ((rd_T46 (rd_L4 l0_4 x12_1) x19_2).f2))) (fun _ hk => trivial)⟩, ⟨by (with_reducible repeat (first | refine blk_drewN ?_ _ | refine blk_drew ?_ | refine blk_alloc ?_ _)); refine blk_far ?_ NB101_104.out _; (with_reducible repeat (first | refine blk_drewN ?_ _ | refine blk_drew ?_ | refine blk_alloc ?_ _)); refine blk_far ?_ NB101_104.out _; (with_reducible repeat (first | refine blk_drewN ?_ _ | refine blk_drew ?_ | refine blk_alloc ?_ _)); refine blk_far ?_ NB101_104.out _; (with_reducible repeat (first | refine blk_drewN ?_ _ | refine blk_drew ?_ | refine blk_alloc ?_ _)); exact BK101.out⟩, ⟨by (with_reducible repeat (first | refine blk_drewN ?_ _ | refine blk_drew ?_ | refine blk_alloc ?_ _)); refine blk_put (cs := #[.int .i64 ((rd_T46 (rd_L4 l0_4 x12_1) x19_2).f0), .slice A103_1 ((rd_T46 (rd_L4 l0_4 x12_1) x19_2).f1).length c103_1, .bool false]) ?_ 2 _ rfl; (with_reducible repeat (first | refine blk_drewN ?_ _ | refine blk_drew ?_ | refine blk_alloc ?_ _)); refine blk_put (cs := #[.int .i64 ((rd_T46 (rd_L4 l0_4 x12_1) x19_2).f0), .slice none 0 0, .bool false]) ?_ 1 _ rfl; (with_reducible repeat (first | refine blk_drewN ?_ _ | refine blk_drew ?_ | refine blk_alloc ?_ _)); refine blk_put (cs := #[.int .i64 0, .slice none 0 0, .bool false]) ?_ 0 _ rfl; (with_reducible repeat (first | refine blk_drewN ?_ _ | refine blk_drew ?_ | refine blk_alloc ?_ _)); exact BK104.out⟩, ⟨by repeat (first | (with_reducible first | exact HB.out | apply below_alloc | apply pw_below_drewN | apply below_drew1 | refine below_set ?_ GE101.out | refine below_set ?_ GE104.out) | exact HB.out)⟩⟩
        rw [if_pos c14] at H
        have c14b0 : decide (0 ≤ ((rd_T46 (rd_L4 l0_4 x12_1) x19_2).f0)) = true := decide_eq_true c14
        clear c14
        (first | rw [c14b0] | (simp only [i64_w, i32_w]; rw [c14b0]) | skip)
        as_aux_lemma =>
         have H' := Aside0.mk H
         clear H
         go_wp2
         go_meet
         case rel => exact ⟨_, (wrap64 ((((rd_T46 (rd_L4 l0_4 x12_1) x19_2).f1).length : Int) + 1)), (by first | rfl | (simp; done) | (simp [*]; done)), H', ⟨by have := HK1.out; have := HK2.out; first | omega | exact Nat.le_refl _⟩, ⟨by (with_reducible repeat (first | apply Kd.R_alloc | apply Kd.R_drewN | apply Kd.R_drew)); exact Kd.R_mono (Kd.R_far (p := ⟨gb104, 2, none⟩) (Kd.R_far (p := ⟨gb104, 1, none⟩) (Kd.R_far (p := ⟨gb104, 0, none⟩) (Kd.R_types HO_3.out BK104.out (by decide)) (fun _ hk => hk.2) (.int .i64 ((rd_T46 (rd_L4 l0_4 x12_1) x19_2).f0))) (fun _ hk => hk.2) (.slice A103_1 ((rd_T46 (rd_L4 l0_4 x12_1) x19_2).f1).length c103_1)) (fun _ hk => hk.2) (.bool ((rd_T46 (rd_L4 l0_4 x12_1) x19_2).f2))) (fun _ hk => trivial)⟩, ⟨by (with_reducible repeat (first | refine blk_drewN ?_ _ | refine blk_drew ?_ | refine blk_alloc ?_ _)); refine blk_far ?_ NB101_104.out _; (with_reducible repeat (first | refine blk_drewN ?_ _ | refine blk_drew ?_ | refine blk_alloc ?_ _)); refine blk_far ?_ NB101_104.out _; (with_reducible repeat (first | refine blk_drewN ?_ _ | refine blk_drew ?_ | refine blk_alloc ?_ _)); refine blk_far ?_ NB101_104.out _; (with_reducible repeat (first | refine blk_drewN ?_ _ | refine blk_drew ?_ | refine blk_alloc ?_ _)); exact BK101.out⟩, ⟨by (with_reducible repeat (first | refine blk_drewN ?_ _ | refine blk_drew ?_ | refine blk_alloc ?_ _)); refine blk_put (cs := #[.int .i64 ((rd_T46 (rd_L4 l0_4 x12_1) x19_2).f0), .slice A103_1 ((rd_T46 (rd_L4 l0_4 x12_1) x19_2).f1).length c103_1, .bool false]) ?_ 2 _ rfl; (with_reducible repeat (first | refine blk_drewN ?_ _ | refine blk_drew ?_ | refine blk_alloc ?_ _)); refine blk_put (cs := #[.int .i64 ((rd_T46 (rd_L4 l0_4 x12_1) x19_2).f0), .slice none 0 0, .bool false]) ?_ 1 _ rfl; (with_reducible repeat (first | refine blk_drewN ?_ _ | refine blk_drew ?_ | refine blk_alloc ?_ _)); refine blk_put (cs := #[.int .i64 0, .slice none 0 0, .bool false]) ?_ 0 _ rfl; (with_reducible repeat (first | refine blk_drewN ?_ _ | refine blk_drew ?_ | refine blk_alloc ?_ _)); exact BK104.out⟩, ⟨by repeat (first | (with_reducible first | exact HB.out | apply below_alloc | apply pw_below_drewN | apply below_drew1 | refine below_set ?_ GE101.out | refine below_set ?_ GE104.out) | exact HB.out)⟩⟩
       case rest =>
        as_aux_lemma =>
         clear HC10
         try clear c1
         try clear p1
         try clear q1
         try clear hx1
         try clear p2
         try clear c4
         try clear c4b0
         try clear c5
         try clear c5b0
         try clear c6
         try clear c6b0
         try clear p6
         try clear c7
         try clear c7b0
         try clear c8
         try clear c8b0
         try clear c9
         try clear c9b0
         try clear c10
         try clear p10
         try clear q10
         try clear hx10
         try clear c12
         try clear c14
         try clear c14b0
         try clear hcz13_0
         try clear hcz13_1
         try clear hcz13_2
         try clear hcz3_0
         try clear hcz3_1
         try clear hcz3_2
         try clear hcz3_3
         try clear hcz3_4
         try clear hcz3_5
         try clear hfz13_0
         try clear hfz13_1
         try clear hfz13_2
         try clear hfz3_0
         try clear hfz3_1
         try clear hfz3_2
         try clear hfz3_3
         try clear hfz3_4
         try clear hfz3_5
         try clear hx102_0
         try clear hx103_0
         try clear hx103_1
         try clear hx103_2
         try clear p1
         try clear p102
         try clear p103
         try clear p2
         try clear q1
         try clear q102
         try clear q103
         obtain ⟨kq, x8_9, rfl, HA, HJ9, HO_3, BK101, BK104, HB⟩ := hcut
         cases kq with
         | zero => exact absurd HA.out (by simp [tables_Clashes.j2])
         | succ kj9 =>
          have H := HA.out
          clear HA
          simp only [tables_Clashes.j2] at H
          by_cases c15 : ((rd_T46 (rd_L4 l0_4 x12_1) x19_2).f2) = true
          rotate_left
          · rw [if_neg c15] at H
            have c15b0 : ((rd_T46 (rd_L4 l0_4 x12_1) x19_2).f2) = false := by simpa using c15
            clear c15
            by_cases c23 : x8_9 > 1
            rotate_left
            · rw [if_neg c23] at H
              have c23b0 : decide (1 < x8_9) = false := decide_eq_false c23
              clear c23
              as_aux_lemma =>
               have H' := Aside0.mk H
               clear H
               have hnb28 := NB104_101.out
               have hnc28 := NB101_104.out
               have hcz29_0 : wc.cell? ⟨gb104, 0, none⟩ = some (.int .i64 ((rd_T46 (rd_L4 l0_4 x12_1) x19_2).f0)) := (blk_cell BK104.out 0).trans rfl
               have hcz29_1 : wc.cell? ⟨gb104, 1, none⟩ = some (.slice A103_1 ((rd_T46 (rd_L4 l0_4 x12_1) x19_2).f1).length c103_1) := (blk_cell BK104.out 1).trans rfl
               have hcz29_2 : wc.cell? ⟨gb104, 2, none⟩ = some (.bool ((rd_T46 (rd_L4 l0_4 x12_1) x19_2).f2)) := (blk_cell BK104.out 2).trans rfl
               have hfz29_0 := blk_frozen BK104.out 0
               have hfz29_1 := blk_frozen BK104.out 1
               have hfz29_2 := blk_frozen BK104.out 2
               go_wp2
               go_roundg kj9
               case measure => have := HK1.out; have := HK2.out; have := HJ9.out; omega
               case rel => exact ⟨(x3_2), (wrap64 (x19_2 + 1)), (by first | rfl | (simp; done) | (simp [*]; done)), H', ⟨by have := HK1.out; have := HK2.out; have := HJ9.out; omega⟩, ⟨by (with_reducible repeat (first | apply Kd.R_alloc | apply Kd.R_drewN | apply Kd.R_drew)); exact HO_3.out⟩, ⟨by (with_reducible repeat (first | refine blk_drewN ?_ _ | refine blk_drew ?_ | refine blk_alloc ?_ _)); exact BK101.out⟩, ⟨by repeat (first | (with_reducible first | exact HB.out | apply below_alloc | apply pw_below_drewN | apply below_drew1 | refine below_set ?_ GE101.out | refine below_set ?_ GE104.out) | exact HB.out)⟩⟩
            rw [if_pos c23] at H
            have c23b0 : decide (1 < x8_9) = true := decide_eq_true c23
            clear c23
            by_cases c24 : x3_2.length < 8796093022208
            rotate_left
            · rw [if_neg c24] at H
              exact absurd H (by simp)
            rw [if_pos c24] at H
            have LMc24 := Aside0.mk c24
            clear c24
            obtain ⟨y108, hy108⟩ : ∃ y_ : List (S41), y_ = (x3_2 ++ [(⟨x12_1, x19_2⟩ : S41)]) := ⟨_, rfl⟩
            replace H : (tables_Clashes.l1 kj9 y108 x12_1 l0_4 (l0_4.length : Int) x12_1 (rd_L4 l0_4 x12_1) ((rd_L4 l0_4 x12_1).length : Int) (wrap64 (x19_2 + 1))) = some r := by first | (rw [hy108]; with_reducible exact H) | (have H2_ := (Option.bind_some _ _).symm.trans H; rw [hy108]; with_reducible exact H2_) | (have H2_ := (Option.bind_some _ _).symm.trans H; with_reducible exact H2_) | with_reducible exact H | (rw [hy108]; exact H) | exact H
            have Ny108 := Aside0.mk hy108
            clear hy108
            as_aux_lemma =>
             have H' := Aside0.mk H
             clear H
             have hnb25 := NB104_101.out
             have hnc25 := NB101_104.out
             have hcz26_0 : wc.cell? ⟨gb104, 0, none⟩ = some (.int .i64 ((rd_T46 (rd_L4 l0_4 x12_1) x19_2).f0)) := (blk_cell BK104.out 0).trans rfl
             have hcz26_1 : wc.cell? ⟨gb104, 1, none⟩ = some (.slice A103_1 ((rd_T46 (rd_L4 l0_4 x12_1) x19_2).f1).length c103_1) := (blk_cell BK104.out 1).trans rfl
             have hcz26_2 : wc.cell? ⟨gb104, 2, none⟩ = some (.bool ((rd_T46 (rd_L4 l0_4 x12_1) x19_2).f2)) := (blk_cell BK104.out 2).trans rfl
             have hfz26_0 := blk_frozen BK104.out 0
             have hfz26_1 := blk_frozen BK104.out 1
             have hfz26_2 := blk_frozen BK104.out 2
             go_wp2_with (first | ((with_reducible refine gate_builtin (b := .append) (xs := #[.tmp 38, .tmp 42]) rfl ?_); at_builtin; refine Kd.R_append k41 (w0 := w) w.heap.size rfl (.tmp 38) (.tmp 42) 38 41 (.agg #[(.int .i64 0), (.int .i64 0)]) 16 rfl Tryd.underlying38 info41 rfl (by decide) (by omega) u3 x3_2 (⟨x12_1, x19_2⟩ : S41) [.int .i64 x12_1, .int .i64 x19_2] (fun _ => True) (fun _ => False) rfl rfl ?aP (fun _ hk => hk.elim) ?aF ?aO ?aB ?aS ?aL ?_; (case aP => exact k41_mkM _ _ _ (⟨x12_1, x19_2⟩ : S41)); (case aB => exact (by repeat (first | (with_reducible first | exact HB.out | apply below_alloc | apply pw_below_drewN | apply below_drew1 | refine below_set ?_ GE101.out | refine below_set ?_ GE104.out) | exact HB.out))); (case aF => exact (fun _ _ => trivial)); (case aO => exact (by (with_reducible repeat (first | apply Kd.R_alloc | apply Kd.R_drewN | apply Kd.R_drew)); exact HO_3.out)); (case aS => exact (below_size (by repeat (first | (with_reducible first | exact HB.out | apply below_alloc | apply pw_below_drewN | apply below_drew1 | refine below_set ?_ GE101.out | refine below_set ?_ GE104.out) | exact HB.out)))); (case aL => have := LMc24.out; omega); intro v109 w27 ho hb hg hat; rw [← Ny108.out] at ho; have n0_ := Aside0.mk (blk_grown (g := gb101) (o := .cells #[.int .i64 a0_0, .int .i64 a0_1, .int .i64 a0_2, .slice A0_3 l0_3.length c0_3, .slice (some ad102) l0_4.length c0_4, .slice A0_5 l0_5.length c0_5] 30 (0, 0)) (by (with_reducible repeat (first | refine blk_drewN ?_ _ | refine blk_drew ?_ | refine blk_alloc ?_ _)); exact BK101.out) hg (Kd.R_ne HO_3.out BK101.out (by decide))); have n1_ := Aside0.mk (blk_grown (g := gb104) (o := .cells #[.int .i64 ((rd_T46 (rd_L4 l0_4 x12_1) x19_2).f0), .slice A103_1 ((rd_T46 (rd_L4 l0_4 x12_1) x19_2).f1).length c103_1, .bool ((rd_T46 (rd_L4 l0_4 x12_1) x19_2).f2)] 46 (0, 0)) (by (with_reducible repeat (first | refine blk_drewN ?_ _ | refine blk_drew ?_ | refine blk_alloc ?_ _)); exact BK104.out) hg (Kd.R_ne HO_3.out BK104.out (by decide))); have n2_ := Aside0.mk (hb); have n3_ := Aside0.mk (ho); clear BK101; clear BK104; clear HB; clear HO_3; have BK101 := n0_; have BK104 := n1_; have HB := n2_; have HO110 := n3_; clear n0_ n1_ n2_ n3_; clear ho hb hg hat))
             go_roundg kj9
             case measure => have := HK1.out; have := HK2.out; have := HJ9.out; omega
             case rel => exact ⟨(y108), (wrap64 (x19_2 + 1)), (by first | rfl | (simp; done) | (simp [*]; done)), H', ⟨by have := HK1.out; have := HK2.out; have := HJ9.out; omega⟩, ⟨by (with_reducible repeat (first | apply Kd.R_alloc | apply Kd.R_drewN | apply Kd.R_drew)); exact HO110.out⟩, ⟨by (with_reducible repeat (first | refine blk_drewN ?_ _ | refine blk_drew ?_ | refine blk_alloc ?_ _)); exact BK101.out⟩, ⟨by repeat (first | (with_reducible first | exact HB.out | apply below_alloc | apply pw_below_drewN | apply below_drew1 | refine below_set ?_ GE101.out | refine below_set ?_ GE104.out) | exact HB.out)⟩⟩
          rw [if_pos c15] at H
          have c15b0 : ((rd_T46 (rd_L4 l0_4 x12_1) x19_2).f2) = true := c15
          clear c15
          by_cases c16 : (wrap64 (x8_9 + 1)) > 1
          rotate_left
          · rw [if_neg c16] at H
            have c16b0 : decide (1 < (wrap64 (x8_9 + 1))) = false := decide_eq_false c16
            clear c16
            as_aux_lemma =>
             have H' := Aside0.mk H
             clear H
             have hnb21 := NB104_101.out
             have hnc21 := NB101_104.out
             have hcz22_0 : wc.cell? ⟨gb104, 0, none⟩ = some (.int .i64 ((rd_T46 (rd_L4 l0_4 x12_1) x19_2).f0)) := (blk_cell BK104.out 0).trans rfl
             have hcz22_1 : wc.cell? ⟨gb104, 1, none⟩ = some (.slice A103_1 ((rd_T46 (rd_L4 l0_4 x12_1) x19_2).f1).length c103_1) := (blk_cell BK104.out 1).trans rfl
             have hcz22_2 : wc.cell? ⟨gb104, 2, none⟩ = some (.bool ((rd_T46 (rd_L4 l0_4 x12_1) x19_2).f2)) := (blk_cell BK104.out 2).trans rfl
             have hfz22_0 := blk_frozen BK104.out 0
             have hfz22_1 := blk_frozen BK104.out 1
             have hfz22_2 := blk_frozen BK104.out 2
             go_wp2
             go_roundg kj9
             case measure => have := HK1.out; have := HK2.out; have := HJ9.out; omega
             case rel => exact ⟨(x3_2), (wrap64 (x19_2 + 1)), (by first | rfl | (simp; done) | (simp [*]; done)), H', ⟨by have := HK1.out; have := HK2.out; have := HJ9.out; omega⟩, ⟨by (with_reducible repeat (first | apply Kd.R_alloc | apply Kd.R_drewN | apply Kd.R_drew)); exact HO_3.out⟩, ⟨by (with_reducible repeat (first | refine blk_drewN ?_ _ | refine blk_drew ?_ | refine blk_alloc ?_ _)); exact BK101.out⟩, ⟨by repeat (first | (with_reducible first | exact HB.out | apply below_alloc | apply pw_below_drewN | apply below_drew1 | refine below_set ?_ GE101.out | refine below_set ?_ GE104.out) | exact HB.out)⟩⟩
          rw [if_pos c16] at H
          have c16b0 : decide (1 < (wrap64 (x8_9 + 1))) = true := decide_eq_true c16
          clear c16
          by_cases c17 : x3_2.length < 8796093022208
          rotate_left
          · rw [if_neg c17] at H
            exact absurd H (by simp)
          rw [if_pos c17] at H
          have LMc17 := Aside0.mk c17
          clear c17
          obtain ⟨y105, hy105⟩ : ∃ y_ : List (S41), y_ = (x3_2 ++ [(⟨x12_1, x19_2⟩ : S41)]) := ⟨_, rfl⟩
          replace H : (tables_Clashes.l1 kj9 y105 x12_1 l0_4 (l0_4.length : Int) x12_1 (rd_L4 l0_4 x12_1) ((rd_L4 l0_4 x12_1).length : Int) (wrap64 (x19_2 + 1))) = some r := by first | (rw [hy105]; with_reducible exact H) | (have H2_ := (Option.bind_some _ _).symm.trans H; rw [hy105]; with_reducible exact H2_) | (have H2_ := (Option.bind_some _ _).symm.trans H; with_reducible exact H2_) | with_reducible exact H | (rw [hy105]; exact H) | exact H
          have Ny105 := Aside0.mk hy105
          clear hy105
          as_aux_lemma =>
           have H' := Aside0.mk H
           clear H
           have hnb18 := NB104_101.out
           have hnc18 := NB101_104.out
           have hcz19_0 : wc.cell? ⟨gb104, 0, none⟩ = some (.int .i64 ((rd_T46 (rd_L4 l0_4 x12_1) x19_2).f0)) := (blk_cell BK104.out 0).trans rfl
           have hcz19_1 : wc.cell? ⟨gb104, 1, none⟩ = some (.slice A103_1 ((rd_T46 (rd_L4 l0_4 x12_1) x19_2).f1).length c103_1) := (blk_cell BK104.out 1).trans rfl
           have hcz19_2 : wc.cell? ⟨gb104, 2, none⟩ = some (.bool ((rd_T46 (rd_L4 l0_4 x12_1) x19_2).f2)) := (blk_cell BK104.out 2).trans rfl
           have hfz19_0 := blk_frozen BK104.out 0
           have hfz19_1 := blk_frozen BK104.out 1
           have hfz19_2 := blk_frozen BK104.out 2
           go_wp2_with (first | ((with_reducible refine gate_builtin (b := .append) (xs := #[.tmp 38, .tmp 42]) rfl ?_); at_builtin; refine Kd.R_append k41 (w0 := w) w.heap.size rfl (.tmp 38) (.tmp 42) 38 41 (.agg #[(.int .i64 0), (.int .i64 0)]) 16 rfl Tryd.underlying38 info41 rfl (by decide) (by omega) u3 x3_2 (⟨x12_1, x19_2⟩ : S41) [.int .i64 x12_1, .int .i64 x19_2] (fun _ => True) (fun _ => False) rfl rfl ?aP (fun _ hk => hk.elim) ?aF ?aO ?aB ?aS ?aL ?_; (case aP => exact k41_mkM _ _ _ (⟨x12_1, x19_2⟩ : S41)); (case aB => exact (by repeat (first | (with_reducible first | exact HB.out | apply below_alloc | apply pw_below_drewN | apply below_drew1 | refine below_set ?_ GE101.out | refine below_set ?_ GE104.out) | exact HB.out))); (case aF => exact (fun _ _ => trivial)); (case aO => exact (by (with_reducible repeat (first | apply Kd.R_alloc | apply Kd.R_drewN | apply Kd.R_drew)); exact HO_3.out)); (case aS => exact (below_size (by repeat (first | (with_reducible first | exact HB.out | apply below_alloc | apply pw_below_drewN | apply below_drew1 | refine below_set ?_ GE101.out | refine below_set ?_ GE104.out) | exact HB.out)))); (case aL => have := LMc17.out; omega); intro v106 w20 ho hb hg hat; rw [← Ny105.out] at ho; have n0_ := Aside0.mk (blk_grown (g := gb101) (o := .cells #[.int .i64 a0_0, .int .i64 a0_1, .int .i64 a0_2, .slice A0_3 l0_3.length c0_3, .slice (some ad102) l0_4.length c0_4, .slice A0_5 l0_5.length c0_5] 30 (0, 0)) (by (with_reducible repeat (first | refine blk_drewN ?_ _ | refine blk_drew ?_ | refine blk_alloc ?_ _)); exact BK101.out) hg (Kd.R_ne HO_3.out BK101.out (by decide))); have n1_ := Aside0.mk (blk_grown (g := gb104) (o := .cells #[.int .i64 ((rd_T46 (rd_L4 l0_4 x12_1) x19_2).f0), .slice A103_1 ((rd_T46 (rd_L4 l0_4 x12_1) x19_2).f1).length c103_1, .bool ((rd_T46 (rd_L4 l0_4 x12_1) x19_2).f2)] 46 (0, 0)) (by (with_reducible repeat (first | refine blk_drewN ?_ _ | refine blk_drew ?_ | refine blk_alloc ?_ _)); exact BK104.out) hg (Kd.R_ne HO_3.out BK104.out (by decide))); have n2_ := Aside0.mk (hb); have n3_ := Aside0.mk (ho); clear BK101; clear BK104; clear HB; clear HO_3; have BK101 := n0_; have BK104 := n1_; have HB := n2_; have HO107 := n3_; clear n0_ n1_ n2_ n3_; clear ho hb hg hat))
           go_roundg kj9
           case measure => have := HK1.out; have := HK2.out; have := HJ9.out; omega
           case rel => exact ⟨(y105), (wrap64 (x19_2 + 1)), (by first | rfl | (simp; done) | (simp [*]; done)), H', ⟨by have := HK1.out; have := HK2.out; have := HJ9.out; omega⟩, ⟨by (with_reducible repeat (first | apply Kd.R_alloc | apply Kd.R_drewN | apply Kd.R_drew)); exact HO107.out⟩, ⟨by (with_reducible repeat (first | refine blk_drewN ?_ _ | refine blk_drew ?_ | refine blk_alloc ?_ _)); exact BK101.out⟩, ⟨by repeat (first | (with_reducible first | exact HB.out | apply below_alloc | apply pw_below_drewN | apply below_drew1 | refine below_set ?_ GE101.out | refine below_set ?_ GE104.out) | exact HB.out)⟩⟩
mutual
noncomputable def rootstockref17_Clashes.l0 : Nat → List (S41) → Int → Int → Int → Int → List (S49) → List (List (S46)) → List (List Int) → Option ((List (S41)))
  | 0, _, _, _, _, _, _, _, _ => none
  | k + 1, x3, x4, x112000, x112001, x112002, x112003, x112004, x112005 => if x4 < (x112004.length : Int) then (rootstockref17_Clashes.l1 k x3 x4 0 x112000 x112001 x112002 x112003 x112004 x112005) else (some x3)
noncomputable def rootstockref17_Clashes.l1 : Nat → List (S41) → Int → Int → Int → Int → Int → List (S49) → List (List (S46)) → List (List Int) → Option ((List (S41)))
  | 0, _, _, _, _, _, _, _, _, _ => none
  | k + 1, x3, x4, x5, x112000, x112001, x112002, x112003, x112004, x112005 => if 0 ≤ x4 then (if x4 < (x112004.length : Int) then (if x5 < ((rd_L4 x112004 x4).length : Int) then (if 0 ≤ x5 then (if ((rd_T46 (rd_L4 x112004 x4) x5).f0) ≥ 0 then (rootstockref17_Clashes.j2 k x3 x4 x5 (wrap64 ((((rd_T46 (rd_L4 x112004 x4) x5).f1).length : Int) + 1)) x112000 x112001 x112002 x112003 x112004 x112005 ((rd_T46 (rd_L4 x112004 x4) x5).f0) ((rd_T46 (rd_L4 x112004 x4) x5).f1) ((rd_T46 (rd_L4 x112004 x4) x5).f2)) else (rootstockref17_Clashes.j2 k x3 x4 x5 (((rd_T46 (rd_L4 x112004 x4) x5).f1).length : Int) x112000 x112001 x112002 x112003 x112004 x112005 ((rd_T46 (rd_L4 x112004 x4) x5).f0) ((rd_T46 (rd_L4 x112004 x4) x5).f1) ((rd_T46 (rd_L4 x112004 x4) x5).f2))) else (none)) else (rootstockref17_Clashes.l0 k x3 (wrap64 (x4 + 1)) x112000 x112001 x112002 x112003 x112004 x112005)) else (none)) else (none)
noncomputable def rootstockref17_Clashes.j2 : Nat → List (S41) → Int → Int → Int → Int → Int → Int → List (S49) → List (List (S46)) → List (List Int) → Int → List Int → Bool → Option ((List (S41)))
  | 0, _, _, _, _, _, _, _, _, _, _, _, _, _ => none
  | k + 1, x3, x4, x5, x7, x112000, x112001, x112002, x112003, x112004, x112005, x116000, x116001, x116002 => if x116002 = true then (if (wrap64 (x7 + 1)) > 1 then (if x3.length < 8796093022208 then (rootstockref17_Clashes.l1 k (x3 ++ [(⟨x4, x5⟩ : S41)]) x4 (wrap64 (x5 + 1)) x112000 x112001 x112002 x112003 x112004 x112005) else (none)) else (rootstockref17_Clashes.l1 k x3 x4 (wrap64 (x5 + 1)) x112000 x112001 x112002 x112003 x112004 x112005)) else (if x7 > 1 then (if x3.length < 8796093022208 then (rootstockref17_Clashes.l1 k (x3 ++ [(⟨x4, x5⟩ : S41)]) x4 (wrap64 (x5 + 1)) x112000 x112001 x112002 x112003 x112004 x112005) else (none)) else (rootstockref17_Clashes.l1 k x3 x4 (wrap64 (x5 + 1)) x112000 x112001 x112002 x112003 x112004 x112005))
end
noncomputable def rootstockref17_Clashes.f (k : Nat) (a0_0 : Int) (a0_1 : Int) (a0_2 : Int) (l0_3 : List (S49)) (l0_4 : List (List (S46))) (l0_5 : List (List Int)) : Option ((List (S41))) := rootstockref17_Clashes.l0 k ([] : List (S41)) 0 a0_0 a0_1 a0_2 l0_3 l0_4 l0_5
end Go.Proofs.YtaooejidkeojjaaDoor.PCl
namespace Go.Proofs.YtaooejidkeojjaaDoor.PCl
open Go.RowKit Go.Proofs.YtaooejidkeojjaaDoorW.PrintWords Go.Proofs.YtaooejidkeojjaaDoorW.PrintLast Go.Proofs.YtaooejidkeojjaaDoorW.PrintMore
attribute [local go_sem] max2_int min2_int max_two min_two max_three min_three max_four min_four   -- for this text's walks alone
set_option linter.unusedVariables false
set_option linter.unusedSimpArgs false
attribute [local go_sem high] eqA41
set_option maxHeartbeats 8000000 in
set_option maxRecDepth 100000 in
theorem rootstockref17_Clashes.calls (k : Nat) (a0_0 : Int) (a0_1 : Int) (a0_2 : Int) (A0_3 : Option Addr) (c0_3 : Nat) (l0_3 : List (S49)) (A0_4 : Option Addr) (c0_4 : Nat) (l0_4 : List (List (S46))) (A0_5 : Option Addr) (c0_5 : Nat) (l0_5 : List (List Int)) (r : List (S41)) (w : World) (hr0_3 : Kd.C k49 w A0_3 l0_3.length l0_3) (hc0_3 : l0_3.length ≤ c0_3) (hr0_4 : Kd.C (Kd.slice 46 k46) w A0_4 l0_4.length l0_4) (hc0_4 : l0_4.length ≤ c0_4) (hr0_5 : Kd.C (Kd.slice 3 (Kd.int .i64)) w A0_5 l0_5.length l0_5) (hc0_5 : l0_5.length ≤ c0_5) (h : rootstockref17_Clashes.f k a0_0 a0_1 a0_2 l0_3 l0_4 l0_5 = some r) :
    Calls Tryd.prog 16 #[.agg #[.int .i64 a0_0, .int .i64 a0_1, .int .i64 a0_2, .slice A0_3 l0_3.length c0_3, .slice A0_4 l0_4.length c0_4, .slice A0_5 l0_5.length c0_5]] w fun e w' => ∃ v0_ : Value, e = .returned (v0_) ∧ Kd.R k41 41 w' w.heap.size (fun _ => True) v0_ r ∧ Below w.heap.size w w' := by
 have hu30 := Tryd.underlying30
 have hu46 := Tryd.underlying46
 have hu41 := Tryd.underlying41
 have HR0_3 := Aside0.mk hr0_3
 have HC0_3 := Aside0.mk hc0_3
 clear hr0_3 hc0_3
 have HR0_4 := Aside0.mk hr0_4
 have HC0_4 := Aside0.mk hc0_4
 clear hr0_4 hc0_4
 have HR0_5 := Aside0.mk hr0_5
 have HC0_5 := Aside0.mk hc0_5
 clear hr0_5 hc0_5
 have HB := Aside0.mk (Below.refl w.heap.size w)
 have H : (rootstockref17_Clashes.l0 k ([] : List (S41)) 0 a0_0 a0_1 a0_2 l0_3 l0_4 l0_5) = some r := h
 clear h
 have H' := Aside0.mk H
 clear H
 go_enter Tryd.func16, Tryd.ntmps16
 go_wp2_with (first | ((with_reducible refine gate_dst (N := 1) rfl ?_); refine box_event ?hg (N := 1) ?hd (cs := #[.int .i64 a0_0, .int .i64 a0_1, .int .i64 a0_2, .slice A0_3 l0_3.length c0_3, .slice A0_4 l0_4.length c0_4, .slice A0_5 l0_5.length c0_5]) (t := 30) ?hr ?_; (case hd => rfl); (case hg => rfl); (case hr => first | (go_simp; done) | (go_simp; rfl)); intro gb111 hg w2 hbox hb; have n0_ := Aside0.mk (below_step (by repeat (first | (with_reducible first | exact HB.out | apply below_alloc | apply pw_below_drewN | apply below_drew1) | exact HB.out)) hb); have n1_ := Aside0.mk (hbox); have n2_ := Aside0.mk ((by rw [hg]; exact (below_size (by repeat (first | (with_reducible first | exact HB.out | apply below_alloc | apply pw_below_drewN | apply below_drew1) | exact HB.out))) : w.heap.size ≤ gb111)); have n3_ := Aside0.mk ((by rw [hg]; exact (below_size (by repeat (first | (with_reducible first | exact HB.out | apply below_alloc | apply pw_below_drewN | apply below_drew1) | exact HB.out))) : w.heap.size ≤ gb111)); clear HB; have HB := n0_; have BK111 := n1_; have GW111 := n2_; have GE111 := n3_; clear n0_ n1_ n2_ n3_; clear hb hbox hg))
 go_loopg [3, 4] k (fun kq v3 v4 w' => ∃ (x3_1 : List (S41)) (x4_1 : Int), v4 = .int .i64 x4_1 ∧ Aside0 (rootstockref17_Clashes.l0 kq x3_1 x4_1 a0_0 a0_1 a0_2 l0_3 l0_4 l0_5 = some r) ∧ Aside0 (kq ≤ k) ∧ Aside0 (Kd.R k41 41 w' w.heap.size (fun _ => True) v3 x3_1) ∧ Aside0 (w'.heap[gb111]? = some (.cells #[.int .i64 a0_0, .int .i64 a0_1, .int .i64 a0_2, (.slice A0_3 l0_3.length c0_3), (.slice A0_4 l0_4.length c0_4), (.slice A0_5 l0_5.length c0_5)] 30 (0, 0))) ∧ Aside0 (Below w.heap.size w w'))
 case atStart => exact ⟨(([] : List (S41))), (0), (by first | rfl | (simp; done) | (simp [*]; done)), H', ⟨Nat.le_refl _⟩, ⟨by first | exact Kd.R_nil _ _ _ _ _ | exact Kd.N_nil _ _ _ _ _ | exact Kd.V_nil _ _ _ _ _ | exact Kd.Q_nil _ _ _ _ _ | exact Kd.S_nil _ _ _ _ _⟩, ⟨by (with_reducible repeat (first | refine blk_drewN ?_ _ | refine blk_drew ?_ | refine blk_alloc ?_ _)); exact BK111.out⟩, ⟨by repeat (first | (with_reducible first | exact HB.out | apply below_alloc | apply pw_below_drewN | apply below_drew1 | refine below_set ?_ GE111.out) | exact HB.out)⟩⟩
 case round =>
  as_aux_lemma =>
   clear H'
   try clear c1
   try clear p2
   obtain ⟨x3_1, x4_1, rfl, HA, HK1, HO_3, BK111, HB⟩ := hrel
   cases gk with
   | zero => exact absurd HA.out (by simp [rootstockref17_Clashes.l0])
   | succ k1 =>
    have H := HA.out
    clear HA
    simp only [rootstockref17_Clashes.l0] at H
    by_cases c3 : x4_1 < (l0_4.length : Int)
    rotate_left
    · rw [if_neg c3] at H
      have c3b0 : decide (x4_1 < (l0_4.length : Int)) = false := decide_eq_false c3
      clear c3
      as_aux_lemma =>
       obtain rfl := Option.some.inj H
       have hcz31_0 : wr.cell? ⟨gb111, 0, none⟩ = some (.int .i64 a0_0) := (blk_cell BK111.out 0).trans rfl
       have hcz31_1 : wr.cell? ⟨gb111, 1, none⟩ = some (.int .i64 a0_1) := (blk_cell BK111.out 1).trans rfl
       have hcz31_2 : wr.cell? ⟨gb111, 2, none⟩ = some (.int .i64 a0_2) := (blk_cell BK111.out 2).trans rfl
       have hcz31_3 : wr.cell? ⟨gb111, 3, none⟩ = some (.slice A0_3 l0_3.length c0_3) := (blk_cell BK111.out 3).trans rfl
       have hcz31_4 : wr.cell? ⟨gb111, 4, none⟩ = some (.slice A0_4 l0_4.length c0_4) := (blk_cell BK111.out 4).trans rfl
       have hcz31_5 : wr.cell? ⟨gb111, 5, none⟩ = some (.slice A0_5 l0_5.length c0_5) := (blk_cell BK111.out 5).trans rfl
       have hfz31_0 := blk_frozen BK111.out 0
       have hfz31_1 := blk_frozen BK111.out 1
       have hfz31_2 := blk_frozen BK111.out 2
       have hfz31_3 := blk_frozen BK111.out 3
       have hfz31_4 := blk_frozen BK111.out 4
       have hfz31_5 := blk_frozen BK111.out 5
       go_wp2
       go_ret
       exact ⟨_, by first | rfl | (simp [errW_none, errW_some] <;> rfl) | (simp [*, errW_none, errW_some] <;> rfl), by (with_reducible repeat (first | apply Kd.R_alloc | apply Kd.R_drewN | apply Kd.R_drew)); exact HO_3.out, by repeat (first | (with_reducible first | exact HB.out | apply below_alloc | apply pw_below_drewN | apply below_drew1 | refine below_set ?_ GE111.out) | exact HB.out)⟩
    rw [if_pos c3] at H
    have c3b0 : decide (x4_1 < (l0_4.length : Int)) = true := decide_eq_true c3
    clear c3
    have H' := Aside0.mk H
    clear H
    have hcz4_0 : wr.cell? ⟨gb111, 0, none⟩ = some (.int .i64 a0_0) := (blk_cell BK111.out 0).trans rfl
    have hcz4_1 : wr.cell? ⟨gb111, 1, none⟩ = some (.int .i64 a0_1) := (blk_cell BK111.out 1).trans rfl
    have hcz4_2 : wr.cell? ⟨gb111, 2, none⟩ = some (.int .i64 a0_2) := (blk_cell BK111.out 2).trans rfl
    have hcz4_3 : wr.cell? ⟨gb111, 3, none⟩ = some (.slice A0_3 l0_3.length c0_3) := (blk_cell BK111.out 3).trans rfl
    have hcz4_4 : wr.cell? ⟨gb111, 4, none⟩ = some (.slice A0_4 l0_4.length c0_4) := (blk_cell BK111.out 4).trans rfl
    have hcz4_5 : wr.cell? ⟨gb111, 5, none⟩ = some (.slice A0_5 l0_5.length c0_5) := (blk_cell BK111.out 5).trans rfl
    have hfz4_0 := blk_frozen BK111.out 0
    have hfz4_1 := blk_frozen BK111.out 1
    have hfz4_2 := blk_frozen BK111.out 2
    have hfz4_3 := blk_frozen BK111.out 3
    have hfz4_4 := blk_frozen BK111.out 4
    have hfz4_5 := blk_frozen BK111.out 5
    go_wp2
    go_loopg [3, 5] k1 (fun kq v3 v5 w' => ∃ (x3_2 : List (S41)) (x5_2 : Int), v5 = .int .i64 x5_2 ∧ Aside0 (rootstockref17_Clashes.l1 kq x3_2 x4_1 x5_2 a0_0 a0_1 a0_2 l0_3 l0_4 l0_5 = some r) ∧ Aside0 (kq ≤ k1) ∧ Aside0 (Kd.R k41 41 w' w.heap.size (fun _ => True) v3 x3_2) ∧ Aside0 (w'.heap[gb111]? = some (.cells #[.int .i64 a0_0, .int .i64 a0_1, .int .i64 a0_2, (.slice A0_3 l0_3.length c0_3), (.slice A0_4 l0_4.length c0_4), (.slice A0_5 l0_5.length c0_5)] 30 (0, 0))) ∧ Aside0 (Below w.heap.size w w'))
    case atStart => exact ⟨(x3_1), (0), (by first | rfl | (simp; done) | (simp [*]; done)), H', ⟨Nat.le_refl _⟩, ⟨by (with_reducible repeat (first | apply Kd.R_alloc | apply Kd.R_drewN | apply Kd.R_drew)); exact HO_3.out⟩, ⟨by (with_reducible repeat (first | refine blk_drewN ?_ _ | refine blk_drew ?_ | refine blk_alloc ?_ _)); exact BK111.out⟩, ⟨by repeat (first | (with_reducible first | exact HB.out | apply below_alloc | apply pw_below_drewN | apply below_drew1 | refine below_set ?_ GE111.out) | exact HB.out)⟩⟩
    case round =>
     as_aux_lemma =>
      clear H'
      try clear c1
      try clear p2
      try clear c3
      try clear c3b0
      try clear hcz4_0
      try clear hcz4_1
      try clear hcz4_2
      try clear hcz4_3
      try clear hcz4_4
      try clear hcz4_5
      try clear hfz4_0
      try clear hfz4_1
      try clear hfz4_2
      try clear hfz4_3
      try clear hfz4_4
      try clear hfz4_5
      try clear p2
      obtain ⟨x3_2, x5_2, rfl, HA, HK2, HO_3, BK111, HB⟩ := hrel
      cases gk with
      | zero => exact absurd HA.out (by simp [rootstockref17_Clashes.l1])
      | succ k2 =>
       have H := HA.out
       clear HA
       simp only [rootstockref17_Clashes.l1] at H
       by_cases c5 : 0 ≤ x4_1
       rotate_left
       · rw [if_neg c5] at H
         exact absurd H (by simp)
       rw [if_pos c5] at H
       have c5b0 : decide (0 ≤ x4_1) = true := decide_eq_true c5
       clear c5
       by_cases c6 : x4_1 < (l0_4.length : Int)
       rotate_left
       · rw [if_neg c6] at H
         exact absurd H (by simp)
       rw [if_pos c6] at H
       have c6b0 : decide (x4_1 < (l0_4.length : Int)) = true := decide_eq_true c6
       clear c6
       by_cases c7 : x5_2 < ((rd_L4 l0_4 x4_1).length : Int)
       rotate_left
       · rw [if_neg c7] at H
         have c7b0 : decide (x5_2 < ((rd_L4 l0_4 x4_1).length : Int)) = false := decide_eq_false c7
         clear c7
         as_aux_lemma =>
          have H' := Aside0.mk H
          clear H
          have hcz30_0 : wr.cell? ⟨gb111, 0, none⟩ = some (.int .i64 a0_0) := (blk_cell BK111.out 0).trans rfl
          have hcz30_1 : wr.cell? ⟨gb111, 1, none⟩ = some (.int .i64 a0_1) := (blk_cell BK111.out 1).trans rfl
          have hcz30_2 : wr.cell? ⟨gb111, 2, none⟩ = some (.int .i64 a0_2) := (blk_cell BK111.out 2).trans rfl
          have hcz30_3 : wr.cell? ⟨gb111, 3, none⟩ = some (.slice A0_3 l0_3.length c0_3) := (blk_cell BK111.out 3).trans rfl
          have hcz30_4 : wr.cell? ⟨gb111, 4, none⟩ = some (.slice A0_4 l0_4.length c0_4) := (blk_cell BK111.out 4).trans rfl
          have hcz30_5 : wr.cell? ⟨gb111, 5, none⟩ = some (.slice A0_5 l0_5.length c0_5) := (blk_cell BK111.out 5).trans rfl
          have hfz30_0 := blk_frozen BK111.out 0
          have hfz30_1 := blk_frozen BK111.out 1
          have hfz30_2 := blk_frozen BK111.out 2
          have hfz30_3 := blk_frozen BK111.out 3
          have hfz30_4 := blk_frozen BK111.out 4
          have hfz30_5 := blk_frozen BK111.out 5
          have p112 : 0 ≤ (x4_1 : Int) := of_decide_eq_true (by first | (with_reducible assumption) | assumption)
          have q112 : x4_1 < (l0_4.length : Int) := of_decide_eq_true (by first | (with_reducible assumption) | assumption)
          obtain ⟨ad112, A112_0, c112_0, e112, hx112_0, hl112_0, hi112_0⟩ := at_L4 HR0_4.out x4_1 p112 q112
          cases e112
          replace hx112_0 := (HB.out.cell (World.block_lt_of_cell? w _ hx112_0)).trans hx112_0
          have HR112_0 := Aside0.mk hi112_0
          have HC112_0 := Aside0.mk hl112_0
          clear hi112_0 hl112_0
          replace p112 := eq_true p112
          replace q112 := eq_true q112
          go_wp2
          go_roundg k2
          case measure => have := HK1.out; have := HK2.out; omega
          case rel => exact ⟨(x3_2), (wrap64 (x4_1 + 1)), (by first | rfl | (simp; done) | (simp [*]; done)), H', ⟨by have := HK1.out; have := HK2.out; omega⟩, ⟨by (with_reducible repeat (first | apply Kd.R_alloc | apply Kd.R_drewN | apply Kd.R_drew)); exact HO_3.out⟩, ⟨by (with_reducible repeat (first | refine blk_drewN ?_ _ | refine blk_drew ?_ | refine blk_alloc ?_ _)); exact BK111.out⟩, ⟨by repeat (first | (with_reducible first | exact HB.out | apply below_alloc | apply pw_below_drewN | apply below_drew1 | refine below_set ?_ GE111.out) | exact HB.out)⟩⟩
       rw [if_pos c7] at H
       have c7b0 : decide (x5_2 < ((rd_L4 l0_4 x4_1).length : Int)) = true := decide_eq_true c7
       clear c7
       by_cases c8 : 0 ≤ x5_2
       rotate_left
       · rw [if_neg c8] at H
         exact absurd H (by simp)
       rw [if_pos c8] at H
       have c8b0 : decide (0 ≤ x5_2) = true := decide_eq_true c8
       clear c8
       have HC9 := Aside0.mk H
       clear H
       have hcz10_0 : wr.cell? ⟨gb111, 0, none⟩ = some (.int .i64 a0_0) := (blk_cell BK111.out 0).trans rfl
       have hcz10_1 : wr.cell? ⟨gb111, 1, none⟩ = some (.int .i64 a0_1) := (blk_cell BK111.out 1).trans rfl
       have hcz10_2 : wr.cell? ⟨gb111, 2, none⟩ = some (.int .i64 a0_2) := (blk_cell BK111.out 2).trans rfl
       have hcz10_3 : wr.cell? ⟨gb111, 3, none⟩ = some (.slice A0_3 l0_3.length c0_3) := (blk_cell BK111.out 3).trans rfl
       have hcz10_4 : wr.cell? ⟨gb111, 4, none⟩ = some (.slice A0_4 l0_4.length c0_4) := (blk_cell BK111.out 4).trans rfl
       have hcz10_5 : wr.cell? ⟨gb111, 5, none⟩ = some (.slice A0_5 l0_5.length c0_5) := (blk_cell BK111.out 5).trans rfl
       have hfz10_0 := blk_frozen BK111.out 0
       have hfz10_1 := blk_frozen BK111.out 1
       have hfz10_2 := blk_frozen BK111.out 2
       have hfz10_3 := blk_frozen BK111.out 3
       have hfz10_4 := blk_frozen BK111.out 4
       have hfz10_5 := blk_frozen BK111.out 5
       have p112 : 0 ≤ (x4_1 : Int) := of_decide_eq_true (by first | (with_reducible assumption) | assumption)
       have q112 : x4_1 < (l0_4.length : Int) := of_decide_eq_true (by first | (with_reducible assumption) | assumption)
       obtain ⟨ad112, A112_0, c112_0, e112, hx112_0, hl112_0, hi112_0⟩ := at_L4 HR0_4.out x4_1 p112 q112
       cases e112
       replace hx112_0 := (HB.out.cell (World.block_lt_of_cell? w _ hx112_0)).trans hx112_0
       have HR112_0 := Aside0.mk hi112_0
       have HC112_0 := Aside0.mk hl112_0
       clear hi112_0 hl112_0
       replace p112 := eq_true p112
       replace q112 := eq_true q112
       have p113 : 0 ≤ (x4_1 : Int) := of_decide_eq_true (by first | (with_reducible assumption) | assumption)
       have q113 : x4_1 < (l0_4.length : Int) := of_decide_eq_true (by first | (with_reducible assumption) | assumption)
       obtain ⟨ad113, A113_0, c113_0, e113, hx113_0, hl113_0, hi113_0⟩ := at_L4 HR0_4.out x4_1 p113 q113
       obtain rfl : ad112 = ad113 := (by injection e113)
       replace hx113_0 := (HB.out.cell (World.block_lt_of_cell? w _ hx113_0)).trans hx113_0
       have HR113_0 := Aside0.mk hi113_0
       have HC113_0 := Aside0.mk hl113_0
       clear hi113_0 hl113_0
       replace p113 := eq_true p113
       replace q113 := eq_true q113
       have ea_ := Option.some.inj (hx112_0.symm.trans hx113_0)
       injection ea_ with ea_ en_ ec_
       subst ea_
       subst ec_
       clear en_
       have p114 : 0 ≤ (x5_2 : Int) := of_decide_eq_true (by first | (with_reducible assumption) | assumption)
       have q114 : x5_2 < ((rd_L4 l0_4 x4_1).length : Int) := of_decide_eq_true (by first | (with_reducible assumption) | assumption)
       obtain ⟨ad114, A114_1, c114_1, e114, hx114_0, hx114_1, hx114_2, hl114_1, hi114_1⟩ := at_T46 HR113_0.out x5_2 p114 q114
       cases e114
       replace hx114_0 := (HB.out.cell (World.block_lt_of_cell? w _ hx114_0)).trans hx114_0
       replace hx114_1 := (HB.out.cell (World.block_lt_of_cell? w _ hx114_1)).trans hx114_1
       replace hx114_2 := (HB.out.cell (World.block_lt_of_cell? w _ hx114_2)).trans hx114_2
       have HR114_1 := Aside0.mk hi114_1
       have HC114_1 := Aside0.mk hl114_1
       clear hi114_1 hl114_1
       replace p114 := eq_true p114
       replace q114 := eq_true q114
       go_upto_if 38 with (first | ((with_reducible refine gate_dst (N := 6) rfl ?_); refine box_event ?hg (N := 6) ?hd (cs := #[.int .i64 0, .slice none 0 0, .bool false]) (t := 46) ?hr ?_; (case hd => rfl); (case hg => rfl); (case hr => first | (go_simp; done) | (go_simp; rfl)); intro gb115 hg w11 hbox hb; have n0_ := Aside0.mk (Kd.R_below (by (with_reducible repeat (first | apply Kd.R_alloc | apply Kd.R_drewN | apply Kd.R_drew)); exact HO_3.out) hb); have n1_ := Aside0.mk (blk_below (g := gb111) (o := .cells #[.int .i64 a0_0, .int .i64 a0_1, .int .i64 a0_2, .slice A0_3 l0_3.length c0_3, .slice (some ad112) l0_4.length c0_4, .slice A0_5 l0_5.length c0_5] 30 (0, 0)) (by (with_reducible repeat (first | refine blk_drewN ?_ _ | refine blk_drew ?_ | refine blk_alloc ?_ _)); exact BK111.out) hb); have n2_ := Aside0.mk (below_step (by repeat (first | (with_reducible first | exact HB.out | apply below_alloc | apply pw_below_drewN | apply below_drew1 | refine below_set ?_ GE111.out) | exact HB.out)) hb); have n3_ := Aside0.mk (hbox); have n4_ := Aside0.mk ((by rw [hg]; exact (below_size (by repeat (first | (with_reducible first | exact HB.out | apply below_alloc | apply pw_below_drewN | apply below_drew1 | refine below_set ?_ GE111.out) | exact HB.out))) : w.heap.size ≤ gb115)); have n5_ := Aside0.mk ((by rw [hg]; exact (below_size (by repeat (first | (with_reducible first | exact HB.out | apply below_alloc | apply pw_below_drewN | apply below_drew1 | refine below_set ?_ GE111.out) | exact HB.out))) : w.heap.size ≤ gb115)); have n6_ := Aside0.mk ((by rw [hg]; exact Nat.ne_of_lt (blk_lt (g := gb111) (o := .cells #[.int .i64 a0_0, .int .i64 a0_1, .int .i64 a0_2, .slice A0_3 l0_3.length c0_3, .slice (some ad112) l0_4.length c0_4, .slice A0_5 l0_5.length c0_5] 30 (0, 0)) (by (with_reducible repeat (first | refine blk_drewN ?_ _ | refine blk_drew ?_ | refine blk_alloc ?_ _)); exact BK111.out)) : gb111 ≠ gb115)); have n7_ := Aside0.mk ((by rw [hg]; exact Nat.ne_of_gt (blk_lt (g := gb111) (o := .cells #[.int .i64 a0_0, .int .i64 a0_1, .int .i64 a0_2, .slice A0_3 l0_3.length c0_3, .slice (some ad112) l0_4.length c0_4, .slice A0_5 l0_5.length c0_5] 30 (0, 0)) (by (with_reducible repeat (first | refine blk_drewN ?_ _ | refine blk_drew ?_ | refine blk_alloc ?_ _)); exact BK111.out)) : gb115 ≠ gb111)); clear HO_3; clear BK111; clear HB; have HO_3 := n0_; have BK111 := n1_; have HB := n2_; have BK115 := n3_; have GW115 := n4_; have GE115 := n5_; have NB111_115 := n6_; have NB115_111 := n7_; clear n0_ n1_ n2_ n3_ n4_ n5_ n6_ n7_; clear hb hbox hg; have hnb12 := NB115_111.out; have hnc12 := NB111_115.out; have hcz13_0 : w11.cell? ⟨gb115, 0, none⟩ = some (.int .i64 0) := (blk_cell BK115.out 0).trans rfl; have hcz13_1 : w11.cell? ⟨gb115, 1, none⟩ = some (.slice none 0 0) := (blk_cell BK115.out 1).trans rfl; have hcz13_2 : w11.cell? ⟨gb115, 2, none⟩ = some (.bool false) := (blk_cell BK115.out 2).trans rfl; have hfz13_0 := blk_frozen BK115.out 0; have hfz13_1 := blk_frozen BK115.out 1; have hfz13_2 := blk_frozen BK115.out 2))
       (try simp only [Act.put, List.setIfInBounds_toArray, List.set_cons_zero, List.set_cons_succ])
       go_cut [7] (fun v7 wc => ∃ (kq : Nat) (x7_8 : Int), v7 = .int .i64 x7_8 ∧ Aside0 (rootstockref17_Clashes.j2 kq x3_2 x4_1 x5_2 x7_8 a0_0 a0_1 a0_2 l0_3 l0_4 l0_5 ((rd_T46 (rd_L4 l0_4 x4_1) x5_2).f0) ((rd_T46 (rd_L4 l0_4 x4_1) x5_2).f1) ((rd_T46 (rd_L4 l0_4 x4_1) x5_2).f2) = some r) ∧ Aside0 (kq ≤ k2) ∧ Aside0 (Kd.R k41 41 wc w.heap.size (fun _ => True) u3 x3_2) ∧ Aside0 (wc.heap[gb111]? = some (.cells #[.int .i64 a0_0, .int .i64 a0_1, .int .i64 a0_2, (.slice A0_3 l0_3.length c0_3), (.slice (some ad112) l0_4.length c0_4), (.slice A0_5 l0_5.length c0_5)] 30 (0, 0))) ∧ Aside0 (wc.heap[gb115]? = some (.cells #[.int .i64 ((rd_T46 (rd_L4 l0_4 x4_1) x5_2).f0), (.slice A114_1 ((rd_T46 (rd_L4 l0_4 x4_1) x5_2).f1).length c114_1), .bool ((rd_T46 (rd_L4 l0_4 x4_1) x5_2).f2)] 46 (0, 0))) ∧ Aside0 (Below w.heap.size w wc))
       case first =>
        have H := HC9.out
        clear HC9
        by_cases c14 : ((rd_T46 (rd_L4 l0_4 x4_1) x5_2).f0) ≥ 0
        rotate_left
        · rw [if_neg c14] at H
          have c14b0 : decide (0 ≤ ((rd_T46 (rd_L4 l0_4 x4_1) x5_2).f0)) = false := decide_eq_false c14
          clear c14
          (first | rw [c14b0] | (simp only [i64_w, i32_w]; rw [c14b0]) | skip)
          as_aux_lemma =>
           have H' := Aside0.mk H
           clear H
           go_wp2
           go_meet
           case rel => exact ⟨_, ((((rd_T46 (rd_L4 l0_4 x4_1) x5_2).f1).length : Int)), (by first | rfl | (simp; done) | (simp [*]; done)), H', ⟨by have := HK1.out; have := HK2.out; first | omega | exact Nat.le_refl _⟩, ⟨by (with_reducible repeat (first | apply Kd.R_alloc | apply Kd.R_drewN | apply Kd.R_drew)); exact Kd.R_mono (Kd.R_far (p := ⟨gb115, 2, none⟩) (Kd.R_far (p := ⟨gb115, 1, none⟩) (Kd.R_far (p := ⟨gb115, 0, none⟩) (Kd.R_types HO_3.out BK115.out (by decide)) (fun _ hk => hk.2) (.int .i64 ((rd_T46 (rd_L4 l0_4 x4_1) x5_2).f0))) (fun _ hk => hk.2) (.slice A114_1 ((rd_T46 (rd_L4 l0_4 x4_1) x5_2).f1).length c114_1)) (fun _ hk => hk.2) (.bool ((rd_T46 (rd_L4 l0_4 x4_1) x5_2).f2))) (fun _ hk => trivial)⟩, ⟨by (with_reducible repeat (first | refine blk_drewN ?_ _ | refine blk_drew ?_ | refine blk_alloc ?_ _)); refine blk_far ?_ NB111_115.out _; (with_reducible repeat (first | refine blk_drewN ?_ _ | refine blk_drew ?_ | refine blk_alloc ?_ _)); refine blk_far ?_ NB111_115.out _; (with_reducible repeat (first | refine blk_drewN ?_ _ | refine blk_drew ?_ | refine blk_alloc ?_ _)); refine blk_far ?_ NB111_115.out _; (with_reducible repeat (first | refine blk_drewN ?_ _ | refine blk_drew ?_ | refine blk_alloc ?_ _)); exact BK111.out⟩, ⟨by (with_reducible repeat (first | refine blk_drewN ?_ _ | refine blk_drew ?_ | refine blk_alloc ?_ _)); refine blk_put (cs := #[.int .i64 ((rd_T46 (rd_L4 l0_4 x4_1) x5_2).f0), .slice A114_1 ((rd_T46 (rd_L4 l0_4 x4_1) x5_2).f1).length c114_1, .bool false]) ?_ 2 _ rfl; (with_reducible repeat (first | refine blk_drewN ?_ _ | refine blk_drew ?_ | refine blk_alloc ?_ _)); refine blk_put (cs := #[.int .i64 ((rd_T46 (rd_L4 l0_4 x4_1) x5_2).f0), .slice none 0 0, .bool false]) ?_ 1 _ rfl; (with_reducible repeat (first | refine blk_drewN ?_ _ | refine blk_drew ?_ | refine blk_alloc ?_ _)); refine blk_put (cs := #[.int .i64 0, .slice none 0 0, .bool false]) ?_ 0 _ rfl; (with_reducible repeat (first | refine blk_drewN ?_ _ | refine blk_drew ?_ | refine blk_alloc ?_ _)); exact BK115.out⟩, ⟨by repeat (first | (with_reducible first | exact HB.out | apply below_alloc | apply pw_below_drewN | apply below_drew1 | refine below_set ?_ GE111.out | refine below_set ?_ GE115.out) | exact HB.out)⟩⟩
        rw [if_pos c14] at H
        have c14b0 : decide (0 ≤ ((rd_T46 (rd_L4 l0_4 x4_1) x5_2).f0)) = true := decide_eq_true c14
        clear c14
        (first | rw [c14b0] | (simp only [i64_w, i32_w]; rw [c14b0]) | skip)
        as_aux_lemma =>
         have H' := Aside0.mk H
         clear H
         go_wp2
         go_meet
         case rel => exact ⟨_, (wrap64 ((((rd_T46 (rd_L4 l0_4 x4_1) x5_2).f1).length : Int) + 1)), (by first | rfl | (simp; done) | (simp [*]; done)), H', ⟨by have := HK1.out; have := HK2.out; first | omega | exact Nat.le_refl _⟩, ⟨by (with_reducible repeat (first | apply Kd.R_alloc | apply Kd.R_drewN | apply Kd.R_drew)); exact Kd.R_mono (Kd.R_far (p := ⟨gb115, 2, none⟩) (Kd.R_far (p := ⟨gb115, 1, none⟩) (Kd.R_far (p := ⟨gb115, 0, none⟩) (Kd.R_types HO_3.out BK115.out (by decide)) (fun _ hk => hk.2) (.int .i64 ((rd_T46 (rd_L4 l0_4 x4_1) x5_2).f0))) (fun _ hk => hk.2) (.slice A114_1 ((rd_T46 (rd_L4 l0_4 x4_1) x5_2).f1).length c114_1)) (fun _ hk => hk.2) (.bool ((rd_T46 (rd_L4 l0_4 x4_1) x5_2).f2))) (fun _ hk => trivial)⟩, ⟨by (with_reducible repeat (first | refine blk_drewN ?_ _ | refine blk_drew ?_ | refine blk_alloc ?_ _)); refine blk_far ?_ NB111_115.out _; (with_reducible repeat (first | refine blk_drewN ?_ _ | refine blk_drew ?_ | refine blk_alloc ?_ _)); refine blk_far ?_ NB111_115.out _; (with_reducible repeat (first | refine blk_drewN ?_ _ | refine blk_drew ?_ | refine blk_alloc ?_ _)); refine blk_far ?_ NB111_115.out _; (with_reducible repeat (first | refine blk_drewN ?_ _ | refine blk_drew ?_ | refine blk_alloc ?_ _)); exact BK111.out⟩, ⟨by (with_reducible repeat (first | refine blk_drewN ?_ _ | refine blk_drew ?_ | refine blk_alloc ?_ _)); refine blk_put (cs := #[.int .i64 ((rd_T46 (rd_L4 l0_4 x4_1) x5_2).f0), .slice A114_1 ((rd_T46 (rd_L4 l0_4 x4_1) x5_2).f1).length c114_1, .bool false]) ?_ 2 _ rfl; (with_reducible repeat (first | refine blk_drewN ?_ _ | refine blk_drew ?_ | refine blk_alloc ?_ _)); refine blk_put (cs := #[.int .i64 ((rd_T46 (rd_L4 l0_4 x4_1) x5_2).f0), .slice none 0 0, .bool false]) ?_ 1 _ rfl; (with_reducible repeat (first | refine blk_drewN ?_ _ | refine blk_drew ?_ | refine blk_alloc ?_ _)); refine blk_put (cs := #[.int .i64 0, .slice none 0 0, .bool false]) ?_ 0 _ rfl; (with_reducible repeat (first | refine blk_drewN ?_ _ | refine blk_drew ?_ | refine blk_alloc ?_ _)); exact BK115.out⟩, ⟨by repeat (first | (with_reducible first | exact HB.out | apply below_alloc | apply pw_below_drewN | apply below_drew1 | refine below_set ?_ GE111.out | refine below_set ?_ GE115.out) | exact HB.out)⟩⟩
       case rest =>
        as_aux_lemma =>
         clear HC9
         try clear c1
         try clear p1
         try clear q1
         try clear hx1
         try clear p2
         try clear c3
         try clear c3b0
         try clear c5
         try clear c5b0
         try clear c6
         try clear c6b0
         try clear p6
         try clear c7
         try clear c7b0
         try clear c8
         try clear c8b0
         try clear c11
         try clear p11
         try clear q11
         try clear hx11
         try clear c12
         try clear c14
         try clear c14b0
         try clear hcz10_0
         try clear hcz10_1
         try clear hcz10_2
         try clear hcz10_3
         try clear hcz10_4
         try clear hcz10_5
         try clear hcz13_0
         try clear hcz13_1
         try clear hcz13_2
         try clear hcz4_0
         try clear hcz4_1
         try clear hcz4_2
         try clear hcz4_3
         try clear hcz4_4
         try clear hcz4_5
         try clear hfz10_0
         try clear hfz10_1
         try clear hfz10_2
         try clear hfz10_3
         try clear hfz10_4
         try clear hfz10_5
         try clear hfz13_0
         try clear hfz13_1
         try clear hfz13_2
         try clear hfz4_0
         try clear hfz4_1
         try clear hfz4_2
         try clear hfz4_3
         try clear hfz4_4
         try clear hfz4_5
         try clear hx112_0
         try clear hx113_0
         try clear hx114_0
         try clear hx114_1
         try clear hx114_2
         try clear p112
         try clear p113
         try clear p114
         try clear p2
         try clear q112
         try clear q113
         try clear q114
         obtain ⟨kq, x7_8, rfl, HA, HJ8, HO_3, BK111, BK115, HB⟩ := hcut
         cases kq with
         | zero => exact absurd HA.out (by simp [rootstockref17_Clashes.j2])
         | succ kj8 =>
          have H := HA.out
          clear HA
          simp only [rootstockref17_Clashes.j2] at H
          by_cases c15 : ((rd_T46 (rd_L4 l0_4 x4_1) x5_2).f2) = true
          rotate_left
          · rw [if_neg c15] at H
            have c15b0 : ((rd_T46 (rd_L4 l0_4 x4_1) x5_2).f2) = false := by simpa using c15
            clear c15
            by_cases c23 : x7_8 > 1
            rotate_left
            · rw [if_neg c23] at H
              have c23b0 : decide (1 < x7_8) = false := decide_eq_false c23
              clear c23
              as_aux_lemma =>
               have H' := Aside0.mk H
               clear H
               have hnb28 := NB115_111.out
               have hnc28 := NB111_115.out
               have hcz29_0 : wc.cell? ⟨gb115, 0, none⟩ = some (.int .i64 ((rd_T46 (rd_L4 l0_4 x4_1) x5_2).f0)) := (blk_cell BK115.out 0).trans rfl
               have hcz29_1 : wc.cell? ⟨gb115, 1, none⟩ = some (.slice A114_1 ((rd_T46 (rd_L4 l0_4 x4_1) x5_2).f1).length c114_1) := (blk_cell BK115.out 1).trans rfl
               have hcz29_2 : wc.cell? ⟨gb115, 2, none⟩ = some (.bool ((rd_T46 (rd_L4 l0_4 x4_1) x5_2).f2)) := (blk_cell BK115.out 2).trans rfl
               have hfz29_0 := blk_frozen BK115.out 0
               have hfz29_1 := blk_frozen BK115.out 1
               have hfz29_2 := blk_frozen BK115.out 2
               go_wp2
               go_roundg kj8
               case measure => have := HK1.out; have := HK2.out; have := HJ8.out; omega
               case rel => exact ⟨(x3_2), (wrap64 (x5_2 + 1)), (by first | rfl | (simp; done) | (simp [*]; done)), H', ⟨by have := HK1.out; have := HK2.out; have := HJ8.out; omega⟩, ⟨by (with_reducible repeat (first | apply Kd.R_alloc | apply Kd.R_drewN | apply Kd.R_drew)); exact HO_3.out⟩, ⟨by (with_reducible repeat (first | refine blk_drewN ?_ _ | refine blk_drew ?_ | refine blk_alloc ?_ _)); exact BK111.out⟩, ⟨by repeat (first | (with_reducible first | exact HB.out | apply below_alloc | apply pw_below_drewN | apply below_drew1 | refine below_set ?_ GE111.out | refine below_set ?_ GE115.out) | exact HB.out)⟩⟩
            rw [if_pos c23] at H
            have c23b0 : decide (1 < x7_8) = true := decide_eq_true c23
            clear c23
            by_cases c24 : x3_2.length < 8796093022208
            rotate_left
            · rw [if_neg c24] at H
              exact absurd H (by simp)
            rw [if_pos c24] at H
            have LMc24 := Aside0.mk c24
            clear c24
            obtain ⟨y119, hy119⟩ : ∃ y_ : List (S41), y_ = (x3_2 ++ [(⟨x4_1, x5_2⟩ : S41)]) := ⟨_, rfl⟩
            replace H : (rootstockref17_Clashes.l1 kj8 y119 x4_1 (wrap64 (x5_2 + 1)) a0_0 a0_1 a0_2 l0_3 l0_4 l0_5) = some r := by first | (rw [hy119]; with_reducible exact H) | (have H2_ := (Option.bind_some _ _).symm.trans H; rw [hy119]; with_reducible exact H2_) | (have H2_ := (Option.bind_some _ _).symm.trans H; with_reducible exact H2_) | with_reducible exact H | (rw [hy119]; exact H) | exact H
            have Ny119 := Aside0.mk hy119
            clear hy119
            as_aux_lemma =>
             have H' := Aside0.mk H
             clear H
             have hnb25 := NB115_111.out
             have hnc25 := NB111_115.out
             have hcz26_0 : wc.cell? ⟨gb115, 0, none⟩ = some (.int .i64 ((rd_T46 (rd_L4 l0_4 x4_1) x5_2).f0)) := (blk_cell BK115.out 0).trans rfl
             have hcz26_1 : wc.cell? ⟨gb115, 1, none⟩ = some (.slice A114_1 ((rd_T46 (rd_L4 l0_4 x4_1) x5_2).f1).length c114_1) := (blk_cell BK115.out 1).trans rfl
             have hcz26_2 : wc.cell? ⟨gb115, 2, none⟩ = some (.bool ((rd_T46 (rd_L4 l0_4 x4_1) x5_2).f2)) := (blk_cell BK115.out 2).trans rfl
             have hfz26_0 := blk_frozen BK115.out 0
             have hfz26_1 := blk_frozen BK115.out 1
             have hfz26_2 := blk_frozen BK115.out 2
             go_wp2_with (first | ((with_reducible refine gate_builtin (b := .append) (xs := #[.tmp 47, .tmp 51]) rfl ?_); at_builtin; refine Kd.R_append k41 (w0 := w) w.heap.size rfl (.tmp 47) (.tmp 51) 38 41 (.agg #[(.int .i64 0), (.int .i64 0)]) 16 rfl Tryd.underlying38 info41 rfl (by decide) (by omega) u3 x3_2 (⟨x4_1, x5_2⟩ : S41) [.int .i64 x4_1, .int .i64 x5_2] (fun _ => True) (fun _ => False) rfl rfl ?aP (fun _ hk => hk.elim) ?aF ?aO ?aB ?aS ?aL ?_; (case aP => exact k41_mkM _ _ _ (⟨x4_1, x5_2⟩ : S41)); (case aB => exact (by repeat (first | (with_reducible first | exact HB.out | apply below_alloc | apply pw_below_drewN | apply below_drew1 | refine below_set ?_ GE111.out | refine below_set ?_ GE115.out) | exact HB.out))); (case aF => exact (fun _ _ => trivial)); (case aO => exact (by (with_reducible repeat (first | apply Kd.R_alloc | apply Kd.R_drewN | apply Kd.R_drew)); exact HO_3.out)); (case aS => exact (below_size (by repeat (first | (with_reducible first | exact HB.out | apply below_alloc | apply pw_below_drewN | apply below_drew1 | refine below_set ?_ GE111.out | refine below_set ?_ GE115.out) | exact HB.out)))); (case aL => have := LMc24.out; omega); intro v120 w27 ho hb hg hat; rw [← Ny119.out] at ho; have n0_ := Aside0.mk (blk_grown (g := gb111) (o := .cells #[.int .i64 a0_0, .int .i64 a0_1, .int .i64 a0_2, .slice A0_3 l0_3.length c0_3, .slice (some ad112) l0_4.length c0_4, .slice A0_5 l0_5.length c0_5] 30 (0, 0)) (by (with_reducible repeat (first | refine blk_drewN ?_ _ | refine blk_drew ?_ | refine blk_alloc ?_ _)); exact BK111.out) hg (Kd.R_ne HO_3.out BK111.out (by decide))); have n1_ := Aside0.mk (blk_grown (g := gb115) (o := .cells #[.int .i64 ((rd_T46 (rd_L4 l0_4 x4_1) x5_2).f0), .slice A114_1 ((rd_T46 (rd_L4 l0_4 x4_1) x5_2).f1).length c114_1, .bool ((rd_T46 (rd_L4 l0_4 x4_1) x5_2).f2)] 46 (0, 0)) (by (with_reducible repeat (first | refine blk_drewN ?_ _ | refine blk_drew ?_ | refine blk_alloc ?_ _)); exact BK115.out) hg (Kd.R_ne HO_3.out BK115.out (by decide))); have n2_ := Aside0.mk (hb); have n3_ := Aside0.mk (ho); clear BK111; clear BK115; clear HB; clear HO_3; have BK111 := n0_; have BK115 := n1_; have HB := n2_; have HO121 := n3_; clear n0_ n1_ n2_ n3_; clear ho hb hg hat))
             go_roundg kj8
             case measure => have := HK1.out; have := HK2.out; have := HJ8.out; omega
             case rel => exact ⟨(y119), (wrap64 (x5_2 + 1)), (by first | rfl | (simp; done) | (simp [*]; done)), H', ⟨by have := HK1.out; have := HK2.out; have := HJ8.out; omega⟩, ⟨by (with_reducible repeat (first | apply Kd.R_alloc | apply Kd.R_drewN | apply Kd.R_drew)); exact HO121.out⟩, ⟨by (with_reducible repeat (first | refine blk_drewN ?_ _ | refine blk_drew ?_ | refine blk_alloc ?_ _)); exact BK111.out⟩, ⟨by repeat (first | (with_reducible first | exact HB.out | apply below_alloc | apply pw_below_drewN | apply below_drew1 | refine below_set ?_ GE111.out | refine below_set ?_ GE115.out) | exact HB.out)⟩⟩
          rw [if_pos c15] at H
          have c15b0 : ((rd_T46 (rd_L4 l0_4 x4_1) x5_2).f2) = true := c15
          clear c15
          by_cases c16 : (wrap64 (x7_8 + 1)) > 1
          rotate_left
          · rw [if_neg c16] at H
            have c16b0 : decide (1 < (wrap64 (x7_8 + 1))) = false := decide_eq_false c16
            clear c16
            as_aux_lemma =>
             have H' := Aside0.mk H
             clear H
             have hnb21 := NB115_111.out
             have hnc21 := NB111_115.out
             have hcz22_0 : wc.cell? ⟨gb115, 0, none⟩ = some (.int .i64 ((rd_T46 (rd_L4 l0_4 x4_1) x5_2).f0)) := (blk_cell BK115.out 0).trans rfl
             have hcz22_1 : wc.cell? ⟨gb115, 1, none⟩ = some (.slice A114_1 ((rd_T46 (rd_L4 l0_4 x4_1) x5_2).f1).length c114_1) := (blk_cell BK115.out 1).trans rfl
             have hcz22_2 : wc.cell? ⟨gb115, 2, none⟩ = some (.bool ((rd_T46 (rd_L4 l0_4 x4_1) x5_2).f2)) := (blk_cell BK115.out 2).trans rfl
             have hfz22_0 := blk_frozen BK115.out 0
             have hfz22_1 := blk_frozen BK115.out 1
             have hfz22_2 := blk_frozen BK115.out 2
             go_wp2
             go_roundg kj8
             case measure => have := HK1.out; have := HK2.out; have := HJ8.out; omega
             case rel => exact ⟨(x3_2), (wrap64 (x5_2 + 1)), (by first | rfl | (simp; done) | (simp [*]; done)), H', ⟨by have := HK1.out; have := HK2.out; have := HJ8.out; omega⟩, ⟨by (with_reducible repeat (first | apply Kd.R_alloc | apply Kd.R_drewN | apply Kd.R_drew)); exact HO_3.out⟩, ⟨by (with_reducible repeat (first | refine blk_drewN ?_ _ | refine blk_drew ?_ | refine blk_alloc ?_ _)); exact BK111.out⟩, ⟨by repeat (first | (with_reducible first | exact HB.out | apply below_alloc | apply pw_below_drewN | apply below_drew1 | refine below_set ?_ GE111.out | refine below_set ?_ GE115.out) | exact HB.out)⟩⟩
          rw [if_pos c16] at H
          have c16b0 : decide (1 < (wrap64 (x7_8 + 1))) = true := decide_eq_true c16
          clear c16
          by_cases c17 : x3_2.length < 8796093022208
          rotate_left
          · rw [if_neg c17] at H
            exact absurd H (by simp)
          rw [if_pos c17] at H
          have LMc17 := Aside0.mk c17
          clear c17
          obtain ⟨y116, hy116⟩ : ∃ y_ : List (S41), y_ = (x3_2 ++ [(⟨x4_1, x5_2⟩ : S41)]) := ⟨_, rfl⟩
          replace H : (rootstockref17_Clashes.l1 kj8 y116 x4_1 (wrap64 (x5_2 + 1)) a0_0 a0_1 a0_2 l0_3 l0_4 l0_5) = some r := by first | (rw [hy116]; with_reducible exact H) | (have H2_ := (Option.bind_some _ _).symm.trans H; rw [hy116]; with_reducible exact H2_) | (have H2_ := (Option.bind_some _ _).symm.trans H; with_reducible exact H2_) | with_reducible exact H | (rw [hy116]; exact H) | exact H
          have Ny116 := Aside0.mk hy116
          clear hy116
          as_aux_lemma =>
           have H' := Aside0.mk H
           clear H
           have hnb18 := NB115_111.out
           have hnc18 := NB111_115.out
           have hcz19_0 : wc.cell? ⟨gb115, 0, none⟩ = some (.int .i64 ((rd_T46 (rd_L4 l0_4 x4_1) x5_2).f0)) := (blk_cell BK115.out 0).trans rfl
           have hcz19_1 : wc.cell? ⟨gb115, 1, none⟩ = some (.slice A114_1 ((rd_T46 (rd_L4 l0_4 x4_1) x5_2).f1).length c114_1) := (blk_cell BK115.out 1).trans rfl
           have hcz19_2 : wc.cell? ⟨gb115, 2, none⟩ = some (.bool ((rd_T46 (rd_L4 l0_4 x4_1) x5_2).f2)) := (blk_cell BK115.out 2).trans rfl
           have hfz19_0 := blk_frozen BK115.out 0
           have hfz19_1 := blk_frozen BK115.out 1
           have hfz19_2 := blk_frozen BK115.out 2
           go_wp2_with (first | ((with_reducible refine gate_builtin (b := .append) (xs := #[.tmp 47, .tmp 51]) rfl ?_); at_builtin; refine Kd.R_append k41 (w0 := w) w.heap.size rfl (.tmp 47) (.tmp 51) 38 41 (.agg #[(.int .i64 0), (.int .i64 0)]) 16 rfl Tryd.underlying38 info41 rfl (by decide) (by omega) u3 x3_2 (⟨x4_1, x5_2⟩ : S41) [.int .i64 x4_1, .int .i64 x5_2] (fun _ => True) (fun _ => False) rfl rfl ?aP (fun _ hk => hk.elim) ?aF ?aO ?aB ?aS ?aL ?_; (case aP => exact k41_mkM _ _ _ (⟨x4_1, x5_2⟩ : S41)); (case aB => exact (by repeat (first | (with_reducible first | exact HB.out | apply below_alloc | apply pw_below_drewN | apply below_drew1 | refine below_set ?_ GE111.out | refine below_set ?_ GE115.out) | exact HB.out))); (case aF => exact (fun _ _ => trivial)); (case aO => exact (by (with_reducible repeat (first | apply Kd.R_alloc | apply Kd.R_drewN | apply Kd.R_drew)); exact HO_3.out)); (case aS => exact (below_size (by repeat (first | (with_reducible first | exact HB.out | apply below_alloc | apply pw_below_drewN | apply below_drew1 | refine below_set ?_ GE111.out | refine below_set ?_ GE115.out) | exact HB.out)))); (case aL => have := LMc17.out; omega); intro v117 w20 ho hb hg hat; rw [← Ny116.out] at ho; have n0_ := Aside0.mk (blk_grown (g := gb111) (o := .cells #[.int .i64 a0_0, .int .i64 a0_1, .int .i64 a0_2, .slice A0_3 l0_3.length c0_3, .slice (some ad112) l0_4.length c0_4, .slice A0_5 l0_5.length c0_5] 30 (0, 0)) (by (with_reducible repeat (first | refine blk_drewN ?_ _ | refine blk_drew ?_ | refine blk_alloc ?_ _)); exact BK111.out) hg (Kd.R_ne HO_3.out BK111.out (by decide))); have n1_ := Aside0.mk (blk_grown (g := gb115) (o := .cells #[.int .i64 ((rd_T46 (rd_L4 l0_4 x4_1) x5_2).f0), .slice A114_1 ((rd_T46 (rd_L4 l0_4 x4_1) x5_2).f1).length c114_1, .bool ((rd_T46 (rd_L4 l0_4 x4_1) x5_2).f2)] 46 (0, 0)) (by (with_reducible repeat (first | refine blk_drewN ?_ _ | refine blk_drew ?_ | refine blk_alloc ?_ _)); exact BK115.out) hg (Kd.R_ne HO_3.out BK115.out (by decide))); have n2_ := Aside0.mk (hb); have n3_ := Aside0.mk (ho); clear BK111; clear BK115; clear HB; clear HO_3; have BK111 := n0_; have BK115 := n1_; have HB := n2_; have HO118 := n3_; clear n0_ n1_ n2_ n3_; clear ho hb hg hat))
           go_roundg kj8
           case measure => have := HK1.out; have := HK2.out; have := HJ8.out; omega
           case rel => exact ⟨(y116), (wrap64 (x5_2 + 1)), (by first | rfl | (simp; done) | (simp [*]; done)), H', ⟨by have := HK1.out; have := HK2.out; have := HJ8.out; omega⟩, ⟨by (with_reducible repeat (first | apply Kd.R_alloc | apply Kd.R_drewN | apply Kd.R_drew)); exact HO118.out⟩, ⟨by (with_reducible repeat (first | refine blk_drewN ?_ _ | refine blk_drew ?_ | refine blk_alloc ?_ _)); exact BK111.out⟩, ⟨by repeat (first | (with_reducible first | exact HB.out | apply below_alloc | apply pw_below_drewN | apply below_drew1 | refine below_set ?_ GE111.out | refine below_set ?_ GE115.out) | exact HB.out)⟩⟩
mutual
noncomputable def rootstocklaw17_TablesClash.l0 : Nat → List (List (S46)) → Int → Int → Option (Bool)
  | 0, _, _, _ => none
  | k + 1, x0, x3, x4 => if x4 < (x0.length : Int) then (if x4 > 300 then ((rootstocklaw17_lives.f).bind fun t122 => (some t122)) else (if 0 ≤ x4 then (if ((rd_L4 x0 x4).length : Int) > (wrap64 (300 - x3)) then ((rootstocklaw17_lives.f).bind fun t124 => (some t124)) else (rootstocklaw17_TablesClash.l0 k x0 (wrap64 (x3 + ((rd_L4 x0 x4).length : Int))) (wrap64 (x4 + 1)))) else (none))) else ((tables_Clashes.f k 0 0 0 ([] : List (S49)) x0 ([] : List (List Int))).bind fun t126 => ((rootstockref17_Clashes.f k 0 0 0 ([] : List (S49)) x0 ([] : List (List Int))).bind fun t129 => (if (t126.length : Int) = (t129.length : Int) then (rootstocklaw17_TablesClash.l1 k t126 t129 0) else (some false))))
noncomputable def rootstocklaw17_TablesClash.l1 : Nat → List (S41) → List (S41) → Int → Option (Bool)
  | 0, _, _, _ => none
  | k + 1, x5, x6, x7 => if x7 < (x5.length : Int) then (if 0 ≤ x7 then (if x7 < (x6.length : Int) then (if (!(((rd_T41 x5 x7).f0) == ((rd_T41 x6 x7).f0)) || (!(((rd_T41 x5 x7).f1) == ((rd_T41 x6 x7).f1)))) = true then (some false) else (rootstocklaw17_TablesClash.l1 k x5 x6 (wrap64 (x7 + 1)))) else (none)) else (none)) else ((rootstocklaw17_lives.f).bind fun t134 => (some t134))
end
noncomputable def rootstocklaw17_TablesClash.f (k : Nat) (l0 : List (List (S46))) : Option (Bool) := rootstocklaw17_TablesClash.l0 k l0 0 0
set_option maxHeartbeats 8000000 in
set_option maxRecDepth 100000 in
theorem rootstocklaw17_TablesClash.calls (k : Nat) (A0 : Option Addr) (c0 : Nat) (l0 : List (List (S46))) (r : Bool) (w : World) (hr0 : Kd.C (Kd.slice 46 k46) w A0 l0.length l0) (hc0 : l0.length ≤ c0) (hrt_ : r = true) (h : rootstocklaw17_TablesClash.f k l0 = some r) (hl_ : Go.Proofs.YtaooejidkeojjaaDoor.H.Laid w) :
    Calls Tryd.prog 4 #[.slice A0 l0.length c0] w fun e w' => e = .returned (.bool r) ∧ Below w.heap.size w w' := by
 have HLD := Aside0.mk hl_
 clear hl_
 have HRT := Aside0.mk hrt_
 clear hrt_
 have hu30 := Tryd.underlying30
 have hu41 := Tryd.underlying41
 have HR0 := Aside0.mk hr0
 have HC0 := Aside0.mk hc0
 clear hr0 hc0
 have HB := Aside0.mk (Below.refl w.heap.size w)
 have H : (rootstocklaw17_TablesClash.l0 k l0 0 0) = some r := h
 clear h
 have H' := Aside0.mk H
 clear H
 go_enter Tryd.func4, Tryd.ntmps4
 go_wp2
 repeat (go_quiet (fail); try go_wp2)
 go_loopg [3, 4] k (fun kq v3 v4 w' => ∃ (x3_1 : Int) (x4_1 : Int), v3 = .int .i64 x3_1 ∧ v4 = .int .i64 x4_1 ∧ Aside0 (rootstocklaw17_TablesClash.l0 kq l0 x3_1 x4_1 = some r) ∧ Aside0 (kq ≤ k) ∧ Aside0 (Below w.heap.size w w'))
 case atStart => exact ⟨(0), (0), (by first | rfl | (simp; done) | (simp [*]; done)), (by first | rfl | (simp; done) | (simp [*]; done)), H', ⟨Nat.le_refl _⟩, ⟨by repeat (first | (with_reducible first | exact HB.out | apply below_alloc | apply pw_below_drewN | apply below_drew1) | exact HB.out)⟩⟩
 case round =>
  as_aux_lemma =>
   clear H'
   obtain ⟨x3_1, x4_1, rfl, rfl, HA, HK1, HB⟩ := hrel
   cases gk with
   | zero => exact absurd HA.out (by simp [rootstocklaw17_TablesClash.l0])
   | succ k1 =>
    have H := HA.out
    clear HA
    simp only [rootstocklaw17_TablesClash.l0] at H
    by_cases c2 : x4_1 < (l0.length : Int)
    · rw [if_pos c2] at H
      have c2b0 : decide (x4_1 < (l0.length : Int)) = true := decide_eq_true c2
      clear c2
      by_cases c3 : x4_1 > 300
      · rw [if_pos c3] at H
        have c3b0 : decide (300 < x4_1) = true := decide_eq_true c3
        clear c3
        replace H := Option.bind_eq_some_iff.mp H
        obtain ⟨t122, A40, H⟩ := H
        replace H : (some t122) = some r := H
        have A4 := Aside0.mk A40
        clear A40
        as_aux_lemma =>
         obtain rfl := Option.some.inj H
         go_wp2_with (first | (go_at_call 9; (with_reducible refine (rootstocklaw17_lives.calls  t122 _ A4.out (Go.Proofs.YtaooejidkeojjaaDoor.H.Laid.below HLD.out (by repeat (first | (with_reducible first | exact HB.out | apply below_alloc | apply pw_below_drewN | apply below_drew1) | exact HB.out)))).mono ?_); rintro e w5 ⟨rfl, hb⟩; have n0_ := Aside0.mk (below_step (by repeat (first | (with_reducible first | exact HB.out | apply below_alloc | apply pw_below_drewN | apply below_drew1) | exact HB.out)) hb); clear HB; have HB := n0_; clear n0_; (try clear hb); (try clear hb2); (try clear hk); (try clear hi)))
         repeat (go_quiet (first | (go_at_call 9; (with_reducible refine (rootstocklaw17_lives.calls  t122 _ A4.out (Go.Proofs.YtaooejidkeojjaaDoor.H.Laid.below HLD.out (by repeat (first | (with_reducible first | exact HB.out | apply below_alloc | apply pw_below_drewN | apply below_drew1) | exact HB.out)))).mono ?_); rintro e w5 ⟨rfl, hb⟩; have n0_ := Aside0.mk (below_step (by repeat (first | (with_reducible first | exact HB.out | apply below_alloc | apply pw_below_drewN | apply below_drew1) | exact HB.out)) hb); clear HB; have HB := n0_; clear n0_; (try clear hb); (try clear hb2); (try clear hk); (try clear hi))); try go_wp2_with (first | (go_at_call 9; (with_reducible refine (rootstocklaw17_lives.calls  t122 _ A4.out (Go.Proofs.YtaooejidkeojjaaDoor.H.Laid.below HLD.out (by repeat (first | (with_reducible first | exact HB.out | apply below_alloc | apply pw_below_drewN | apply below_drew1) | exact HB.out)))).mono ?_); rintro e w5 ⟨rfl, hb⟩; have n0_ := Aside0.mk (below_step (by repeat (first | (with_reducible first | exact HB.out | apply below_alloc | apply pw_below_drewN | apply below_drew1) | exact HB.out)) hb); clear HB; have HB := n0_; clear n0_; (try clear hb); (try clear hb2); (try clear hk); (try clear hi))))
         go_ret
         exact ⟨by first | rfl | (simp [errW_none, errW_some] <;> rfl) | (simp [*, errW_none, errW_some] <;> rfl), by repeat (first | (with_reducible first | exact HB.out | apply below_alloc | apply pw_below_drewN | apply below_drew1) | exact HB.out)⟩
      rw [if_neg c3] at H
      have c3b0 : decide (300 < x4_1) = false := decide_eq_false c3
      clear c3
      by_cases c6 : 0 ≤ x4_1
      rotate_left
      · rw [if_neg c6] at H
        exact absurd H (by simp)
      rw [if_pos c6] at H
      have c6b0 : decide (0 ≤ x4_1) = true := decide_eq_true c6
      clear c6
      by_cases c7 : ((rd_L4 l0 x4_1).length : Int) > (wrap64 (300 - x3_1))
      rotate_left
      · rw [if_neg c7] at H
        have c7b0 : decide ((wrap64 (300 - x3_1)) < ((rd_L4 l0 x4_1).length : Int)) = false := decide_eq_false c7
        clear c7
        as_aux_lemma =>
         have H' := Aside0.mk H
         clear H
         have p123 : 0 ≤ (x4_1 : Int) := of_decide_eq_true (by first | (with_reducible assumption) | assumption)
         have q123 : x4_1 < (l0.length : Int) := of_decide_eq_true (by first | (with_reducible assumption) | assumption)
         obtain ⟨ad123, A123_0, c123_0, e123, hx123_0, hl123_0, hi123_0⟩ := at_L4 HR0.out x4_1 p123 q123
         cases e123
         replace hx123_0 := (HB.out.cell (World.block_lt_of_cell? w _ hx123_0)).trans hx123_0
         have HR123_0 := Aside0.mk hi123_0
         have HC123_0 := Aside0.mk hl123_0
         clear hi123_0 hl123_0
         replace p123 := eq_true p123
         replace q123 := eq_true q123
         have p125 : 0 ≤ (x4_1 : Int) := of_decide_eq_true (by first | (with_reducible assumption) | assumption)
         have q125 : x4_1 < (l0.length : Int) := of_decide_eq_true (by first | (with_reducible assumption) | assumption)
         obtain ⟨ad125, A125_0, c125_0, e125, hx125_0, hl125_0, hi125_0⟩ := at_L4 HR0.out x4_1 p125 q125
         obtain rfl : ad123 = ad125 := (by injection e125)
         replace hx125_0 := (HB.out.cell (World.block_lt_of_cell? w _ hx125_0)).trans hx125_0
         have HR125_0 := Aside0.mk hi125_0
         have HC125_0 := Aside0.mk hl125_0
         clear hi125_0 hl125_0
         replace p125 := eq_true p125
         replace q125 := eq_true q125
         have ea_ := Option.some.inj (hx123_0.symm.trans hx125_0)
         injection ea_ with ea_ en_ ec_
         subst ea_
         subst ec_
         clear en_
         go_wp2
         repeat (go_quiet (fail); try go_wp2)
         go_roundg k1
         case measure => have := HK1.out; omega
         case rel => exact ⟨(wrap64 (x3_1 + ((rd_L4 l0 x4_1).length : Int))), (wrap64 (x4_1 + 1)), (by first | rfl | (simp; done) | (simp [*]; done)), (by first | rfl | (simp; done) | (simp [*]; done)), H', ⟨by have := HK1.out; omega⟩, ⟨by repeat (first | (with_reducible first | exact HB.out | apply below_alloc | apply pw_below_drewN | apply below_drew1) | exact HB.out)⟩⟩
      rw [if_pos c7] at H
      have c7b0 : decide ((wrap64 (300 - x3_1)) < ((rd_L4 l0 x4_1).length : Int)) = true := decide_eq_true c7
      clear c7
      replace H := Option.bind_eq_some_iff.mp H
      obtain ⟨t124, A80, H⟩ := H
      replace H : (some t124) = some r := H
      have A8 := Aside0.mk A80
      clear A80
      as_aux_lemma =>
       obtain rfl := Option.some.inj H
       have p123 : 0 ≤ (x4_1 : Int) := of_decide_eq_true (by first | (with_reducible assumption) | assumption)
       have q123 : x4_1 < (l0.length : Int) := of_decide_eq_true (by first | (with_reducible assumption) | assumption)
       obtain ⟨ad123, A123_0, c123_0, e123, hx123_0, hl123_0, hi123_0⟩ := at_L4 HR0.out x4_1 p123 q123
       cases e123
       replace hx123_0 := (HB.out.cell (World.block_lt_of_cell? w _ hx123_0)).trans hx123_0
       have HR123_0 := Aside0.mk hi123_0
       have HC123_0 := Aside0.mk hl123_0
       clear hi123_0 hl123_0
       replace p123 := eq_true p123
       replace q123 := eq_true q123
       go_wp2_with (first | (go_at_call 9; (with_reducible refine (rootstocklaw17_lives.calls  t124 _ A8.out (Go.Proofs.YtaooejidkeojjaaDoor.H.Laid.below HLD.out (by repeat (first | (with_reducible first | exact HB.out | apply below_alloc | apply pw_below_drewN | apply below_drew1) | exact HB.out)))).mono ?_); rintro e w9 ⟨rfl, hb⟩; have n0_ := Aside0.mk (below_step (by repeat (first | (with_reducible first | exact HB.out | apply below_alloc | apply pw_below_drewN | apply below_drew1) | exact HB.out)) hb); clear HB; have HB := n0_; clear n0_; (try clear hb); (try clear hb2); (try clear hk); (try clear hi)))
       repeat (go_quiet (first | (go_at_call 9; (with_reducible refine (rootstocklaw17_lives.calls  t124 _ A8.out (Go.Proofs.YtaooejidkeojjaaDoor.H.Laid.below HLD.out (by repeat (first | (with_reducible first | exact HB.out | apply below_alloc | apply pw_below_drewN | apply below_drew1) | exact HB.out)))).mono ?_); rintro e w9 ⟨rfl, hb⟩; have n0_ := Aside0.mk (below_step (by repeat (first | (with_reducible first | exact HB.out | apply below_alloc | apply pw_below_drewN | apply below_drew1) | exact HB.out)) hb); clear HB; have HB := n0_; clear n0_; (try clear hb); (try clear hb2); (try clear hk); (try clear hi))); try go_wp2_with (first | (go_at_call 9; (with_reducible refine (rootstocklaw17_lives.calls  t124 _ A8.out (Go.Proofs.YtaooejidkeojjaaDoor.H.Laid.below HLD.out (by repeat (first | (with_reducible first | exact HB.out | apply below_alloc | apply pw_below_drewN | apply below_drew1) | exact HB.out)))).mono ?_); rintro e w9 ⟨rfl, hb⟩; have n0_ := Aside0.mk (below_step (by repeat (first | (with_reducible first | exact HB.out | apply below_alloc | apply pw_below_drewN | apply below_drew1) | exact HB.out)) hb); clear HB; have HB := n0_; clear n0_; (try clear hb); (try clear hb2); (try clear hk); (try clear hi))))
       go_ret
       exact ⟨by first | rfl | (simp [errW_none, errW_some] <;> rfl) | (simp [*, errW_none, errW_some] <;> rfl), by repeat (first | (with_reducible first | exact HB.out | apply below_alloc | apply pw_below_drewN | apply below_drew1) | exact HB.out)⟩
    rw [if_neg c2] at H
    have c2b0 : decide (x4_1 < (l0.length : Int)) = false := decide_eq_false c2
    clear c2
    replace H := Option.bind_eq_some_iff.mp H
    obtain ⟨t126, A100, H⟩ := H
    replace H : ((rootstockref17_Clashes.f k1 0 0 0 ([] : List (S49)) l0 ([] : List (List Int))).bind fun t129 => (if (t126.length : Int) = (t129.length : Int) then (rootstocklaw17_TablesClash.l1 k1 t126 t129 0) else (some false))) = some r := H
    have A10 := Aside0.mk A100
    clear A100
    replace H := Option.bind_eq_some_iff.mp H
    obtain ⟨t129, A110, H⟩ := H
    replace H : (if (t126.length : Int) = (t129.length : Int) then (rootstocklaw17_TablesClash.l1 k1 t126 t129 0) else (some false)) = some r := H
    have A11 := Aside0.mk A110
    clear A110
    by_cases c12 : (t126.length : Int) = (t129.length : Int)
    rotate_left
    · rw [if_neg c12] at H
      have c12b0 : ((t126.length : Int) == (t129.length : Int)) = false := beq_eq_false_iff_ne.mpr c12
      have c12b1 : ((t126.length : Int) != (t129.length : Int)) = true := bne_iff_ne.mpr c12
      have c12b2 : (t126.length == t129.length) = false := by first | simpa using c12 | (simp at c12 ⊢; omega)
      exact absurd ((Option.some.inj H).trans HRT.out) (by decide)
    rw [if_pos c12] at H
    have c12b0 : ((t126.length : Int) == (t129.length : Int)) = true := beq_iff_eq.mpr c12
    have c12b1 : ((t126.length : Int) != (t129.length : Int)) = false := bne_eq_false_iff_eq.mpr c12
    have c12b2 : (t126.length == t129.length) = true := by first | simpa using c12 | (simp at c12 ⊢; omega)
    clear c12
    have H' := Aside0.mk H
    clear H
    go_wp2_with (first | (go_at_call 15; (refine (tables_Clashes.calls k1 0 0 0 _ _ ([] : List (S49)) _ _ l0 _ _ ([] : List (List Int)) t126 _ ?side1 ?side2 ?side3 ?side4 ?side5 ?side6 A10.out).mono ?_); (case side1 => exact Kd.C_nil _ _); (case side2 => exact Nat.le_refl _); (case side3 => repeat (first | exact (Kd.C_below HR0.out HB.out) | (with_reducible refine Kd.C_alloc ?_ _) | (with_reducible refine Kd.C_drewN ?_ _) | (with_reducible refine Kd.C_drew ?_))); (case side4 => exact HC0.out); (case side5 => exact Kd.C_nil _ _); (case side6 => exact Nat.le_refl _); rintro e w13 ⟨v127, rfl, ho0, hb⟩; have n0_ := Aside0.mk (Kd.R_lower ho0 (below_size (by repeat (first | (with_reducible first | exact HB.out | apply below_alloc | apply pw_below_drewN | apply below_drew1) | exact HB.out)))); have n1_ := Aside0.mk (below_step (by repeat (first | (with_reducible first | exact HB.out | apply below_alloc | apply pw_below_drewN | apply below_drew1) | exact HB.out)) hb); clear HB; have HO128 := n0_; have HB := n1_; clear n0_ n1_; (try clear hb); (try clear hb2); (try clear hk); (try clear hi); (try clear ho0)) | (go_at_call 16; (refine (rootstockref17_Clashes.calls k1 0 0 0 _ _ ([] : List (S49)) _ _ l0 _ _ ([] : List (List Int)) t129 _ ?side1 ?side2 ?side3 ?side4 ?side5 ?side6 A11.out).mono ?_); (case side1 => exact Kd.C_nil _ _); (case side2 => exact Nat.le_refl _); (case side3 => repeat (first | exact (Kd.C_below HR0.out HB.out) | (with_reducible refine Kd.C_alloc ?_ _) | (with_reducible refine Kd.C_drewN ?_ _) | (with_reducible refine Kd.C_drew ?_))); (case side4 => exact HC0.out); (case side5 => exact Kd.C_nil _ _); (case side6 => exact Nat.le_refl _); rintro e w14 ⟨v130, rfl, ho0, hb⟩; have n0_ := Aside0.mk (Kd.R_elder' (by (with_reducible repeat (first | apply Kd.R_alloc | apply Kd.R_drewN | apply Kd.R_drew)); exact HO128.out) (Kd.R_base ho0) hb); have n1_ := Aside0.mk (Kd.R_lower (Kd.R_new' ho0 (Kd.R_lt (by (with_reducible repeat (first | apply Kd.R_alloc | apply Kd.R_drewN | apply Kd.R_drew)); exact HO128.out))) (below_size (by repeat (first | (with_reducible first | exact HB.out | apply below_alloc | apply pw_below_drewN | apply below_drew1) | exact HB.out)))); have n2_ := Aside0.mk (below_step (by repeat (first | (with_reducible first | exact HB.out | apply below_alloc | apply pw_below_drewN | apply below_drew1) | exact HB.out)) hb); clear HO128; clear HB; have HO128 := n0_; have HO131 := n1_; have HB := n2_; clear n0_ n1_ n2_; (try clear hb); (try clear hb2); (try clear hk); (try clear hi); (try clear ho0); obtain ⟨Ao15, co15, eo15⟩ := Kd.R_slice HO128.out; subst eo15; obtain ⟨Ao16, co16, eo16⟩ := Kd.R_slice HO131.out; subst eo16))
    repeat (go_quiet (first | (go_at_call 15; (refine (tables_Clashes.calls k1 0 0 0 _ _ ([] : List (S49)) _ _ l0 _ _ ([] : List (List Int)) t126 _ ?side1 ?side2 ?side3 ?side4 ?side5 ?side6 A10.out).mono ?_); (case side1 => exact Kd.C_nil _ _); (case side2 => exact Nat.le_refl _); (case side3 => repeat (first | exact (Kd.C_below HR0.out HB.out) | (with_reducible refine Kd.C_alloc ?_ _) | (with_reducible refine Kd.C_drewN ?_ _) | (with_reducible refine Kd.C_drew ?_))); (case side4 => exact HC0.out); (case side5 => exact Kd.C_nil _ _); (case side6 => exact Nat.le_refl _); rintro e w13 ⟨v127, rfl, ho0, hb⟩; have n0_ := Aside0.mk (Kd.R_lower ho0 (below_size (by repeat (first | (with_reducible first | exact HB.out | apply below_alloc | apply pw_below_drewN | apply below_drew1) | exact HB.out)))); have n1_ := Aside0.mk (below_step (by repeat (first | (with_reducible first | exact HB.out | apply below_alloc | apply pw_below_drewN | apply below_drew1) | exact HB.out)) hb); clear HB; have HO128 := n0_; have HB := n1_; clear n0_ n1_; (try clear hb); (try clear hb2); (try clear hk); (try clear hi); (try clear ho0)) | (go_at_call 16; (refine (rootstockref17_Clashes.calls k1 0 0 0 _ _ ([] : List (S49)) _ _ l0 _ _ ([] : List (List Int)) t129 _ ?side1 ?side2 ?side3 ?side4 ?side5 ?side6 A11.out).mono ?_); (case side1 => exact Kd.C_nil _ _); (case side2 => exact Nat.le_refl _); (case side3 => repeat (first | exact (Kd.C_below HR0.out HB.out) | (with_reducible refine Kd.C_alloc ?_ _) | (with_reducible refine Kd.C_drewN ?_ _) | (with_reducible refine Kd.C_drew ?_))); (case side4 => exact HC0.out); (case side5 => exact Kd.C_nil _ _); (case side6 => exact Nat.le_refl _); rintro e w14 ⟨v130, rfl, ho0, hb⟩; have n0_ := Aside0.mk (Kd.R_elder' (by (with_reducible repeat (first | apply Kd.R_alloc | apply Kd.R_drewN | apply Kd.R_drew)); exact HO128.out) (Kd.R_base ho0) hb); have n1_ := Aside0.mk (Kd.R_lower (Kd.R_new' ho0 (Kd.R_lt (by (with_reducible repeat (first | apply Kd.R_alloc | apply Kd.R_drewN | apply Kd.R_drew)); exact HO128.out))) (below_size (by repeat (first | (with_reducible first | exact HB.out | apply below_alloc | apply pw_below_drewN | apply below_drew1) | exact HB.out)))); have n2_ := Aside0.mk (below_step (by repeat (first | (with_reducible first | exact HB.out | apply below_alloc | apply pw_below_drewN | apply below_drew1) | exact HB.out)) hb); clear HO128; clear HB; have HO128 := n0_; have HO131 := n1_; have HB := n2_; clear n0_ n1_ n2_; (try clear hb); (try clear hb2); (try clear hk); (try clear hi); (try clear ho0); obtain ⟨Ao15, co15, eo15⟩ := Kd.R_slice HO128.out; subst eo15; obtain ⟨Ao16, co16, eo16⟩ := Kd.R_slice HO131.out; subst eo16)); try go_wp2_with (first | (go_at_call 15; (refine (tables_Clashes.calls k1 0 0 0 _ _ ([] : List (S49)) _ _ l0 _ _ ([] : List (List Int)) t126 _ ?side1 ?side2 ?side3 ?side4 ?side5 ?side6 A10.out).mono ?_); (case side1 => exact Kd.C_nil _ _); (case side2 => exact Nat.le_refl _); (case side3 => repeat (first | exact (Kd.C_below HR0.out HB.out) | (with_reducible refine Kd.C_alloc ?_ _) | (with_reducible refine Kd.C_drewN ?_ _) | (with_reducible refine Kd.C_drew ?_))); (case side4 => exact HC0.out); (case side5 => exact Kd.C_nil _ _); (case side6 => exact Nat.le_refl _); rintro e w13 ⟨v127, rfl, ho0, hb⟩; have n0_ := Aside0.mk (Kd.R_lower ho0 (below_size (by repeat (first | (with_reducible first | exact HB.out | apply below_alloc | apply pw_below_drewN | apply below_drew1) | exact HB.out)))); have n1_ := Aside0.mk (below_step (by repeat (first | (with_reducible first | exact HB.out | apply below_alloc | apply pw_below_drewN | apply below_drew1) | exact HB.out)) hb); clear HB; have HO128 := n0_; have HB := n1_; clear n0_ n1_; (try clear hb); (try clear hb2); (try clear hk); (try clear hi); (try clear ho0)) | (go_at_call 16; (refine (rootstockref17_Clashes.calls k1 0 0 0 _ _ ([] : List (S49)) _ _ l0 _ _ ([] : List (List Int)) t129 _ ?side1 ?side2 ?side3 ?side4 ?side5 ?side6 A11.out).mono ?_); (case side1 => exact Kd.C_nil _ _); (case side2 => exact Nat.le_refl _); (case side3 => repeat (first | exact (Kd.C_below HR0.out HB.out) | (with_reducible refine Kd.C_alloc ?_ _) | (with_reducible refine Kd.C_drewN ?_ _) | (with_reducible refine Kd.C_drew ?_))); (case side4 => exact HC0.out); (case side5 => exact Kd.C_nil _ _); (case side6 => exact Nat.le_refl _); rintro e w14 ⟨v130, rfl, ho0, hb⟩; have n0_ := Aside0.mk (Kd.R_elder' (by (with_reducible repeat (first | apply Kd.R_alloc | apply Kd.R_drewN | apply Kd.R_drew)); exact HO128.out) (Kd.R_base ho0) hb); have n1_ := Aside0.mk (Kd.R_lower (Kd.R_new' ho0 (Kd.R_lt (by (with_reducible repeat (first | apply Kd.R_alloc | apply Kd.R_drewN | apply Kd.R_drew)); exact HO128.out))) (below_size (by repeat (first | (with_reducible first | exact HB.out | apply below_alloc | apply pw_below_drewN | apply below_drew1) | exact HB.out)))); have n2_ := Aside0.mk (below_step (by repeat (first | (with_reducible first | exact HB.out | apply below_alloc | apply pw_below_drewN | apply below_drew1) | exact HB.out)) hb); clear HO128; clear HB; have HO128 := n0_; have HO131 := n1_; have HB := n2_; clear n0_ n1_ n2_; (try clear hb); (try clear hb2); (try clear hk); (try clear hi); (try clear ho0); obtain ⟨Ao15, co15, eo15⟩ := Kd.R_slice HO128.out; subst eo15; obtain ⟨Ao16, co16, eo16⟩ := Kd.R_slice HO131.out; subst eo16)))
    go_loopg [7] k1 (fun kq v7 w' => ∃ (x7_2 : Int), v7 = .int .i64 x7_2 ∧ Aside0 (rootstocklaw17_TablesClash.l1 kq t126 t129 x7_2 = some r) ∧ Aside0 (kq ≤ k1) ∧ Aside0 (Kd.R k41 41 w' w.heap.size (fun k_ => some k_ ≠ ((.slice Ao16 t129.length co16) : Value).ownBlock) (.slice Ao15 t126.length co15) t126) ∧ Aside0 (Kd.R k41 41 w' w.heap.size (fun k_ => some k_ ≠ ((.slice Ao15 t126.length co15) : Value).ownBlock) (.slice Ao16 t129.length co16) t129) ∧ Aside0 (Below w.heap.size w w'))
    case atStart => exact ⟨(0), (by first | rfl | (simp; done) | (simp [*]; done)), H', ⟨Nat.le_refl _⟩, ⟨by (with_reducible repeat (first | apply Kd.R_alloc | apply Kd.R_drewN | apply Kd.R_drew)); exact Kd.R_mono HO128.out (fun _ hk => hk.2)⟩, ⟨by (with_reducible repeat (first | apply Kd.R_alloc | apply Kd.R_drewN | apply Kd.R_drew)); exact Kd.R_mono HO131.out (fun _ hk => hk.2)⟩, ⟨by repeat (first | (with_reducible first | exact HB.out | apply below_alloc | apply pw_below_drewN | apply below_drew1) | exact HB.out)⟩⟩
    case round =>
     clear H'
     try clear c1
     try clear p1
     try clear q1
     try clear hx1
     try clear c2
     try clear c2b0
     try clear p2
     try clear c3
     try clear c3b0
     try clear c4
     try clear c6
     try clear c6b0
     try clear p6
     try clear c7
     try clear c7b0
     try clear c12
     try clear c12b0
     try clear c12b1
     try clear c12b2
     try clear p12
     try clear q12
     try clear hx12
     try clear hx123_0
     try clear hx125_0
     try clear p123
     try clear p125
     try clear q123
     try clear q125
     obtain ⟨x7_2, rfl, HA, HK2, HO_5, HO_6, HB⟩ := hrel
     cases gk with
     | zero => exact absurd HA.out (by simp [rootstocklaw17_TablesClash.l1])
     | succ k2 =>
      have H := HA.out
      clear HA
      simp only [rootstocklaw17_TablesClash.l1] at H
      by_cases c17 : x7_2 < (t126.length : Int)
      · rw [if_pos c17] at H
        have c17b0 : decide (x7_2 < (t126.length : Int)) = true := decide_eq_true c17
        clear c17
        by_cases c18 : 0 ≤ x7_2
        rotate_left
        · rw [if_neg c18] at H
          exact absurd H (by simp)
        rw [if_pos c18] at H
        have c18b0 : decide (0 ≤ x7_2) = true := decide_eq_true c18
        clear c18
        by_cases c19 : x7_2 < (t129.length : Int)
        rotate_left
        · rw [if_neg c19] at H
          exact absurd H (by simp)
        rw [if_pos c19] at H
        have c19b0 : decide (x7_2 < (t129.length : Int)) = true := decide_eq_true c19
        clear c19
        by_cases c20 : (!(((rd_T41 t126 x7_2).f0) == ((rd_T41 t129 x7_2).f0)) || (!(((rd_T41 t126 x7_2).f1) == ((rd_T41 t129 x7_2).f1)))) = true
        · rw [if_pos c20] at H
          have c20b0 : (!(((rd_T41 t126 x7_2).f0) == ((rd_T41 t129 x7_2).f0)) || (!(((rd_T41 t126 x7_2).f1) == ((rd_T41 t129 x7_2).f1)))) = true := c20
          clear c20
          exact absurd ((Option.some.inj H).trans HRT.out) (by decide)
        rw [if_neg c20] at H
        have c20b0 : (!(((rd_T41 t126 x7_2).f0) == ((rd_T41 t129 x7_2).f0)) || (!(((rd_T41 t126 x7_2).f1) == ((rd_T41 t129 x7_2).f1)))) = false := by simpa using c20
        clear c20
        as_aux_lemma =>
         have H' := Aside0.mk H
         clear H
         have p132 : 0 ≤ (x7_2 : Int) := of_decide_eq_true (by first | (with_reducible assumption) | assumption)
         have q132 : x7_2 < (t126.length : Int) := of_decide_eq_true (by first | (with_reducible assumption) | assumption)
         obtain ⟨ad132, e132, hx132_0, hx132_1⟩ := at_T41 (Kd.R_reads' HO_5.out).2.2 x7_2 p132 q132
         cases e132
         replace p132 := eq_true p132
         replace q132 := eq_true q132
         have p133 : 0 ≤ (x7_2 : Int) := of_decide_eq_true (by first | (with_reducible assumption) | assumption)
         have q133 : x7_2 < (t129.length : Int) := of_decide_eq_true (by first | (with_reducible assumption) | assumption)
         obtain ⟨ad133, e133, hx133_0, hx133_1⟩ := at_T41 (Kd.R_reads' HO_6.out).2.2 x7_2 p133 q133
         cases e133
         replace p133 := eq_true p133
         replace q133 := eq_true q133
         go_wp2
         repeat (go_quiet (fail); try go_wp2)
         go_roundg k2
         case measure => have := HK1.out; have := HK2.out; omega
         case rel => exact ⟨(wrap64 (x7_2 + 1)), (by first | rfl | (simp; done) | (simp [*]; done)), H', ⟨by have := HK1.out; have := HK2.out; omega⟩, ⟨by (with_reducible repeat (first | apply Kd.R_alloc | apply Kd.R_drewN | apply Kd.R_drew)); exact HO_5.out⟩, ⟨by (with_reducible repeat (first | apply Kd.R_alloc | apply Kd.R_drewN | apply Kd.R_drew)); exact HO_6.out⟩, ⟨by repeat (first | (with_reducible first | exact HB.out | apply below_alloc | apply pw_below_drewN | apply below_drew1) | exact HB.out)⟩⟩
      rw [if_neg c17] at H
      have c17b0 : decide (x7_2 < (t126.length : Int)) = false := decide_eq_false c17
      clear c17
      replace H := Option.bind_eq_some_iff.mp H
      obtain ⟨t134, A210, H⟩ := H
      replace H : (some t134) = some r := H
      have A21 := Aside0.mk A210
      clear A210
      as_aux_lemma =>
       obtain rfl := Option.some.inj H
       go_wp2_with (first | (go_at_call 9; (with_reducible refine (rootstocklaw17_lives.calls  t134 _ A21.out (Go.Proofs.YtaooejidkeojjaaDoor.H.Laid.below HLD.out (by repeat (first | (with_reducible first | exact HB.out | apply below_alloc | apply pw_below_drewN | apply below_drew1) | exact HB.out)))).mono ?_); rintro e w22 ⟨rfl, hb⟩; have n0_ := Aside0.mk (Kd.R_below (by (with_reducible repeat (first | apply Kd.R_alloc | apply Kd.R_drewN | apply Kd.R_drew)); exact HO_5.out) hb); have n1_ := Aside0.mk (Kd.R_below (by (with_reducible repeat (first | apply Kd.R_alloc | apply Kd.R_drewN | apply Kd.R_drew)); exact HO_6.out) hb); have n2_ := Aside0.mk (below_step (by repeat (first | (with_reducible first | exact HB.out | apply below_alloc | apply pw_below_drewN | apply below_drew1) | exact HB.out)) hb); clear HO_5; clear HO_6; clear HB; have HO_5 := n0_; have HO_6 := n1_; have HB := n2_; clear n0_ n1_ n2_; (try clear hb); (try clear hb2); (try clear hk); (try clear hi)))
       repeat (go_quiet (first | (go_at_call 9; (with_reducible refine (rootstocklaw17_lives.calls  t134 _ A21.out (Go.Proofs.YtaooejidkeojjaaDoor.H.Laid.below HLD.out (by repeat (first | (with_reducible first | exact HB.out | apply below_alloc | apply pw_below_drewN | apply below_drew1) | exact HB.out)))).mono ?_); rintro e w22 ⟨rfl, hb⟩; have n0_ := Aside0.mk (Kd.R_below (by (with_reducible repeat (first | apply Kd.R_alloc | apply Kd.R_drewN | apply Kd.R_drew)); exact HO_5.out) hb); have n1_ := Aside0.mk (Kd.R_below (by (with_reducible repeat (first | apply Kd.R_alloc | apply Kd.R_drewN | apply Kd.R_drew)); exact HO_6.out) hb); have n2_ := Aside0.mk (below_step (by repeat (first | (with_reducible first | exact HB.out | apply below_alloc | apply pw_below_drewN | apply below_drew1) | exact HB.out)) hb); clear HO_5; clear HO_6; clear HB; have HO_5 := n0_; have HO_6 := n1_; have HB := n2_; clear n0_ n1_ n2_; (try clear hb); (try clear hb2); (try clear hk); (try clear hi))); try go_wp2_with (first | (go_at_call 9; (with_reducible refine (rootstocklaw17_lives.calls  t134 _ A21.out (Go.Proofs.YtaooejidkeojjaaDoor.H.Laid.below HLD.out (by repeat (first | (with_reducible first | exact HB.out | apply below_alloc | apply pw_below_drewN | apply below_drew1) | exact HB.out)))).mono ?_); rintro e w22 ⟨rfl, hb⟩; have n0_ := Aside0.mk (Kd.R_below (by (with_reducible repeat (first | apply Kd.R_alloc | apply Kd.R_drewN | apply Kd.R_drew)); exact HO_5.out) hb); have n1_ := Aside0.mk (Kd.R_below (by (with_reducible repeat (first | apply Kd.R_alloc | apply Kd.R_drewN | apply Kd.R_drew)); exact HO_6.out) hb); have n2_ := Aside0.mk (below_step (by repeat (first | (with_reducible first | exact HB.out | apply below_alloc | apply pw_below_drewN | apply below_drew1) | exact HB.out)) hb); clear HO_5; clear HO_6; clear HB; have HO_5 := n0_; have HO_6 := n1_; have HB := n2_; clear n0_ n1_ n2_; (try clear hb); (try clear hb2); (try clear hk); (try clear hi))))
       go_ret
       exact ⟨by first | rfl | (simp [errW_none, errW_some] <;> rfl) | (simp [*, errW_none, errW_some] <;> rfl), by repeat (first | (with_reducible first | exact HB.out | apply below_alloc | apply pw_below_drewN | apply below_drew1) | exact HB.out)⟩
end Go.Proofs.YtaooejidkeojjaaDoor.PCl
namespace Go.Proofs.YtaooejidkeojjaaDoor.H
open Go.RowKit Go.Proofs.YtaooejidkeojjaaDoorW.PrintWords
set_option linter.unusedVariables false
theorem wrap_nat (n : Int) (h0 : -9223372036854775808 ≤ n) (h : n ≤ 9223372036854775807) : wrap64 n = n := by unfold wrap64; omega
end Go.Proofs.YtaooejidkeojjaaDoor.H
namespace Go.Proofs.YtaooejidkeojjaaDoor.PCl
open Go.RowKit Go.Proofs.YtaooejidkeojjaaDoorW.PrintWords Go.Proofs.YtaooejidkeojjaaDoor.H
set_option linter.unusedVariables false
set_option linter.unusedSimpArgs false
theorem wn (j : Nat) (h : j < 9223372036854775807) : wrap64 ((j : Int) + 1) = ((j + 1 : Nat) : Int) := by rw [wrap_nat _ (by omega) (by omega)]; rfl
def nY (x : S46) : Int := if x.f0 ≥ 0 then wrap64 ((x.f1.length : Int) + 1) else (x.f1.length : Int)
def nX (x : S46) : Int := if x.f2 = true then wrap64 (nY x + 1) else nY x
def addX (s : Nat) (row : List S46) (o : List S41) (j : Nat) : List S41 := if nX (rd_T46 row (j : Int)) > 1 then o ++ [⟨(s : Int), (j : Int)⟩] else o
def rowX (s : Nat) (row : List S46) (o : List S41) : Nat → List S41
  | 0 => o
  | j + 1 => addX s row (rowX s row o j) j
def allX (l : List (List S46)) : Nat → List S41
  | 0 => []
  | i + 1 => rowX i (rd_L4 l (i : Int)) (allX l i) (rd_L4 l (i : Int)).length
theorem addX_len (s : Nat) (row : List S46) (o : List S41) (j : Nat) : (addX s row o j).length ≤ o.length + 1 := by
  unfold addX; split
  · simp
  · omega
theorem rowX_len (s : Nat) (row : List S46) (o : List S41) : ∀ j, (rowX s row o j).length ≤ o.length + j := by
  intro j
  induction j with
  | zero => exact Nat.le_refl _
  | succ j ih =>
    have := addX_len s row (rowX s row o j) j
    show (addX s row (rowX s row o j) j).length ≤ _
    omega
theorem allX_len (l : List (List S46)) (hb : ∀ i, i < l.length → (rd_L4 l (i : Int)).length ≤ 300) : ∀ i, i ≤ l.length → (allX l i).length ≤ i * 300 := by
  intro i
  induction i with
  | zero => intro _; exact Nat.le_refl _
  | succ i ih =>
    intro h
    have h1 := ih (by omega)
    have h2 := rowX_len i (rd_L4 l (i : Int)) (allX l i) (rd_L4 l (i : Int)).length
    have h3 := hb i (by omega)
    show (rowX i (rd_L4 l (i : Int)) (allX l i) (rd_L4 l (i : Int)).length).length ≤ _
    omega
theorem code_row (l : List (List S46)) (row : List S46) (s : Nat) (o : List S41) (r : List S41) (hr : row.length ≤ 300) (ho : o.length ≤ 1000000)
    (hn : Ev (fun k => tables_Clashes.l0 k (rowX s row o row.length) l (l.length : Int) (wrap64 ((s : Int) + 1))) r) :
    ∀ n j, row.length - j ≤ n → j ≤ row.length → Ev (fun k => tables_Clashes.l1 k (rowX s row o j) (s : Int) l (l.length : Int) (s : Int) row (row.length : Int) (j : Int)) r := by
  have fin : Ev (fun k => tables_Clashes.l1 k (rowX s row o row.length) (s : Int) l (l.length : Int) (s : Int) row (row.length : Int) ((row.length : Nat) : Int)) r := by
    refine Ev.step (fun k => ?_) hn
    rw [tables_Clashes.l1, if_neg (by omega)]
  intro n
  induction n with
  | zero =>
    intro j h1 h2
    obtain rfl : j = row.length := by omega
    exact fin
  | succ n ih =>
    intro j h1 h2
    by_cases hlt : j < row.length
    rotate_left
    · obtain rfl : j = row.length := by omega
      exact fin
    have hl := rowX_len s row o j
    have hw := wn j (by omega)
    refine Ev.step (f := fun k => tables_Clashes.j2 k (rowX s row o j) (s : Int) (j : Int) (nY (rd_T46 row (j : Int))) l (l.length : Int) (s : Int) row (row.length : Int) (j : Int) (rd_T46 row (j : Int)).f0 (rd_T46 row (j : Int)).f1 (rd_T46 row (j : Int)).f2) (fun k => ?_) ?_
    · rw [tables_Clashes.l1, if_pos (by omega), if_pos (by omega), if_pos (by omega)]
      unfold nY
      split <;> rfl
    · refine Ev.step (f := fun k => tables_Clashes.l1 k (rowX s row o (j + 1)) (s : Int) l (l.length : Int) (s : Int) row (row.length : Int) ((j + 1 : Nat) : Int)) (fun k => ?_) (ih (j + 1) (by omega) (by omega))
      have e : rowX s row o (j + 1) = addX s row (rowX s row o j) j := rfl
      rw [tables_Clashes.j2, e, hw]
      unfold addX nX
      split
      · split
        · rw [if_pos (by omega)]
        · rfl
      · split
        · rw [if_pos (by omega)]
        · rfl
theorem code_all (l : List (List S46)) (hb : ∀ i, i < l.length → (rd_L4 l (i : Int)).length ≤ 300) (hl : l.length ≤ 301) : Ev (fun k => tables_Clashes.f k 0 0 0 [] l []) (allX l l.length) := by
  have fin : Ev (fun k => tables_Clashes.l0 k (allX l l.length) l (l.length : Int) ((l.length : Nat) : Int)) (allX l l.length) := by
    refine Ev.step (f := fun _ => some _) (fun k => ?_) (Ev.now _)
    rw [tables_Clashes.l0, if_neg (by omega)]
  have loop : ∀ n i, l.length - i ≤ n → i ≤ l.length → Ev (fun k => tables_Clashes.l0 k (allX l i) l (l.length : Int) (i : Int)) (allX l l.length) := by
    intro n
    induction n with
    | zero =>
      intro i h1 h2
      obtain rfl : i = l.length := by omega
      exact fin
    | succ n ih =>
      intro i h1 h2
      by_cases hlt : i < l.length
      rotate_left
      · obtain rfl : i = l.length := by omega
        exact fin
      have hw := wn i (by omega)
      have h3 := allX_len l hb i h2
      have h4 := hb i hlt
      refine Ev.step (f := fun k => tables_Clashes.l1 k (rowX i (rd_L4 l (i : Int)) (allX l i) 0) (i : Int) l (l.length : Int) (i : Int) (rd_L4 l (i : Int)) ((rd_L4 l (i : Int)).length : Int) ((0 : Nat) : Int)) (fun k => ?_) (code_row l (rd_L4 l (i : Int)) i (allX l i) _ h4 (by omega) ?_ _ 0 (Nat.le_refl _) (Nat.zero_le _))
      · rw [tables_Clashes.l0, if_pos (by omega), if_pos (by omega), if_pos (by omega)]; rfl
      · rw [hw]
        exact ih (i + 1) (by omega) (by omega)
  exact loop l.length 0 (by omega) (Nat.zero_le _)
theorem ref_row (l : List (List S46)) (s : Nat) (hs : s < l.length) (hs2 : s ≤ 301) (o : List S41) (r : List S41) (hr : (rd_L4 l (s : Int)).length ≤ 300) (ho : o.length ≤ 1000000)
    (hn : Ev (fun k => rootstockref17_Clashes.l0 k (rowX s (rd_L4 l (s : Int)) o (rd_L4 l (s : Int)).length) (wrap64 ((s : Int) + 1)) 0 0 0 [] l []) r) :
    ∀ n j, (rd_L4 l (s : Int)).length - j ≤ n → j ≤ (rd_L4 l (s : Int)).length → Ev (fun k => rootstockref17_Clashes.l1 k (rowX s (rd_L4 l (s : Int)) o j) (s : Int) (j : Int) 0 0 0 [] l []) r := by
  have fin : Ev (fun k => rootstockref17_Clashes.l1 k (rowX s (rd_L4 l (s : Int)) o (rd_L4 l (s : Int)).length) (s : Int) (((rd_L4 l (s : Int)).length : Nat) : Int) 0 0 0 [] l []) r := by
    refine Ev.step (fun k => ?_) hn
    rw [rootstockref17_Clashes.l1, if_pos (by omega), if_pos (by omega), if_neg (by omega)]
  intro n
  induction n with
  | zero =>
    intro j h1 h2
    obtain rfl : j = (rd_L4 l (s : Int)).length := by omega
    exact fin
  | succ n ih =>
    intro j h1 h2
    by_cases hlt : j < (rd_L4 l (s : Int)).length
    rotate_left
    · obtain rfl : j = (rd_L4 l (s : Int)).length := by omega
      exact fin
    have hl := rowX_len s (rd_L4 l (s : Int)) o j
    have hw := wn j (by omega)
    refine Ev.step (f := fun k => rootstockref17_Clashes.j2 k (rowX s (rd_L4 l (s : Int)) o j) (s : Int) (j : Int) (nY (rd_T46 (rd_L4 l (s : Int)) (j : Int))) 0 0 0 [] l [] (rd_T46 (rd_L4 l (s : Int)) (j : Int)).f0 (rd_T46 (rd_L4 l (s : Int)) (j : Int)).f1 (rd_T46 (rd_L4 l (s : Int)) (j : Int)).f2) (fun k => ?_) ?_
    · rw [rootstockref17_Clashes.l1, if_pos (by omega), if_pos (by omega), if_pos (by omega), if_pos (by omega)]
      unfold nY
      split <;> rfl
    · refine Ev.step (f := fun k => rootstockref17_Clashes.l1 k (rowX s (rd_L4 l (s : Int)) o (j + 1)) (s : Int) ((j + 1 : Nat) : Int) 0 0 0 [] l []) (fun k => ?_) (ih (j + 1) (by omega) (by omega))
      have e : rowX s (rd_L4 l (s : Int)) o (j + 1) = addX s (rd_L4 l (s : Int)) (rowX s (rd_L4 l (s : Int)) o j) j := rfl
      rw [rootstockref17_Clashes.j2, e, hw]
      unfold addX nX
      split
      · split
        · rw [if_pos (by omega)]
        · rfl
      · split
        · rw [if_pos (by omega)]
        · rfl
theorem ref_all (l : List (List S46)) (hb : ∀ i, i < l.length → (rd_L4 l (i : Int)).length ≤ 300) (hl : l.length ≤ 301) : Ev (fun k => rootstockref17_Clashes.f k 0 0 0 [] l []) (allX l l.length) := by
  have fin : Ev (fun k => rootstockref17_Clashes.l0 k (allX l l.length) ((l.length : Nat) : Int) 0 0 0 [] l []) (allX l l.length) := by
    refine Ev.step (f := fun _ => some _) (fun k => ?_) (Ev.now _)
    rw [rootstockref17_Clashes.l0, if_neg (by omega)]
  have loop : ∀ n i, l.length - i ≤ n → i ≤ l.length → Ev (fun k => rootstockref17_Clashes.l0 k (allX l i) (i : Int) 0 0 0 [] l []) (allX l l.length) := by
    intro n
    induction n with
    | zero =>
      intro i h1 h2
      obtain rfl : i = l.length := by omega
      exact fin
    | succ n ih =>
      intro i h1 h2
      by_cases hlt : i < l.length
      rotate_left
      · obtain rfl : i = l.length := by omega
        exact fin
      have hw := wn i (by omega)
      have h3 := allX_len l hb i h2
      have h4 := hb i hlt
      refine Ev.step (f := fun k => rootstockref17_Clashes.l1 k (rowX i (rd_L4 l (i : Int)) (allX l i) 0) (i : Int) ((0 : Nat) : Int) 0 0 0 [] l []) (fun k => ?_) (ref_row l i hlt (by omega) (allX l i) _ h4 (by omega) ?_ _ 0 (Nat.le_refl _) (Nat.zero_le _))
      · rw [rootstockref17_Clashes.l0, if_pos (by omega)]; rfl
      · rw [hw]
        exact ih (i + 1) (by omega) (by omega)
  exact loop l.length 0 (by omega) (Nat.zero_le _)
theorem same_all (o : List S41) (ho : o.length ≤ 1000000) : Ev (fun k => rootstocklaw17_TablesClash.l1 k o o 0) true := by
  have fin : Ev (fun k => rootstocklaw17_TablesClash.l1 k o o ((o.length : Nat) : Int)) true := by
    refine Ev.step (f := fun _ => some true) (fun k => ?_) (Ev.now _)
    rw [rootstocklaw17_TablesClash.l1, if_neg (by omega)]; rfl
  have loop : ∀ n i, o.length - i ≤ n → i ≤ o.length → Ev (fun k => rootstocklaw17_TablesClash.l1 k o o (i : Int)) true := by
    intro n
    induction n with
    | zero =>
      intro i h1 h2
      obtain rfl : i = o.length := by omega
      exact fin
    | succ n ih =>
      intro i h1 h2
      by_cases hlt : i < o.length
      rotate_left
      · obtain rfl : i = o.length := by omega
        exact fin
      have hw := wn i (by omega)
      refine Ev.step (f := fun k => rootstocklaw17_TablesClash.l1 k o o ((i + 1 : Nat) : Int)) (fun k => ?_) (ih (i + 1) (by omega) (by omega))
      rw [rootstocklaw17_TablesClash.l1, if_pos (by omega), if_pos (by omega), if_pos (by omega), if_neg (by simp), hw]
  exact loop o.length 0 (by omega) (Nat.zero_le _)
theorem clash_ev (l : List (List S46)) : ∀ (n i : Nat) (m : Nat), l.length - i ≤ n → i ≤ l.length → i ≤ 301 → m ≤ 300 → (∀ j, j < i → (rd_L4 l (j : Int)).length ≤ 300) → Ev (fun k => rootstocklaw17_TablesClash.l0 k l (m : Int) (i : Int)) true := by
  have fin : ∀ m : Nat, l.length ≤ 301 → (∀ j, j < l.length → (rd_L4 l (j : Int)).length ≤ 300) → Ev (fun k => rootstocklaw17_TablesClash.l0 k l (m : Int) ((l.length : Nat) : Int)) true := by
    intro m h1 hb
    obtain ⟨K1, h1'⟩ := code_all l hb h1
    obtain ⟨K2, h2'⟩ := ref_all l hb h1
    obtain ⟨K3, h3'⟩ := same_all (allX l l.length) (by have := allX_len l hb l.length (Nat.le_refl _); omega)
    refine ⟨K1 + K2 + K3 + 1, fun k hk => ?_⟩
    obtain ⟨k, rfl⟩ : ∃ m, k = m + 1 := ⟨k - 1, by omega⟩
    show rootstocklaw17_TablesClash.l0 (k + 1) l (m : Int) ((l.length : Nat) : Int) = some true
    rw [rootstocklaw17_TablesClash.l0, if_neg (by omega)]
    have e1 := h1' k (by omega)
    have e2 := h2' k (by omega)
    have e3 := h3' k (by omega)
    dsimp only at e1 e2 e3
    rw [e1, Option.bind_some, e2, Option.bind_some, if_pos rfl, e3]
  intro n
  induction n with
  | zero =>
    intro i m h1 h2 h3 h4 h5
    obtain rfl : i = l.length := by omega
    exact fin m h3 h5
  | succ n ih =>
    intro i m h1 h2 h3 h4 h5
    by_cases hlt : i < l.length
    rotate_left
    · obtain rfl : i = l.length := by omega
      exact fin m h3 h5
    have hw := wn i (by omega)
    have hs : wrap64 (300 - (m : Int)) = 300 - (m : Int) := wrap_nat _ (by omega) (by omega)
    by_cases h300 : (i : Int) > 300
    · refine Ev.step (f := fun _ => some true) (fun k => ?_) (Ev.now _)
      rw [rootstocklaw17_TablesClash.l0, if_pos (by omega), if_pos h300]; rfl
    by_cases hr : ((rd_L4 l (i : Int)).length : Int) > 300 - (m : Int)
    · refine Ev.step (f := fun _ => some true) (fun k => ?_) (Ev.now _)
      rw [rootstocklaw17_TablesClash.l0, if_pos (by omega), if_neg h300, if_pos (by omega), hs, if_pos hr]; rfl
    have ha : wrap64 ((m : Int) + ((rd_L4 l (i : Int)).length : Int)) = ((m + (rd_L4 l (i : Int)).length : Nat) : Int) := by rw [wrap_nat _ (by omega) (by omega)]; omega
    refine Ev.step (f := fun k => rootstocklaw17_TablesClash.l0 k l ((m + (rd_L4 l (i : Int)).length : Nat) : Int) ((i + 1 : Nat) : Int)) (fun k => ?_) (ih (i + 1) (m + (rd_L4 l (i : Int)).length) (by omega) (by omega) (by omega) (by omega) (fun j hj => ?_))
    · rw [rootstocklaw17_TablesClash.l0, if_pos (by omega), if_neg h300, if_pos (by omega), hs, if_neg hr, hw, ha]
    · by_cases e : j = i
      · subst e; omega
      · exact h5 j (by omega)
theorem clash_pure (l : List (List S46)) : ∃ k, rootstocklaw17_TablesClash.f k l = some true := by
  obtain ⟨K, h⟩ := clash_ev l l.length 0 0 (by omega) (Nat.zero_le _) (by omega) (by omega) (fun j hj => absurd hj (Nat.not_lt_zero _))
  exact ⟨K, h K (Nat.le_refl _)⟩
end Go.Proofs.YtaooejidkeojjaaDoor.PCl
namespace Go.Proofs.YtaooejidkeojjaaDoor.tablesClash
open Go.ChangeShapes Go.WideShapes Go.ChangeAt Go.RowKit Go.Proofs.YtaooejidkeojjaaDoorW.PrintWords Go.Proofs.YtaooejidkeojjaaDoor.PCl Go.Proofs.YtaooejidkeojjaaDoor.Rg
set_option linter.unusedVariables false
set_option linter.unusedSimpArgs false
set_option maxRecDepth 100000
theorem rds_46 {H : Type} {enc : TypeId × Value → H} {w : World} : ∀ n, Rds enc w 46 k46 n := by
  intro n
  intro cs y h
  obtain ⟨m, rfl, hl, hf⟩ := str_of Tryd.underlying46 h
  rw [show Tryd.prog.cellsOf 46 = 3 from by kernel_rfl] at hl
  have h0 : ∃ z, DataW.trod enc Tryd.prog w 0 (fun _ => true) true m 3 ((cs.drop 0).take 1) = some z := by
    obtain ⟨z, hz⟩ := hf 0 _ rfl
    refine ⟨z, ?_⟩
    rw [← show Tryd.prog.cellsOf 3 = 1 from by kernel_rfl]
    exact hz
  obtain ⟨z0, g0⟩ := h0
  have h1 : ∃ z, DataW.trod enc Tryd.prog w 0 (fun _ => true) true m 44 ((cs.drop 1).take 1) = some z := by
    obtain ⟨z, hz⟩ := hf 1 _ rfl
    refine ⟨z, ?_⟩
    rw [← show Tryd.prog.cellsOf 44 = 1 from by kernel_rfl]
    exact hz
  obtain ⟨z1, g1⟩ := h1
  have h2 : ∃ z, DataW.trod enc Tryd.prog w 0 (fun _ => true) true m 4 ((cs.drop 2).take 1) = some z := by
    obtain ⟨z, hz⟩ := hf 2 _ rfl
    refine ⟨z, ?_⟩
    rw [← show Tryd.prog.cellsOf 4 = 1 from by kernel_rfl]
    exact hz
  obtain ⟨z2, g2⟩ := h2
  exact fld_iso (fun x => ⟨x.1, x.2.1, x.2.2⟩) (fun _ => rfl) (fld_cons (rds_int Tryd.underlying3 _) g0 (fld_cons (rds_slice Tryd.underlying44 (by kernel_rfl) (fun j _ => (rds_int Tryd.underlying3 _))) g1 (fld_last (rds_bool Tryd.underlying4 _) hl g2)))
theorem own : ownKnob Tryd.prog.godebug = none := by kernel_rfl
theorem laidOut : laidOutB Tryd.prog = true := by kernel_rfl
theorem door_met (os : Os) (args : Array Value) : laidMetH Tryd.prog [("math/bits.deBruijn64tab", Rows.laid_math_bits_deBruijn64tab)] ((World.doorLaid Tryd.prog 400 os).forCall (fun _ _ => 0) ⟨#[], args, []⟩).memory :=
  laidMetH_of_parts3 (fuel := 8) (laidMet_of_run' 8 (by kernel_rfl) (by kernel_rfl)) (by kernel_rfl) (by kernel_rfl)
theorem of_laid {W : World} (h : laidMetH Tryd.prog [("math/bits.deBruijn64tab", Rows.laid_math_bits_deBruijn64tab)] W) : Go.Proofs.YtaooejidkeojjaaDoor.H.Laid W := by
  rw [MakeChecks.laidMetH_plain _ _ _ (by kernel_rfl)] at h
  exact Lib.tabIs_of_head (k := .u8) (zs := H.brTab) (rest := []) (show Tryd.prog.globalNamed "math/bits.deBruijn64tab" = some 0 from by kernel_rfl) (show (Tryd.prog.globals[0]?).map (·.type) = some 129 from by kernel_rfl) Tryd.underlying129 Tryd.underlying5 (by kernel_rfl) (by kernel_rfl) h
set_option maxRecDepth 100000 in
theorem lifted (os : Os) (started : os.Started) (H : Type) (enc : TypeId × Value → H) :
    ReturnsInHanded {} Tryd.checked os 4 .any (fun w args => (Rows.tablesClashSpec.pre enc Tryd.prog Tryd.f4 [] false w args ∧ laidMetH Tryd.prog [("math/bits.deBruijn64tab", Rows.laid_math_bits_deBruijn64tab)] w) ∧ sizedMet enc Tryd.prog Tryd.f4 (OpenSpec.ofChange Rows.tablesClashSpec) false w args) (Rows.tablesClashSpec.post enc Tryd.prog Tryd.f4 false true false false) := by
  refine returnsInHanded_of_change_and (C := Tryd.checked) (X := fun w _ => laidMetH Tryd.prog [("math/bits.deBruijn64tab", Rows.laid_math_bits_deBruijn64tab)] w) (fun _ _ _ hh h => h.of_heap hh) own started (by kernel_rfl) Tryd.func4
    (ChangeSpec.witness_shaped (enc := enc) (C := Tryd.checked) (os := os) (X := fun w _ => laidMetH Tryd.prog [("math/bits.deBruijn64tab", Rows.laid_math_bits_deBruijn64tab)] w) false (World.doorLaid Tryd.prog 400 os) #[.slice none 0 0] 8 rfl (World.shaped_of_RefB (by kernel_rfl) (by kernel_rfl)) (by kernel_rfl) (by kernel_rfl) (by kernel_rfl) (door_met os _)) ?_
  intro W base args ds gs before hval0 hW hcnd hsz0 hL0 _
  have hLaid := of_laid hL0
  have hval : ∀ (j : Nat) t v, Tryd.f4.params[j]? = some t → args[j]? = some v → Value.okWide Tryd.prog W .any base t v := hval0
  have hW' := hW
  obtain ⟨p, q, hA0, hV, rfl, hfz, hnd⟩ := hW
  have hA : DataW.TrodAll enc Tryd.prog W 0 (fun _ => true) true Tryd.f4.params.toList args.toList ds p := hA0
  rw [Tryd.params4] at hA hval
  obtain ⟨v0, vs0, d0, ds0, p0, q0, hargs, rfl, rfl, h0, r0⟩ := trodAll_cons hA
  obtain ⟨rfl, rfl, rfl⟩ := trodAll_nil r0
  obtain rfl : args = #[v0] := by cases args; simp_all
  obtain ⟨rfl, rfl⟩ := trodVars_none hV
  have k0 := h0
  have lt0 : ∀ x ∈ p0, x.block < W.heap.size := by obtain ⟨m, hm⟩ := k0; exact DataW.trod_lt m _ _ _ hm
  obtain ⟨A0, l0, c0, rfl, hc0, hr0⟩ := arg_slice (d := (Kd.slice 46 k46)) Tryd.underlying27 (by kernel_rfl) (hval 0 27 v0 rfl rfl) h0 (fun n => (rds_slice Tryd.underlying37 (by kernel_rfl) (fun j _ => (rds_46 _))))
  obtain ⟨fuel, hpure⟩ := clash_pure (l0)
  have hcall := rootstocklaw17_TablesClash.calls (k := fuel) (l0 := l0) (A0 := A0) (c0 := c0) (hr0 := hr0) (hc0 := hc0) (r := true) (w := W) (hrt_ := rfl) (h := hpure) (hl_ := hLaid)
  refine hcall.mono fun e W' ⟨he, bel⟩ => ?_
  subst he
  exact ⟨_, rfl, _, _, _, [], _, [], hW', trodAll_mk1 (shut_bool Tryd.underlying4 _), (trodAll_cons_mk (Below.trod laidOut (by kernel_rfl) (of_decide_eq_true (by kernel_rfl)) k0 bel lt0) trodAll_mk0), rfl, bel.frame _, fun h => by cases h⟩
theorem over : Rows.tablesClashRow.holds Tryd.pinned (OpenSpec.ofChange Rows.tablesClashSpec) :=
  OpenClaim.holds_of_wide 4 Tryd.f4 rfl rfl rfl rfl rfl rfl rfl ⟨rfl, rfl, rfl, rfl, rfl⟩ rfl rfl rfl rfl rfl (by kernel_rfl) Tryd.func4 (by kernel_rfl)
    (of_decide_eq_true (by kernel_rfl)) (by unfold Func.isWrapper; first | (rw [if_pos (by decide +kernel)]; kernel_rfl) | (rw [if_neg (by decide +kernel)]; exact ⟨rfl, rfl⟩))
    (fun os started H enc _ => lifted os started H enc)
end Go.Proofs.YtaooejidkeojjaaDoor.tablesClash
namespace Go.Proofs.YtaooejidkeojjaaDoor
theorem tablesClash_holds : Rows.TablesClashSaid := tablesClash.over
#print axioms tablesClash_holds
end Go.Proofs.YtaooejidkeojjaaDoor
